/- Package extent: the freed units: search, clone, give. Conditions: as each theorem says. -/
import Derived.Test.YtcfifbpkngplmaaXg
import Derived.Shelf.Slices.SearchI
import Derived.Shelf.Slices.Empties
import Derived.Test.YtcfifbpkngplmaaEngX5
set_option linter.unusedSimpArgs false
set_option linter.unusedVariables false
namespace Go.Proofs
open Go.Shelf
def Try.lays75_ren : Go.Shelf.Ren := ⟨fun | 25 => 75 | 31 => 81 | 32 => 82 | 37 => 95 | n => n, fun | 22 => 41 | 40 => 118 | n => n, fun n => n⟩
theorem Try.lays75 : Go.Proofs.Lays2.n25 Try.prog Try.lays75_ren := {
  mixed := by kernel_rfl
  f25 := Try.func75.trans (congrArg some (by kernel_rfl))
  f31 := Try.func81.trans (congrArg some (by kernel_rfl))
  f32 := Try.func82.trans (congrArg some (by kernel_rfl))
  f37 := Try.func95.trans (congrArg some (by kernel_rfl))
  t0 := Try.underlying0
  a0 := Try.isAgg0
  z0 := Try.sizeOf0
  v0 := Try.zeroValue0
  t3 := Try.underlying3
  a3 := Try.isAgg3
  z3 := Try.sizeOf3
  v3 := Try.zeroValue3
  t4 := Try.underlying4
  a4 := Try.isAgg4
  z4 := Try.sizeOf4
  v4 := Try.zeroValue4
  t22 := Try.underlying41
  a22 := Try.isAgg41
  z22 := Try.sizeOf41
  v22 := Try.zeroValue41
  t40 := Try.underlying118
  a40 := Try.isAgg118
  z40 := Try.sizeOf118
  v40 := Try.zeroValue118 }
end Go.Proofs
namespace Sx
open Go Go.Proofs
set_option maxRecDepth 100000
set_option pp.deepTerms true
set_option pp.maxSteps 10000000
theorem Sat.drewN {β : Env} {hp ro : Hp} {B : Base} {nx : Nat} {w : World} (hs : Sat β hp ro B nx w) (q : Nat) : Sat β hp ro B nx (w.drewN q) :=
  ⟨⟨hs.own, hs.apart, hs.read, hs.old, hs.os, hs.tape, hs.output, hs.size, hs.pin⟩, hs.fresh⟩
theorem search_hc (L : List Int) (hl : L.length < 1000000) (hs : L.Pairwise (· ≤ ·)) (off0 : Nat) (x : Int) :
    HC Try.prog 75 [.sq 0 off0 0 1 L.length .no, i64 x] [] [(0, .row off0 L.length L.length 1 (nrow L) anyTy)] 1 (fun _ : Unit => True) (fun _ => ⟨.tup [i64 (L.countP (· < x) : Nat), .sb (L.contains x)], [], 1⟩) := by
  intro B β w vs hB hvs hsat
  obtain ⟨v0, vs0, rfl, ⟨base, room, rfl, q1, q2, q3, q4⟩, v1, vs1, rfl, hv1, rfl⟩ := hvs
  have hv1 : v1 = .int .i64 x := hv1
  subst hv1
  rcases Nat.eq_zero_or_pos L.length with h0 | h0
  · have hLn : L = [] := List.length_eq_zero_iff.1 h0
    subst hLn
    refine Calls.mono (Any.slices_BinarySearch_int_empty Try.lays75 base room x w) ?_
    rintro e w' ⟨rfl, rfl⟩
    exact ⟨(), β, _, trivial, Env.le_refl _, rfl, ⟨_, rfl, _, _, rfl, rfl, _, _, rfl, rfl, rfl⟩, hsat⟩
  · obtain ⟨q7, b, q8, rfl, _⟩ := q4 h0
    obtain ⟨b', ob, g1, g2, c, fz, tt, c0, rfl, c1, c2, c3⟩ := hsat.read 0 _ rfl h0
    rw [q8] at g1; injection g1 with g1; subst g1
    have hh := hsat.old b _ g2
    have hC := Any.slices_BinarySearch_int Try.lays75 b (off0 + 0 * 1) L.length room L x w (Nat.le_refl _) (by omega) (fun j hj => by
      obtain ⟨u, hu, hur⟩ := c3 j 0 hj (by decide)
      have hur : u = .int .i64 (L.getD j 0) := hur
      rw [hur] at hu
      simp only [World.cell?, hh]
      simpa using hu) (by rw [List.take_length]; exact hs)
    rw [List.take_length] at hC
    refine Calls.mono hC ?_
    rintro e w' ⟨rfl, q, rfl⟩
    exact ⟨(), β, _, trivial, Env.le_refl _, rfl, ⟨_, rfl, _, _, rfl, rfl, _, _, rfl, rfl, rfl⟩, hsat.drewN q⟩
abbrev cfE : List Nat := [36, 60, 62, 63, 75, 76]
def modeE : Mode := { st := true, unr := false, inl := fun f => !hasN f cfE, sum := sumOf [], keep := fun _ => none }
theorem goE {B : Base} (hB : B.ok) {ro : Hp} {f : FuncId} {R : Ending → World → Prop} {cs0 cs : List Prop} {c c0 c' : Cfg} (h0 : stepD Try.prog modeE ro c = some (cs0, c0)) (h : execG Try.prog modeE ro 400 cs0 c0 = (cs, c')) (hc : conj cs)
    (hr : Run Try.prog ro B f R c') : Run Try.prog ro B f R c := run_go mixed named hB (sumOk_nil _) 400 h0 h hc hr
theorem clone_hcx (K : Kn) (v : Value) (l : List Int) (hl : l.length < 1000000) (hF : Froz K v l.length 1 (nrow l)) :
    HCX Try.prog K M0 60 [.val v] [] [] 0 (fun (_ : Unit) K' => K' = K) (fun _ => ⟨.sq 0 0 0 1 l.length .own, [(0, .row 0 l.length l.length 1 (nrow l) 3)], 1⟩) := by
  refine hcx_of_run Try.func60 rfl (fun B hB hK hpin => ?_)
  have hFz : Fz B K M0 B K := .refl hB hK
  refine goE hB rfl rfl (by first | exact conj_nil | simp [conj]) ?_
  obtain ⟨base, room, rfl, e2, e3⟩ := id hF
  refine run_vnil isSl41.choose_spec rfl rfl rfl conj_nil (fun hb => ⟨?_, e2 hb⟩) rfl ?_
  · rcases Nat.eq_zero_or_pos l.length with h | h
    · exact h
    · obtain ⟨_, b, o, _, _, _, h5, _⟩ := e3 h
      rw [hb] at h5; cases h5
  refine goE hB rfl rfl (by first | exact conj_nil | simp [conj]) ?_
  refine run_cond rfl (fun hb => ?_) (fun hb => ?_)
  · have h0 : l.length = 0 := by
      rcases Nat.eq_zero_or_pos l.length with h | h
      · exact h
      · obtain ⟨_, b, o, _, _, _, h5, _⟩ := e3 h
        rw [h5] at hb; cases hb
    have hl0 : l = [] := List.eq_nil_of_length_eq_zero h0
    subst hl0
    refine goE hB rfl rfl (by first | exact conj_nil | simp [conj]) ?_
    exact run_retF hFz hpin () rfl [5] rfl rfl (by first | exact conj_nil | simp [conj]) rfl (by simp [conj])
  · refine goE hB rfl rfl (by first | exact conj_nil | simp [conj]) ?_
    refine run_open hK 6 hF (by decide) rfl (fun off => ?_)
    refine goE hB rfl rfl (by simp [conj]; exact ⟨by omega, by omega, fun i _ => rfl⟩) ?_
    refine run_close (.inl rfl) ?_
    refine run_retF hFz hpin () rfl [2] rfl rfl (by first | exact conj_nil | simp [conj]) rfl ?_
    simp [conj, less_rfl, ren_nrow]
    exact fun i _ => (Less.rfl : Less (nrow l i 0) (nrow l i 0))
abbrev xC (vF : Value) (nx tot un : Int) (m : Nat) : SO := .cells [.val vF, i64 nx, i64 tot, i64 un, .mp m] 66
abbrev amap (h : Int → Bool) (sz : Int → Int) (V : Int → Value) : SO := .map .i64 h (.recs .i64 sz V)
def insF (u : Int) (F : List Int) : List Int := insAt F (F.countP (· < u)) u
theorem give_hcx (K : Kn) (vF : Value) (F : List Int) (hl : F.length < 100000) (hs : F.Pairwise (· ≤ ·)) (hF : Froz K vF F.length 1 (nrow F)) (nx tot un : Int) (h : Int → Bool) (sz : Int → Int) (V : Int → Value) (u : Int) :
    HCX Try.prog K M0 63 [.ptr 0 0, i64 u] [(0, xC vF nx tot un 1), (1, amap h sz V)] [] 2 (fun (w : Value) K' => Froz K' w (insF u F).length 1 (nrow (insF u F))) (fun w => ⟨.tup [], [(0, xC w nx tot un 1), (1, amap h sz V)], 2⟩) := by
  refine hcx_of_run Try.func63 rfl (fun B hB hK hpin => ?_)
  have hF0 : Fz B K M0 B K := .refl hB hK
  have hcp : F.countP (· < u) ≤ F.length := List.countP_le_length
  refine goE hB rfl rfl (by first | exact conj_nil | simp [conj]) ?_
  refine run_open hK 10 hF (by decide) rfl (fun off => ?_)
  refine run_callC (search_hc F (by omega) hs off u) named hB [2] rfl rfl rfl rfl (by first | exact conj_nil | simp [conj]) (by simp [conj, less_rfl, ren_nrow]) ?_
  rintro ⟨⟩ _
  refine ⟨show 1 ≤ 1 by omega, _, _, _, rfl, rfl, rfl, ?_⟩
  refine run_close (.inl rfl) ?_
  refine goE hB rfl rfl (by first | exact conj_nil | simp [conj]) ?_
  refine run_callX (clone_hcx K vF F (by omega) hF) named hB hK (fun _ h => h.elim) (.inl rfl) [] rfl rfl rfl rfl (by first | exact conj_nil | simp [conj]) (by simp [conj, less_rfl]) ?_
  rintro ⟨⟩ B2 K2 rfl hF2 hp2
  have hB2 := hF2.ok
  have hpin2 := hpin.fz hF2 hp2
  refine ⟨show 0 ≤ 1 by omega, _, _, _, rfl, rfl, rfl, ?_⟩
  refine goE hB2 rfl rfl (by first | exact conj_nil | simp [conj]) ?_
  refine run_callX (insert_hcx K2 F (by omega) _ hcp u) named hB2 hF2.le (fun _ h => h.elim) (.inl rfl) [3, 4] rfl rfl rfl rfl (by first | exact conj_nil | simp [conj]) (by simp [conj, less_rfl, ren_nrow, renR_nrow]) ?_
  rintro w B3 K3 hw hF3 hp3
  have hB3 := hF3.ok
  have hw2 : Froz K3 w (insF u F).length 1 (nrow (insF u F)) := by unfold insF; rw [insAt_len]; exact hw
  refine ⟨show 2 ≤ 2 by omega, _, _, _, rfl, rfl, rfl, ?_⟩
  refine goE hB3 rfl rfl (by first | exact conj_nil | simp [conj]) ?_

  refine run_endF (hF2.trans0 hF3 hK fun _ h => h.elim) (hpin2.fz hF3 hp3) w hw2 [0, 1] rfl rfl (by first | exact conj_nil | simp [conj]) rfl ?_
  simp [conj, less_rfl]
end Sx
