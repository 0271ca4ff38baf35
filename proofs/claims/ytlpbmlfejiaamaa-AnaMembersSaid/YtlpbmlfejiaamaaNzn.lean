/- The reference of chapter 44: Remove, where there is something to remove. Conditions: as each theorem says. -/
import Derived.Test.YtlpbmlfejiaamaaNzm
set_option linter.unusedSimpArgs false
set_option linter.unusedVariables false
namespace Sx
open Go Go.Proofs
set_option maxRecDepth 100000
set_option pp.deepTerms true
set_option pp.maxSteps 10000000
theorem goMT {B : Base} (hB : B.ok) {ro : Hp} {f : FuncId} {R : Ending → World → Prop} (S : List (Nat × Nat)) (m : Nat) {cs : List Prop} {c c' : Cfg} (h : execY Try.prog modeM ro S m [] c = (cs, c')) (hc : conj cs)
    (hr : Run Try.prog ro B f R c') : Run Try.prog ro B f R c := run_goY mixed named hB sN_ok S m h hc hr
theorem removeR_ok (K : Kn) (s : GS) (hs : GOk s) (l : List Int) (hk : KeysOf s.h l) (hl : l.length < 129) (vL : Value) (V : Nat → Value) (hR : ROK K s l vL V) (nm : Int) (h0 : 0 ≤ nm ∧ nm ≤ 4294967295) (hq : (grO s nm).2 = 0) :
    HCX Try.prog K M0 44 [RG vL s.now, u32 nm] [] [] 0 (fun (z : Value × (Nat → Value)) K' => ROK K' (gDel s nm) (lDel nm l) z.1 z.2) (fun z => ⟨.tup [RG z.1 s.now, i64 0], [], 0⟩) := by
  have hn0 := hs.n0
  have hn1 := hs.n1
  have hG := hR.g
  have hM := hR.m
  have hF := groupR_hcx K s hs l hk hl vL V hR nm h0
  have hn : (s.n.toNat : Int) = s.n := by omega
  generalize hnn : s.n.toNat = n at hG hn hM
  have hg0 : (grO s nm).1 = grp s nm ∧ 1 ≤ grp s nm ∧ grp s nm ≤ s.n := by
    unfold grO at hq ⊢
    split at hq
    · cases hq
    · rename_i h1
      rw [if_neg h1]
      split at hq
      · cases hq
      · rename_i h2
        rw [if_neg h2]
        refine ⟨rfl, ?_⟩
        unfold grp at h2 ⊢
        cases hh : s.h nm with
        | false => rw [hh] at h2; exact absurd rfl h2
        | true => exact hs.v0 nm hh
  rw [hq, hg0.1] at hF
  have hg := hg0.2
  clear hg0
  generalize hgg : grp s nm = g at hF hg
  refine hcx_of_run Try.func44 rfl (fun B hB hK hpin => ?_)
  refine goM hB rfl rfl (by first | exact conj_nil | simp [conj]) ?_
  refine run_callX hF named hB hK (fun _ h => h.elim) (.inr fun _ h => h) [] rfl rfl rfl rfl (by first | exact conj_nil | simp [conj]) (by first | exact conj_nil | simp [conj]) ?_
  rintro ⟨⟩ B2 K2 e2 hF2 hp2
  subst e2
  have hB2 := hF2.ok
  have hK2 := hF2.le
  have hpin2 := hpin.fz hF2 hp2
  refine ⟨show 0 ≤ 0 by omega, _, _, _, rfl, rfl, rfl, ?_⟩
  refine goM hB2 rfl rfl (by first | exact conj_nil | simp [conj]) ?_
  refine run_ff rfl ?_
  refine goM hB2 rfl rfl (by simp [conj, Fits_i64]; omega) ?_
  refine run_open hK2 22 hG (by decide) rfl (fun off2 => ?_)
  refine goM hB2 rfl rfl (by simp [conj, Fits_i64]; omega) ?_
  rw [Nat.zero_add]
  have hL := hM (g - 1).toNat (by omega)
  have eg : (((g - 1).toNat : Nat) : Int) + 1 = g := by omega
  rw [eg] at hL
  have hlen : (mem s g l).length ≤ l.length := List.length_filter_le _ _
  have hdel := mem_del hk (nm := nm) hg.1
  generalize mem s g l = L at hL hlen hdel
  refine run_close (.inl rfl) ?_
  refine run_openB hK2 3 3 hL (by decide) rfl rfl (fun _ => rfl) (fun _ => rfl) (fun off3 => ?_)
  refine run_loop ?_
  have hfl : L.filter (fun a => decide (a ≠ nm)) = (L.take L.length).filter (fun a => decide (a ≠ nm)) := by rw [List.take_length]
  rw [hfl] at hdel
  generalize hp : (fun a : Int => decide (a ≠ nm)) = p at hdel
  refine run_inv (ι := Nat) hpin2 (fun k => k ≤ L.length) (fun k => L.length - k) (fun k => [(10, i64 k), (9, .sq 5 0 0 1 ((L.take k).filter p).length .own), (8, .ptr 3 0), (6, i64 g), (5, i64 0), (4, .ptr 1 0), (2, .ptr 0 0), (1, u32 nm)]) (fun _ => []) (fun k => [(5, .row 0 ((L.take k).filter p).length ((L.take k).filter p).length 1 (rowL .u32 ((L.take k).filter p)) 29), (3, .cells [i64 (s.to (g - 1).toNat), i64 (s.fr (g - 1).toNat), u64 (s.ch (g - 1).toNat), .sq 4 off3 0 1 L.length .no] 51), (1, .cells [.und, .und] 37), (0, .cells [.val vL, i64 s.now] 37)]) 6 0 (Nat.zero_le _) [0, 1, 2, 3, 4, 5] rfl rfl (by simp [conj, less_rfl, ren_rowL]) ?_
  intro k hk1 ih
  have e0 : 0 + ((k : Nat) : Int).toNat = k := by omega
  refine goM hB2 rfl rfl (by first | exact conj_nil | simp [conj]) ?_
  by_cases hkl : k < L.length
  · refine run_tt (by simpa using hkl) ?_
    have ih := ih (k + 1) (by omega) (by omega)
    have e1 := fl_take p L k hkl
    have hlf := len_filter p L k
    have hpx : p (lsD L k) = decide (lsD L k ≠ nm) := by rw [← hp]
    generalize (L.take k).filter p = M at e1 hlf ⊢
    refine goMT hB2 [(44, 40)] 400 rfl (by simp [conj] <;> omega) ?_
    rw [e0]
    by_cases hx : lsD L k = nm
    · have hpf : p (lsD L k) = false := by rw [hpx]; simpa using hx
      rw [if_neg (by rw [hpf]; decide)] at e1
      rw [e1] at ih
      refine run_ff (by show (!decide (lsD L k = nm)) = false; rw [hx]; simp) ?_
      refine goM hB2 rfl rfl (by simp [conj, Fits_i64] <;> omega) ?_
      refine run_back ?_
      refine run_to hpin2 [0, 1, 2, 3, 4, 5] rfl rfl ?_ ih
      clear ih
      simp [conj, less_rfl, ren_rowL]
    · have hpf : p (lsD L k) = true := by rw [hpx]; simpa using hx
      rw [if_pos hpf] at e1
      rw [e1] at ih
      refine run_tt (by show (!decide (lsD L k = nm)) = true; simpa using hx) ?_
      refine goM hB2 rfl rfl (by simp [conj, Fits_i64] <;> omega) ?_
      refine run_back ?_
      refine run_to hpin2 [0, 1, 2, 3, 4, 7] rfl rfl ?_ ih
      clear ih
      rw [e0]
      simp [conj, less_rfl, ren_rowL]
      clear hfl
      exact fun j hj => Less.of (app_rowL M _ j hj)
  · clear ih
    have hkn : k = L.length := by omega
    rw [← hkn] at hdel
    refine run_ff (by simpa using hkl) ?_
    refine goMT hB2 [] 8 rfl (by first | exact conj_nil | simp [conj]) ?_
    generalize hL' : (L.take k).filter p = L' at hdel
    refine run_freezeB (L := 5) (off := 0) (sz := 1) (m := L'.length) (ap := .own) hB2 hK2 3 3 rfl rfl rfl rfl (Nat.le_refl _) (fun a b _ hb => closed_rowL _ _ _ hb) rfl (fun _ => rfl) (fun _ => rfl) ?_
    intro v B3 K3 hv hF3 hp3
    have hB3 := hF3.ok
    have hK3 := hF3.le
    have hpin3 := hpin2.fz hF3 hp3
    have hG3 := hG.fz hF3
    refine run_close (.inl rfl) ?_
    have hset := setR_hcx K3 s vL V n (by omega) hG3 s.now (s.to (g - 1).toNat) (s.fr (g - 1).toNat) (s.ch (g - 1).toNat) v hv.one (g - 1).toNat (by omega)
    have eg2 : (((g - 1).toNat : Nat) : Int) = g - 1 := by omega
    rw [eg2] at hset
    refine goM hB3 rfl rfl (by simp [conj, Fits_i64]; omega) ?_
    refine run_callX hset named hB3 hK3 (fun _ h => h.elim) (.inr fun _ h => h) [] rfl rfl rfl rfl (by first | exact conj_nil | simp [conj]) (by simp [conj]) ?_
    rintro vL' B4 K4 hv4 hF4 hp4
    have hB4 := hF4.ok
    refine ⟨show 0 ≤ 0 by omega, _, _, _, rfl, rfl, rfl, ?_⟩
    refine goM hB4 rfl rfl (by first | exact conj_nil | simp [conj]) ?_
    have hfin : ROK K4 (gDel s nm) (lDel nm l) vL' (fun a => if a = (g - 1).toNat then v else V a) := by
      refine ⟨?_, fun j hj => ?_⟩
      · show Froz K4 vL' s.n.toNat 4 _
        rw [hnn]
        refine hv4.congr fun a b _ hb => ?_
        match b, hb with
        | 0, _ => by_cases e : a = (g - 1).toNat
                  · subst e; simp only [rrow, if_true]
                  · simp only [rrow, if_neg e]
        | 1, _ => by_cases e : a = (g - 1).toNat
                  · subst e; simp only [rrow, if_true]
                  · simp only [rrow, if_neg e]
        | 2, _ => by_cases e : a = (g - 1).toNat
                  · subst e; simp only [rrow, if_true]
                  · simp only [rrow, if_neg e]
        | 3, _ => rfl
      · have hj : j < s.n.toNat := hj
        by_cases e : j = (g - 1).toNat
        · subst e
          rw [eg, hdel, if_pos rfl]
          exact hv.mono fun b o q => hF4.old b o q (fun h => h)
        · rw [if_neg e, mem_del_other hk (by omega) (by omega)]
          exact (hM j (by omega)).mono fun b o q => hF4.old b o (hF3.old b o q (fun h => h)) (fun h => h)
    refine run_retF ((hF2.trans0 hF3 hK fun _ h => h.elim).trans0 hF4 hK fun _ h => h.elim) (hpin3.fz hF4 hp4) (vL', _) hfin [] rfl rfl (by first | exact conj_nil | simp [conj]) rfl ?_
    simp [conj]
end Sx
