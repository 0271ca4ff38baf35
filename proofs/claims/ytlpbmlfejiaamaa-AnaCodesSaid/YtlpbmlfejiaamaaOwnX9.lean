/- Texts of this law, joined: what the functions do. Conditions: as each theorem says. -/
import Derived.Test.YtlpbmlfejiaamaaOwnX8
import Derived.Test.YtlpbmlfejiaamaaOwnX7
import Derived.Test.YtlpbmlfejiaamaaOwnX4
set_option linter.unusedSimpArgs false
set_option linter.unusedVariables false
section
/- The reference of chapter 44: Remove, where there is something to remove. Conditions: as each theorem says. -/
namespace Sx
open Go Go.Proofs
set_option maxRecDepth 100000
set_option pp.deepTerms true
set_option pp.maxSteps 10000000
theorem goMT {B : Base} (hB : B.ok) {ro : Hp} {f : FuncId} {R : Ending → World → Prop} (S : List (Nat × Nat)) (m : Nat) {cs : List Prop} {c c' : Cfg} (h : execY Try.prog modeM ro S m [] c = (cs, c')) (hc : conj cs)
    (hr : Run Try.prog ro B f R c') : Run Try.prog ro B f R c := run_goY mixed named hB sN_ok S m h hc hr
theorem removeR_ok (K : Kn) (s : GS) (hs : GOk s) (l : List Int) (hk : KeysOf s.h l) (hl : l.length < 129) (vL : Value) (V : Nat → Value) (hR : ROK K s l vL V) (nm : Int) (h0 : 0 ≤ nm ∧ nm ≤ 4294967295) (hq : (grO s nm).2 = 0) :
    HCX Try.prog K M0 44 [RG vL s.now, u32 nm] [] [] 0 (fun (z : Value × (Nat → Value)) K' => ROK K' (gDel s nm) (lDel nm l) z.1 z.2) (fun z => ⟨.tup [RG z.1 s.now, i64 0], [], 0⟩) := by
  have hn0 := hs.n0
  have hn1 := hs.n1
  have hG := hR.g
  have hM := hR.m
  have hF := groupR_hcx K s hs l hk hl vL V hR nm h0
  have hn : (s.n.toNat : Int) = s.n := by omega
  generalize hnn : s.n.toNat = n at hG hn hM
  have hg0 : (grO s nm).1 = grp s nm ∧ 1 ≤ grp s nm ∧ grp s nm ≤ s.n := by
    unfold grO at hq ⊢
    split at hq
    · cases hq
    · rename_i h1
      rw [if_neg h1]
      split at hq
      · cases hq
      · rename_i h2
        rw [if_neg h2]
        refine ⟨rfl, ?_⟩
        unfold grp at h2 ⊢
        cases hh : s.h nm with
        | false => rw [hh] at h2; exact absurd rfl h2
        | true => exact hs.v0 nm hh
  rw [hq, hg0.1] at hF
  have hg := hg0.2
  clear hg0
  generalize hgg : grp s nm = g at hF hg
  refine hcx_of_run Try.func44 rfl (fun B hB hK hpin => ?_)
  refine goM hB rfl rfl (by first | exact conj_nil | simp [conj]) ?_
  refine run_callX hF named hB hK (fun _ h => h.elim) (.inr fun _ h => h) [] rfl rfl rfl rfl (by first | exact conj_nil | simp [conj]) (by first | exact conj_nil | simp [conj]) ?_
  rintro ⟨⟩ B2 K2 e2 hF2 hp2
  subst e2
  have hB2 := hF2.ok
  have hK2 := hF2.le
  have hpin2 := hpin.fz hF2 hp2
  refine ⟨show 0 ≤ 0 by omega, _, _, _, rfl, rfl, rfl, ?_⟩
  refine goM hB2 rfl rfl (by first | exact conj_nil | simp [conj]) ?_
  refine run_ff rfl ?_
  refine goM hB2 rfl rfl (by simp [conj, Fits_i64]; omega) ?_
  refine run_open hK2 22 hG (by decide) rfl (fun off2 => ?_)
  refine goM hB2 rfl rfl (by simp [conj, Fits_i64]; omega) ?_
  rw [Nat.zero_add]
  have hL := hM (g - 1).toNat (by omega)
  have eg : (((g - 1).toNat : Nat) : Int) + 1 = g := by omega
  rw [eg] at hL
  have hlen : (mem s g l).length ≤ l.length := List.length_filter_le _ _
  have hdel := mem_del hk (nm := nm) hg.1
  generalize mem s g l = L at hL hlen hdel
  refine run_close (.inl rfl) ?_
  refine run_openB hK2 3 3 hL (by decide) rfl rfl (fun _ => rfl) (fun _ => rfl) (fun off3 => ?_)
  refine run_loop ?_
  have hfl : L.filter (fun a => decide (a ≠ nm)) = (L.take L.length).filter (fun a => decide (a ≠ nm)) := by rw [List.take_length]
  rw [hfl] at hdel
  generalize hp : (fun a : Int => decide (a ≠ nm)) = p at hdel
  refine run_inv (ι := Nat) hpin2 (fun k => k ≤ L.length) (fun k => L.length - k) (fun k => [(10, i64 k), (9, .sq 5 0 0 1 ((L.take k).filter p).length .own), (8, .ptr 3 0), (6, i64 g), (5, i64 0), (4, .ptr 1 0), (2, .ptr 0 0), (1, u32 nm)]) (fun _ => []) (fun k => [(5, .row 0 ((L.take k).filter p).length ((L.take k).filter p).length 1 (rowL .u32 ((L.take k).filter p)) 29), (3, .cells [i64 (s.to (g - 1).toNat), i64 (s.fr (g - 1).toNat), u64 (s.ch (g - 1).toNat), .sq 4 off3 0 1 L.length .no] 51), (1, .cells [.und, .und] 37), (0, .cells [.val vL, i64 s.now] 37)]) 6 0 (Nat.zero_le _) [0, 1, 2, 3, 4, 5] rfl rfl (by simp [conj, less_rfl, ren_rowL]) ?_
  intro k hk1 ih
  have e0 : 0 + ((k : Nat) : Int).toNat = k := by omega
  refine goM hB2 rfl rfl (by first | exact conj_nil | simp [conj]) ?_
  by_cases hkl : k < L.length
  · refine run_tt (by simpa using hkl) ?_
    have ih := ih (k + 1) (by omega) (by omega)
    have e1 := fl_take p L k hkl
    have hlf := len_filter p L k
    have hpx : p (lsD L k) = decide (lsD L k ≠ nm) := by rw [← hp]
    generalize (L.take k).filter p = M at e1 hlf ⊢
    refine goMT hB2 [(44, 40)] 400 rfl (by simp [conj] <;> omega) ?_
    rw [e0]
    by_cases hx : lsD L k = nm
    · have hpf : p (lsD L k) = false := by rw [hpx]; simpa using hx
      rw [if_neg (by rw [hpf]; decide)] at e1
      rw [e1] at ih
      refine run_ff (by show (!decide (lsD L k = nm)) = false; rw [hx]; simp) ?_
      refine goM hB2 rfl rfl (by simp [conj, Fits_i64] <;> omega) ?_
      refine run_back ?_
      refine run_to hpin2 [0, 1, 2, 3, 4, 5] rfl rfl ?_ ih
      clear ih
      simp [conj, less_rfl, ren_rowL]
    · have hpf : p (lsD L k) = true := by rw [hpx]; simpa using hx
      rw [if_pos hpf] at e1
      rw [e1] at ih
      refine run_tt (by show (!decide (lsD L k = nm)) = true; simpa using hx) ?_
      refine goM hB2 rfl rfl (by simp [conj, Fits_i64] <;> omega) ?_
      refine run_back ?_
      refine run_to hpin2 [0, 1, 2, 3, 4, 7] rfl rfl ?_ ih
      clear ih
      rw [e0]
      simp [conj, less_rfl, ren_rowL]
      clear hfl
      exact fun j hj => Less.of (app_rowL M _ j hj)
  · clear ih
    have hkn : k = L.length := by omega
    rw [← hkn] at hdel
    refine run_ff (by simpa using hkl) ?_
    refine goMT hB2 [] 8 rfl (by first | exact conj_nil | simp [conj]) ?_
    generalize hL' : (L.take k).filter p = L' at hdel
    refine run_freezeB (L := 5) (off := 0) (sz := 1) (m := L'.length) (ap := .own) hB2 hK2 3 3 rfl rfl rfl rfl (Nat.le_refl _) (fun a b _ hb => closed_rowL _ _ _ hb) rfl (fun _ => rfl) (fun _ => rfl) ?_
    intro v B3 K3 hv hF3 hp3
    have hB3 := hF3.ok
    have hK3 := hF3.le
    have hpin3 := hpin2.fz hF3 hp3
    have hG3 := hG.fz hF3
    refine run_close (.inl rfl) ?_
    have hset := setR_hcx K3 s vL V n (by omega) hG3 s.now (s.to (g - 1).toNat) (s.fr (g - 1).toNat) (s.ch (g - 1).toNat) v hv.one (g - 1).toNat (by omega)
    have eg2 : (((g - 1).toNat : Nat) : Int) = g - 1 := by omega
    rw [eg2] at hset
    refine goM hB3 rfl rfl (by simp [conj, Fits_i64]; omega) ?_
    refine run_callX hset named hB3 hK3 (fun _ h => h.elim) (.inr fun _ h => h) [] rfl rfl rfl rfl (by first | exact conj_nil | simp [conj]) (by simp [conj]) ?_
    rintro vL' B4 K4 hv4 hF4 hp4
    have hB4 := hF4.ok
    refine ⟨show 0 ≤ 0 by omega, _, _, _, rfl, rfl, rfl, ?_⟩
    refine goM hB4 rfl rfl (by first | exact conj_nil | simp [conj]) ?_
    have hfin : ROK K4 (gDel s nm) (lDel nm l) vL' (fun a => if a = (g - 1).toNat then v else V a) := by
      refine ⟨?_, fun j hj => ?_⟩
      · show Froz K4 vL' s.n.toNat 4 _
        rw [hnn]
        refine hv4.congr fun a b _ hb => ?_
        match b, hb with
        | 0, _ => by_cases e : a = (g - 1).toNat
                  · subst e; simp only [rrow, if_true]
                  · simp only [rrow, if_neg e]
        | 1, _ => by_cases e : a = (g - 1).toNat
                  · subst e; simp only [rrow, if_true]
                  · simp only [rrow, if_neg e]
        | 2, _ => by_cases e : a = (g - 1).toNat
                  · subst e; simp only [rrow, if_true]
                  · simp only [rrow, if_neg e]
        | 3, _ => rfl
      · have hj : j < s.n.toNat := hj
        by_cases e : j = (g - 1).toNat
        · subst e
          rw [eg, hdel, if_pos rfl]
          exact hv.mono fun b o q => hF4.old b o q (fun h => h)
        · rw [if_neg e, mem_del_other hk (by omega) (by omega)]
          exact (hM j (by omega)).mono fun b o q => hF4.old b o (hF3.old b o q (fun h => h)) (fun h => h)
    refine run_retF ((hF2.trans0 hF3 hK fun _ h => h.elim).trans0 hF4 hK fun _ h => h.elim) (hpin3.fz hF4 hp4) (vL', _) hfin [] rfl rfl (by first | exact conj_nil | simp [conj]) rfl ?_
    simp [conj]
end Sx
end
section
/- The reference of chapter 44: New. Conditions: as each theorem says. -/
namespace Sx
open Go Go.Proofs
set_option maxRecDepth 100000
set_option pp.deepTerms true
set_option pp.maxSteps 10000000
/-- Groups at the start. -/
abbrev gs0 (n : Int) : GS := ⟨0, n, fun _ => 1, fun _ => 0, fun _ => 0, fun _ => false, fun _ => 0⟩
abbrev V0 : Nat → Value := fun _ => .slice none 0 0
theorem less_new (n : Int) (j a b : Nat) (ha : a < j + 1) (hb : b < 4) : Less (rrow (gs0 n) V0 a b) (appF (rrow (gs0 n) V0) j (fun i k => [i64 1, i64 0, SV.int IntKind.u64 0, SV.nilsl].getD ((0 + i) * 4 + k) SV.und) a b) := by
  by_cases e : a = j
  · subst e
    simp only [appF, blt_self, cond_false, Nat.sub_self]
    match b, hb with
    | 0, _ => exact Less.rfl
    | 1, _ => exact Less.rfl
    | 2, _ => exact Less.rfl
    | 3, _ => exact fun β x h => ⟨h, rfl⟩
  · have hlt : Nat.blt a j = true := by rw [Nat.blt_eq]; omega
    simp only [appF, hlt, cond_true]
    exact Less.rfl
theorem newR_hcx (K : Kn) (n : Int) (hn : 1 ≤ n ∧ n ≤ 128) : HCX Try.prog K M0 16 [i64 n] [] [] 0 (fun vL' K' => Froz K' vL' n.toNat 4 (rrow (gs0 n) V0)) (fun vL' => ⟨.tup [RG vL' 0, i64 0], [], 0⟩) := by
  refine hcx_of_run Try.func16 rfl (fun B hB hK hpin => ?_)
  have hF0 : Fz B K M0 B K := .refl hB hK
  refine goT hB [(16, 7)] 400 rfl (by first | exact conj_nil | simp [conj]) ?_
  refine run_ff (by simp; omega) ?_
  refine goT hB [(16, 10)] 400 rfl (by first | exact conj_nil | simp [conj]) ?_
  refine run_ff (by simp; omega) ?_
  refine goR hB rfl rfl (by first | exact conj_nil | simp [conj]) ?_
  refine run_loop ?_
  refine run_inv (ι := Nat) hpin (fun j => j ≤ n.toNat) (fun j => n.toNat - j) (fun j => [(5, i64 j), (4, .ptr 1 0), (2, .ptr 0 0), (0, i64 n)]) (fun _ => []) (fun j => [(0, .cells [.nilsl, i64 0] 37), (1, .cells [.sq 2 0 0 4 j .own, i64 0] 37), (2, .row 0 j j 4 (rrow (gs0 n) V0) 51)]) 3 0 (Nat.zero_le _) [0, 1, 2] rfl rfl (by simp [conj, less_rfl, ren_rrow]) ?_
  intro j hj ih
  refine goR hB rfl rfl (by simp [conj]) ?_
  refine run_cond rfl (fun hh => ?_) (fun hh => ?_)
  · have hj1 : (j : Int) < n := by simpa using hh
    have ih := ih (j + 1) (by omega) (by omega)
    refine goR hB rfl rfl (by simp [conj, Fits_i64]; omega) ?_
    refine run_back ?_
    refine run_to hpin [0, 1, 4] rfl rfl ?_ ih
    clear ih
    simp only [conj, ren_rrow]
    repeat' (first | exact trivial | exact rfl | exact (less_rfl _).mpr trivial | exact fun a b ha hb => less_new n j a b ha hb | (intro _ _ _ _; rfl) | exact Nat.le_refl _ | exact id | apply And.intro)
  · clear ih
    have hjn : n.toNat = j := by simp at hh; omega
    rw [hjn]
    refine goR hB rfl rfl (by simp [conj]) ?_
    refine run_freezeB (L := 2) (off := 0) (sz := 4) (m := j) (ap := .own) hB hK 0 0 rfl rfl rfl rfl (Nat.le_refl _) (fun a b _ hb => closed_rrow _ _ _ _) rfl (fun _ => rfl) (fun _ => rfl) ?_
    intro v B2 K2 hv hF2 hp2
    refine run_retF hF2 (hpin.fz hF2 hp2) v hv [] rfl rfl (by first | exact conj_nil | simp [conj]) rfl ?_
    simp [conj]
theorem newR_lo (n : Int) (hn : n < 1) : HC Try.prog 16 [i64 n] [] [] 0 (fun _ : Unit => True) (fun _ => ⟨.tup [.agg [.nilsl, i64 0], i64 2], [], 0⟩) := by
  refine hc_of_run Try.func16 rfl (fun B hB hpin => ?_)
  refine goT hB [(16, 7)] 400 rfl (by first | exact conj_nil | simp [conj]) ?_
  refine run_tt (by simp; omega) ?_
  refine goR hB rfl rfl (by first | exact conj_nil | simp [conj]) ?_
  exact run_retC hpin () trivial [] rfl rfl (by first | exact conj_nil | simp [conj]) rfl (by first | exact conj_nil | simp [conj])
theorem newR_hi (n : Int) (hn : 128 < n) : HC Try.prog 16 [i64 n] [] [] 0 (fun _ : Unit => True) (fun _ => ⟨.tup [.agg [.nilsl, i64 0], i64 2], [], 0⟩) := by
  refine hc_of_run Try.func16 rfl (fun B hB hpin => ?_)
  refine goT hB [(16, 7)] 400 rfl (by first | exact conj_nil | simp [conj]) ?_
  refine run_ff (by simp; omega) ?_
  refine goT hB [(16, 10)] 400 rfl (by first | exact conj_nil | simp [conj]) ?_
  refine run_tt (by simp; omega) ?_
  refine goR hB rfl rfl (by first | exact conj_nil | simp [conj]) ?_
  exact run_retC hpin () trivial [] rfl rfl (by first | exact conj_nil | simp [conj]) rfl (by first | exact conj_nil | simp [conj])
end Sx
end
section
/- What AnaBounds computes, up to its last calls. Conditions: as each theorem says. -/
namespace Sx
open Go Go.Proofs
set_option maxRecDepth 100000
/-- The members after k calls of Add. -/
def hK (k : Nat) : Int → Bool := fun a => decide (4294967294 - (k : Int) ≤ a ∧ a < 4294967294)
def vK : Int → Int := fun a => 1 + (4294967294 - a) % 128
def keysK (k : Nat) : List Int := (List.range k).map fun (j : Nat) => 4294967293 - (j : Int)
theorem keysK_len (k : Nat) : (keysK k).length = k := by simp [keysK]
theorem keysK_nodup (k : Nat) : (keysK k).Nodup := by
  unfold keysK
  rw [List.nodup_iff_pairwise_ne, List.pairwise_map]
  exact (List.nodup_range (n := k)).imp fun {a b} hne e => hne (by omega)
theorem keysK_mem (k : Nat) (a : Int) : hK k a = true ↔ a ∈ keysK k := by
  unfold hK keysK
  rw [decide_eq_true_iff, List.mem_map]
  constructor
  · intro h
    exact ⟨(4294967293 - a).toNat, List.mem_range.2 (by omega), by omega⟩
  · rintro ⟨j, hj, rfl⟩
    have := List.mem_range.1 hj
    omega
/-- All groups alike. -/
def gF : Nat → Nat → SV := fun _ k => match k with
  | 0 => i64 1
  | 1 => i64 0
  | _ => .int .u64 0
abbrev gA (T : Int) (F : Nat → Nat → SV) : SO := .arr [i64 T] 128 3 F [i64 128, .mp 0] 64
theorem flat3 (a b c : SV) : ∀ (n i k : Nat), i < n → k < 3 → ((List.replicate n [a, b, c]).flatten)[i * 3 + k]? = [a, b, c][k]?
  | 0, i, k, hi, hk => by omega
  | n + 1, 0, k, hi, hk => by
    rw [List.replicate_succ, List.flatten_cons, List.getElem?_append_left (by simp; omega)]
    congr 1; omega
  | n + 1, i + 1, k, hi, hk => by
    rw [List.replicate_succ, List.flatten_cons, List.getElem?_append_right (by simp; omega)]
    rw [← flat3 a b c n i k (by omega) hk]
    congr 1
    simp; omega
theorem gF_cells (i k : Nat) (hi : i < 128) (hk : k < 3) : ∃ u, (i64 0 :: ((List.replicate 128 [i64 1, i64 0, SV.int .u64 0]).flatten ++ [i64 128, .mp 0]))[1 + i * 3 + k]? = some u ∧ Less (gF i k) u := by
  have h := flat3 (i64 1) (i64 0) (.int .u64 0) 128 i k hi hk
  have hlt : i * 3 + k < ((List.replicate 128 [i64 1, i64 0, SV.int .u64 0]).flatten).length := by simp; omega
  rw [show 1 + i * 3 + k = i * 3 + k + 1 by omega, List.getElem?_cons_succ, List.getElem?_append_left hlt, h]
  match k, hk with
  | 0, _ => exact ⟨_, rfl, Less.rfl⟩
  | 1, _ => exact ⟨_, rfl, Less.rfl⟩
  | 2, _ => exact ⟨_, rfl, Less.rfl⟩
/-- The groups after the g-th has changed. -/
def gG (g : Int) : Nat → Nat → SV := fun i k => match k with
  | 0 => i64 (if i = (g - 1).toNat then 3 else 1)
  | 1 => i64 (if i = (g - 1).toNat then 1099511627776 else 0)
  | _ => .int .u64 (if i = (g - 1).toNat then 1 else 0)
theorem gG_upd (g : Int) (i k : Nat) (hk : k < 3) : gG g i k = updF (updF (updF gF (g-1).toNat 0 (SV.int .i64 3).cells) (g-1).toNat 1 (SV.int .i64 ((bif true then max 0 (1099511627776 - 65536) else min 0 (1099511627776 - 65536)) + 65536)).cells) (g-1).toNat 2 (SV.int .u64 (IntKind.u64.wrap (0+1))).cells i k := by
  have hw : IntKind.u64.wrap (0 + 1) = 1 := by decide +kernel
  rw [hw]
  unfold gG
  generalize (g - 1).toNat = q
  by_cases e : i = q
  · match k, hk with
    | 0, _ => simp [updF, gF, SV.cells, e]
    | 1, _ => simp [updF, gF, SV.cells, e]; decide +kernel
    | 2, _ => simp [updF, gF, SV.cells, e]
  · match k, hk with
    | 0, _ => simp [updF, gF, SV.cells, e]
    | 1, _ => simp [updF, gF, SV.cells, e]
    | 2, _ => simp [updF, gF, SV.cells, e]
theorem ren_gG (g : Int) (nx : Nat) (sg : List Nat) (i k : Nat) : ren nx sg (gG g i k) = gG g i k := by
  unfold gG; split <;> simp only [ren, renF, id]
theorem ren_gF (nx : Nat) (sg : List Nat) (i k : Nat) : ren nx sg (gF i k) = gF i k := by
  unfold gF; split <;> simp only [ren, renF, id]
theorem pin0 (w : World) : PinTo (Base.all w) 0 := ⟨fun _ _ => rfl, rfl⟩
theorem wrapK (k : Nat) (h : k < 1024) : IntKind.u32.wrap (4294967294 - ((k : Int) + 1)) = 4294967293 - (k : Int) := by
  simp [IntKind.wrap, IntKind.bits, IntKind.signed]
  omega
set_option maxHeartbeats 40000000 in
theorem bounds_pure (g : Int) : Pure Try.prog 3 [i64 g] .tt := by
  refine pure_of_run Try.func3 rfl (fun w' => ?_)
  refine goW (Base.all_ok _) [(3, 10)] 1000 rfl (by simp [conj]) ?_
  by_cases h1 : g < 1
  · refine run_tt (by simpa using h1) ?_
    refine goW (Base.all_ok _) [] 1000 rfl (by simp [conj]) ?_
    exact fin rfl (by simp [conj]) rfl rfl
  refine run_ff (by simpa using h1) ?_
  refine goW (Base.all_ok _) [(3, 13)] 1000 rfl (by simp [conj]) ?_
  by_cases h2 : 128 < g
  · refine run_tt (by simpa using h2) ?_
    refine goW (Base.all_ok _) [] 1000 rfl (by simp [conj]) ?_
    exact fin rfl (by simp [conj]) rfl rfl
  refine run_ff (by simpa using h2) ?_
  refine goW (Base.all_ok _) [(3, 25)] 6000 rfl (by simp [conj, Fits_i64] <;> decide +kernel) ?_
  refine run_inv (ι := Nat) (pin0 w') (fun k => k ≤ 1024) (fun k => 1024 - k) (fun k => [(25, .sb (decide ((k : Int) + 1 ≤ 1024))), (7, i64 ((k : Int) + 1)), (0, i64 g), (3, .ptr 1 0), (4, i64 0), (6, i64 2), (2, .ff)]) (fun _ => []) (fun k => [(1, gA 0 gF), (0, .map .u32 (hK k) (.ints .i64 vK))]) 2 0 (by decide) [0, 1] rfl rfl ?_ ?_
  · refine ⟨by simp, rfl, rfl, rfl, rfl, rfl, rfl, rfl, fun i k hi hk => ?_, fun a => ?_, fun a ha => ?_, trivial⟩
    · have := gF_cells i k hi hk
      rw [ren_gF]
      exact this
    · simp [hK]
      try omega
    · cases ha
  intro k hk ih
  by_cases hlt : k < 1024
  · refine run_tt (by simp <;> omega) ?_
    refine goW (Base.all_ok _) [(12, 13)] 3000 rfl (by simp [conj, Fits_i64, isBo4, isPt23, isIf20] <;> omega) ?_
    rw [wrapK k hlt]
    refine run_tt (by simp [nameOk] <;> omega) ?_
    refine goW (Base.all_ok _) [(38, 5)] 3000 rfl (by simp [conj, Fits_i64, isBo4, isPt23, isIf20] <;> omega) ?_
    refine run_tt (by simp <;> omega) ?_
    refine goW (Base.all_ok _) [(38, 11)] 3000 rfl (by simp [conj, Fits_i64, isBo4, isPt23, isIf20] <;> omega) ?_
    refine run_tt (by simp <;> omega) ?_
    refine goW (Base.all_ok _) [(12, 25)] 3000 rfl (by simp [conj, Fits_i64, isBo4, isPt23, isIf20] <;> omega) ?_
    have hn : hK k (4294967293 - (k : Int)) = false := by simp [hK] <;> omega
    refine run_tt (by simp [hn]) ?_
    refine goW (Base.all_ok _) [] 3000 rfl (by simp [conj, Fits_i64, isBo4, isPt23, isIf20] <;> omega) ?_
    refine run_mlenN (keysK k) k (by simp [keysK_len]) (keysK_nodup k) (keysK_mem k) rfl rfl (by simp [conj]) rfl rfl ?_
    refine goW (Base.all_ok _) [(12, 33)] 3000 rfl (by simp [conj, Fits_i64, isBo4, isPt23, isIf20] <;> omega) ?_
    refine run_tt (by simp <;> omega) ?_
    refine goW (Base.all_ok _) [(3, 25)] 3000 rfl ?_ ?_
    · clear ih
      simp [conj, Fits_i64, isBo4, isPt23, isIf20]
      omega
    refine run_to (pin0 w') [0, 1] rfl rfl ?_ (ih (k + 1) (by omega) (by omega))
    clear ih
    simp [conj, less_rfl, ren_gF]
    refine ⟨fun a => ?_, fun a _ => ?_⟩
    · rw [Bool.eq_iff_iff]
      simp [hK, ieq]
      omega
    · by_cases e : a = 4294967293 - (k : Int)
      · subst e
        simp [ieq, vK]
        congr 1
        omega
      · simp [ieq, e]
  clear ih
  obtain rfl : k = 1024 := by omega
  refine run_ff (by simp) ?_
  have g1 : 1 ≤ g := by omega
  have g2 : g ≤ 128 := by omega
  clear h1 h2 hk hlt
  refine goW (Base.all_ok _) [(38, 5)] 3000 rfl (by simp [conj, Fits_i64, isBo4, isPt23, isIf20] <;> omega) ?_
  refine run_tt (by simpa using g1) ?_
  refine goW (Base.all_ok _) [(38, 11)] 3000 rfl (by simp [conj, Fits_i64, isBo4, isPt23, isIf20] <;> omega) ?_
  refine run_tt (by simpa using g2) ?_
  refine goW (Base.all_ok _) [] 3000 rfl (by simp [conj, Fits_i64, isBo4, isPt23, isIf20] <;> omega) ?_
  refine run_mlenN (keysK 1024) 1024 (by rw [keysK_len]; rfl) (keysK_nodup 1024) (keysK_mem 1024) rfl rfl (by simp [conj]) rfl rfl ?_
  refine goW (Base.all_ok _) [(38, 5)] 6000 rfl (by simp [conj, Fits_i64, isBo4, isPt23, isIf20] <;> omega) ?_
  refine run_tt (by simpa using g1) ?_
  refine goW (Base.all_ok _) [(38, 11)] 3000 rfl (by simp [conj, Fits_i64, isBo4, isPt23, isIf20] <;> omega) ?_
  refine run_tt (by simpa using g2) ?_
  refine goW (Base.all_ok _) [(3, 79)] 6000 rfl (by simp [conj, Fits_i64, isBo4, isPt23, isIf20] <;> omega) ?_
  refine run_tt rfl ?_
  refine run_to (sl' := [(79, .tt), (72, .tt), (0, i64 g), (3, .ptr 1 0), (8, i64 1099511627776), (2, .ff)]) (rest' := []) (hp' := [(1, gA 1099511562240 (gG g)), (0, .map .u32 (hK 1024) (.ints .i64 vK))]) (pin0 w') [0, 1] rfl rfl ?_ ?_
  · refine ⟨rfl, rfl, rfl, by decide, rfl, fun i k hi hk => ?_, fun a => rfl, fun a _ => rfl, trivial⟩
    rw [ren_gG]
    exact Less.of (gG_upd g i k hk)
  refine goW (Base.all_ok _) [(38, 5)] 3000 rfl (by simp [conj, Fits_i64, isBo4, isPt23, isIf20] <;> omega) ?_
  refine run_tt (by simpa using g1) ?_
  refine goW (Base.all_ok _) [(38, 11)] 3000 rfl (by simp [conj, Fits_i64, isBo4, isPt23, isIf20] <;> omega) ?_
  refine run_tt (by simpa using g2) ?_
  refine goW (Base.all_ok _) [(41, 20)] 3000 rfl (by simp [conj, Fits_i64, isBo4, isPt23, isIf20] <;> omega) ?_
  refine run_tt (by rw [if_pos rfl]; decide +kernel) ?_
  refine goW (Base.all_ok _) [(38, 5)] 3000 rfl (by simp [conj, Fits_i64, isBo4, isPt23, isIf20] <;> omega) ?_
  refine run_tt (by simpa using g1) ?_
  refine goW (Base.all_ok _) [(38, 11)] 3000 rfl (by simp [conj, Fits_i64, isBo4, isPt23, isIf20] <;> omega) ?_
  refine run_tt (by simpa using g2) ?_
  refine goW (Base.all_ok _) [(41, 20)] 3000 rfl (by simp [conj, Fits_i64, isBo4, isPt23, isIf20] <;> omega) ?_
  refine run_tt (by rw [if_pos rfl]; decide +kernel) ?_
  refine goW (Base.all_ok _) [(38, 5)] 3000 rfl (by simp [conj, Fits_i64, isBo4, isPt23, isIf20] <;> omega) ?_
  refine run_tt (by simpa using g1) ?_
  refine goW (Base.all_ok _) [(38, 11)] 3000 rfl (by simp [conj, Fits_i64, isBo4, isPt23, isIf20] <;> omega) ?_
  refine run_tt (by simpa using g2) ?_
  refine goW (Base.all_ok _) [(41, 20)] 3000 rfl (by simp [conj, Fits_i64, isBo4, isPt23, isIf20] <;> omega) ?_
  refine run_ff (by rw [if_pos rfl]; decide +kernel) ?_
  refine goW (Base.all_ok _) [(14, 22)] 3000 rfl (by simp [conj, Fits_i64, isBo4, isPt23, isIf20] <;> omega) ?_
  refine run_tt (by rw [if_pos rfl]; decide +kernel) ?_
  refine goW (Base.all_ok _) [] 6000 rfl (by simp [conj, Fits_i64, isBo4, isPt23, isIf20] <;> omega) ?_
  exact fin rfl (by simp [conj]) rfl rfl
end Sx
end
section
/- Package ana: New. Conditions: as each theorem says. -/
namespace Sx
open Go Go.Proofs
set_option maxRecDepth 100000
set_option pp.deepTerms true
set_option pp.maxSteps 10000000
theorem new_key (n : Int) (m nx : Nat) (sg : List Nat) (i k : Nat) (hi : i < 128) (hk : k < 3) : ∃ u, (i64 0 :: ((List.replicate 128 [i64 1, i64 0, SV.int .u64 0]).flatten ++ [i64 n, .mp m]))[1 + i * 3 + k]? = some u ∧ Less (ren nx sg (rG (gs0 n).to (gs0 n).fr (gs0 n).ch i k)) u := by
  rw [ren_rG]
  have h := flat3 (i64 1) (i64 0) (.int .u64 0) 128 i k hi hk
  have hlt : i * 3 + k < ((List.replicate 128 [i64 1, i64 0, SV.int .u64 0]).flatten).length := by simp; omega
  rw [show 1 + i * 3 + k = i * 3 + k + 1 by omega, List.getElem?_cons_succ, List.getElem?_append_left hlt, h]
  match k, hk with
  | 0, _ => exact ⟨_, rfl, Less.rfl⟩
  | 1, _ => exact ⟨_, rfl, Less.rfl⟩
  | 2, _ => exact ⟨_, rfl, Less.rfl⟩
set_option maxHeartbeats 40000000 in
theorem new_hc (n : Int) (hn : 1 ≤ n ∧ n ≤ 128) : HC Try.prog 10 [i64 n] [] [] 0 (fun _ : Unit => True) (fun _ => ⟨.tup [.ptr 0 0, i64 0], [(0, gobj (gs0 n) 1), (1, mmap (gs0 n))], 2⟩) := by
  refine hc_of_run Try.func10 rfl (fun B hB hpin => ?_)
  refine goW hB [(10, 7)] 400 rfl (by first | exact conj_nil | simp [conj]) ?_
  refine run_ff (by simp; omega) ?_
  refine goW hB [(10, 10)] 400 rfl (by first | exact conj_nil | simp [conj]) ?_
  refine run_ff (by simp; omega) ?_
  refine goW hB [] 6000 rfl (by first | exact conj_nil | (simp [conj, Fits_i64] <;> first | omega | decide +kernel)) ?_
  refine run_retC hpin () trivial [1, 0] rfl rfl (by first | exact conj_nil | simp [conj]) rfl ?_
  simp only [conj]
  repeat' (first | exact trivial | exact rfl | exact new_key n _ _ _ | (intro _; exact trivial) | (intro _ _; exact trivial) | (intro _; rfl) | exact (less_rfl _).mpr trivial | apply And.intro)
theorem new_lo (n : Int) (hn : n < 1) : HC Try.prog 10 [i64 n] [] [] 0 (fun _ : Unit => True) (fun _ => ⟨.tup [.nil, i64 2], [], 0⟩) := by
  refine hc_of_run Try.func10 rfl (fun B hB hpin => ?_)
  refine goW hB [(10, 7)] 400 rfl (by first | exact conj_nil | simp [conj]) ?_
  refine run_tt (by simp; omega) ?_
  refine goW hB [] 400 rfl (by first | exact conj_nil | simp [conj]) ?_
  exact run_retC hpin () trivial [] rfl rfl (by first | exact conj_nil | simp [conj]) rfl (by first | exact conj_nil | simp [conj])
theorem new_hi (n : Int) (hn : 128 < n) : HC Try.prog 10 [i64 n] [] [] 0 (fun _ : Unit => True) (fun _ => ⟨.tup [.nil, i64 2], [], 0⟩) := by
  refine hc_of_run Try.func10 rfl (fun B hB hpin => ?_)
  refine goW hB [(10, 7)] 400 rfl (by first | exact conj_nil | simp [conj]) ?_
  refine run_ff (by simp; omega) ?_
  refine goW hB [(10, 10)] 400 rfl (by first | exact conj_nil | simp [conj]) ?_
  refine run_tt (by simp; omega) ?_
  refine goW hB [] 400 rfl (by first | exact conj_nil | simp [conj]) ?_
  exact run_retC hpin () trivial [] rfl rfl (by first | exact conj_nil | simp [conj]) rfl (by first | exact conj_nil | simp [conj])
end Sx
end
section
/- Each call of the groups and of the reference, side by side: the same answers, and states that fit. Conditions: as each theorem says. -/
namespace Sx
open Go Go.Proofs
set_option maxRecDepth 100000
set_option pp.deepTerms true
set_option pp.maxSteps 10000000
theorem hcx_keepK {K : Kn} {s : GS} {l : List Int} {vL : Value} {V : Nat → Value} (hR : ROK K s l vL V) {f : FuncId} {xs : List SV} (o : Value → Out) (h : HCK Try.prog K f xs [] [] 0 (fun _ : Unit => True) (fun _ => o vL)) : HCX Try.prog K M0 f xs [] [] 0 (fun (z : Value × (Nat → Value)) K' => ROK K' s l z.1 z.2) (fun z => o z.1) :=
  (hcx_of_hck h).to fun _ K' ⟨_, e⟩ => ⟨(vL, V), by subst e; exact hR, rfl⟩
theorem hcx_keepX {K : Kn} {s : GS} {l : List Int} {vL : Value} {V : Nat → Value} (hR : ROK K s l vL V) {f : FuncId} {xs : List SV} (o : Value → Out) (h : HCX Try.prog K M0 f xs [] [] 0 (fun (_ : Unit) K' => K' = K) (fun _ => o vL)) : HCX Try.prog K M0 f xs [] [] 0 (fun (z : Value × (Nat → Value)) K' => ROK K' s l z.1 z.2) (fun z => o z.1) :=
  h.to fun _ K' e => ⟨(vL, V), by subst e; exact hR, rfl⟩
theorem hcx_keepV {K : Kn} {s : GS} {l : List Int} {V : Nat → Value} {f : FuncId} {xs : List SV} (o : Value → Out) (h : HCX Try.prog K M0 f xs [] [] 0 (fun (v : Value) K' => ROK K' s l v V) (fun z => o z)) : HCX Try.prog K M0 f xs [] [] 0 (fun (z : Value × (Nat → Value)) K' => ROK K' s l z.1 z.2) (fun z => o z.1) :=
  h.to fun v K' e => ⟨(v, V), e, rfl⟩
theorem keysOf_nodup {h : Int → Bool} {l : List Int} (hk : KeysOf h l) : l.Nodup := hk.1.imp fun {a b} q => by omega
theorem add_both (K : Kn) (s : GS) (hs : GOk s) (l : List Int) (hk : KeysOf s.h l) (hl : l.length < 129) (vL : Value) (V : Nat → Value) (hR : ROK K s l vL V) (g nm : Int) (h0 : 0 ≤ nm ∧ nm ≤ 4294967295) :
    ∃ (c : Int) (s' : GS) (l' : List Int), (s'.n = s.n ∧ GOk s' ∧ KeysOf s'.h l' ∧ l'.length ≤ l.length + 1) ∧
      HC Try.prog 12 [.ptr 0 0, i64 g, u32 nm] (hpG s) [] 2 (fun _ : Unit => True) (fun _ => ⟨i64 c, hpG s', 2⟩) ∧
      HCX Try.prog K M0 43 [RG vL s.now, i64 g, u32 nm] [] [] 0 (fun (z : Value × (Nat → Value)) K' => ROK K' s' l' z.1 z.2) (fun z => ⟨.tup [RG z.1 s'.now, i64 c], [], 0⟩) := by
  cases hq : nameOk nm with
  | false => exact ⟨2, s, l, ⟨rfl, hs, hk, by omega⟩, add_name s hs g nm hq, hcx_keepK hR (fun v => ⟨.tup [RG v s.now, i64 2], [], 0⟩) (addR_name K vL s.now g nm h0 hq)⟩
  | true =>
  by_cases hg1 : g < 1
  · exact ⟨3, s, l, ⟨rfl, hs, hk, by omega⟩, add_lo s hs g nm hq hg1, hcx_keepK hR (fun v => ⟨.tup [RG v s.now, i64 3], [], 0⟩) (addR_lo K vL s.now g nm h0 hq hg1)⟩
  by_cases hg2 : s.n < g
  · exact ⟨3, s, l, ⟨rfl, hs, hk, by omega⟩, add_hi s hs g nm hq hg2, hcx_keepK hR (fun v => ⟨.tup [RG v s.now, i64 3], [], 0⟩) (addR_hi K s hs l vL V hR g nm h0 hq hg2)⟩
  have hg : 1 ≤ g ∧ g ≤ s.n := ⟨by omega, by omega⟩
  by_cases hb : grp s nm = 0
  · exact ⟨0, gAdd s nm g, lAdd nm l, ⟨rfl, hs.add nm hg, keys_add hk nm g, len_lAdd nm l⟩, add_ok s hs g nm hq hg hb l (keysOf_nodup hk) (fun a => (hk.2 a).symm) (by omega), addR_ok K s hs l hk hl vL V hR g nm h0 hq hg hb⟩
  · exact ⟨11, s, l, ⟨rfl, hs, hk, by omega⟩, add_busy s hs g nm hq hg hb, hcx_keepX hR (fun v => ⟨.tup [RG v s.now, i64 11], [], 0⟩) (addR_busy K s hs l hk hl vL V hR g nm h0 hq hg hb)⟩
theorem grp_nn {s : GS} (hs : GOk s) (nm : Int) : 0 ≤ grp s nm ∧ (¬ 0 < grp s nm ↔ grp s nm = 0) := by
  unfold grp
  cases hh : s.h nm with
  | false => simp
  | true => have := hs.v0 nm hh; simp; omega
theorem remove_both (K : Kn) (s : GS) (hs : GOk s) (l : List Int) (hk : KeysOf s.h l) (hl : l.length < 129) (vL : Value) (V : Nat → Value) (hR : ROK K s l vL V) (nm : Int) (h0 : 0 ≤ nm ∧ nm ≤ 4294967295) :
    ∃ (c : Int) (s' : GS) (l' : List Int), (s'.n = s.n ∧ GOk s' ∧ KeysOf s'.h l' ∧ l'.length ≤ l.length + 1) ∧
      HC Try.prog 24 [.ptr 0 0, u32 nm] (hpG s) [] 2 (fun _ : Unit => True) (fun _ => ⟨i64 c, hpG s', 2⟩) ∧
      HCX Try.prog K M0 44 [RG vL s.now, u32 nm] [] [] 0 (fun (z : Value × (Nat → Value)) K' => ROK K' s' l' z.1 z.2) (fun z => ⟨.tup [RG z.1 s'.now, i64 c], [], 0⟩) := by
  have hno := removeR_no K s hs l hk hl vL V hR nm h0
  have hok := removeR_ok K s hs l hk hl vL V hR nm h0
  unfold grO at hno hok
  cases hq : nameOk nm with
  | false =>
    rw [if_pos hq] at hno
    exact ⟨2, s, l, ⟨rfl, hs, hk, by omega⟩, remove_name s hs nm hq, hcx_keepX hR (fun v => ⟨.tup [RG v s.now, i64 2], [], 0⟩) (hno (by decide))⟩
  | true =>
    have hq' : ¬ nameOk nm = false := by rw [hq]; decide
    rw [if_neg hq'] at hno hok
    by_cases hb : grp s nm = 0
    · rw [if_pos hb] at hno
      exact ⟨9, s, l, ⟨rfl, hs, hk, by omega⟩, remove_no s hs nm hq ((grp_nn hs nm).2.2 hb), hcx_keepX hR (fun v => ⟨.tup [RG v s.now, i64 9], [], 0⟩) (hno (by decide))⟩
    · rw [if_neg hb] at hok
      refine ⟨0, gDel s nm, lDel nm l, ⟨rfl, hs.del nm, keys_del hk nm, ?_⟩, remove_ok s hs nm hq ?_, hok rfl⟩
      · have := len_lDel nm l; omega
      · have := grp_nn hs nm; omega
theorem group_both (K : Kn) (s : GS) (hs : GOk s) (l : List Int) (hk : KeysOf s.h l) (hl : l.length < 129) (vL : Value) (V : Nat → Value) (hR : ROK K s l vL V) (nm : Int) (h0 : 0 ≤ nm ∧ nm ≤ 4294967295) :
    HC Try.prog 22 [.ptr 0 0, u32 nm] (hpG s) [] 2 (fun _ : Unit => True) (fun _ => ⟨.tup [i64 (grO s nm).1, i64 (grO s nm).2], hpG s, 2⟩) := by
  unfold grO
  cases hq : nameOk nm with
  | false => rw [if_pos rfl]; exact group_name s hs nm hq
  | true =>
    rw [if_neg (by decide)]
    by_cases hb : grp s nm = 0
    · rw [if_pos hb]; exact group_no s hs nm hq ((grp_nn hs nm).2.2 hb)
    · rw [if_neg hb]; exact group_ok s hs nm hq (by have := grp_nn hs nm; omega)
theorem stO_at {s : GS} {now g : Int} : stO (gAt s now) g = if max s.now now < s.fr (g - 1).toNat then 15 else s.to (g - 1).toNat := rfl
theorem change_both (K : Kn) (s : GS) (hs : GOk s) (l : List Int) (hk : KeysOf s.h l) (hl : l.length < 129) (vL : Value) (V : Nat → Value) (hR : ROK K s l vL V) (now g to dur : Int) :
    ∃ (c : Int) (s' : GS), (s'.n = s.n ∧ GOk s' ∧ s'.h = s.h) ∧
      HC Try.prog 13 [.ptr 0 0, i64 now, i64 g, i64 to, i64 dur] (hpG s) [] 2 (fun _ : Unit => True) (fun _ => ⟨i64 c, hpG s', 2⟩) ∧
      HCX Try.prog K M0 46 [RG vL s.now, i64 now, i64 g, i64 to, i64 dur] [] [] 0 (fun (z : Value × (Nat → Value)) K' => ROK K' s' l z.1 z.2) (fun z => ⟨.tup [RG z.1 s'.now, i64 c], [], 0⟩) := by
  by_cases k1 : to < 1
  · refine ⟨2, s, ⟨rfl, hs, rfl⟩, ?_, hcx_keepK hR (fun v => ⟨.tup [RG v s.now, i64 2], [], 0⟩) (changeR_tl K s hs l vL V hR now g to dur k1)⟩
    by_cases d1 : dur < 0
    · exact change_tldl s hs now g to dur k1 d1
    by_cases d2 : 65536 < dur
    · exact change_tldh s hs now g to dur k1 d2
    exact change_tldk s hs now g to dur k1 ⟨by omega, by omega⟩
  by_cases k2 : 4 < to
  · refine ⟨2, s, ⟨rfl, hs, rfl⟩, ?_, hcx_keepK hR (fun v => ⟨.tup [RG v s.now, i64 2], [], 0⟩) (changeR_th K s hs l vL V hR now g to dur k2)⟩
    by_cases d1 : dur < 0
    · exact change_thdl s hs now g to dur k2 d1
    by_cases d2 : 65536 < dur
    · exact change_thdh s hs now g to dur k2 d2
    exact change_thdk s hs now g to dur k2 ⟨by omega, by omega⟩
  have k : 1 ≤ to ∧ to ≤ 4 := ⟨by omega, by omega⟩
  by_cases d1 : dur < 0
  · exact ⟨2, s, ⟨rfl, hs, rfl⟩, change_tkdl s hs now g to dur k d1, hcx_keepK hR (fun v => ⟨.tup [RG v s.now, i64 2], [], 0⟩) (changeR_dl K s hs l vL V hR now g to dur k d1)⟩
  by_cases d2 : 65536 < dur
  · exact ⟨2, s, ⟨rfl, hs, rfl⟩, change_tkdh s hs now g to dur k d2, hcx_keepK hR (fun v => ⟨.tup [RG v s.now, i64 2], [], 0⟩) (changeR_dh K s hs l vL V hR now g to dur k d2)⟩
  have d : 0 ≤ dur ∧ dur ≤ 65536 := ⟨by omega, by omega⟩
  by_cases t1 : now < 0
  · exact ⟨2, s, ⟨rfl, hs, rfl⟩, change_lo s hs now g to dur k d t1, hcx_keepK hR (fun v => ⟨.tup [RG v s.now, i64 2], [], 0⟩) (changeR_no K s hs l vL V hR now g to dur k d (by omega))⟩
  by_cases t2 : 1099511627776 < now
  · exact ⟨2, s, ⟨rfl, hs, rfl⟩, change_hi s hs now g to dur k d t2, hcx_keepK hR (fun v => ⟨.tup [RG v s.now, i64 2], [], 0⟩) (changeR_no K s hs l vL V hR now g to dur k d (by omega))⟩
  have ht : 0 ≤ now ∧ now ≤ 1099511627776 := ⟨by omega, by omega⟩
  by_cases g1 : g < 1
  · exact ⟨3, gAt s now, ⟨rfl, hs.at ht, rfl⟩, change_glo s hs now g to dur k d ht g1, hcx_keepK (hR.at now) (fun v => ⟨.tup [RG v (max s.now now), i64 3], [], 0⟩) (changeR_lo K s hs l vL V hR now g to dur k d ht g1)⟩
  by_cases g2 : s.n < g
  · exact ⟨3, gAt s now, ⟨rfl, hs.at ht, rfl⟩, change_ghi s hs now g to dur k d ht g2, hcx_keepK (hR.at now) (fun v => ⟨.tup [RG v (max s.now now), i64 3], [], 0⟩) (changeR_hi K s hs l vL V hR now g to dur k d ht g2)⟩
  have hg : 1 ≤ g ∧ g ≤ s.n := ⟨by omega, by omega⟩
  have hst := @stO_at s now g
  by_cases hx : max s.now now < s.fr (g - 1).toNat
  · rw [if_pos hx] at hst
    exact ⟨0, gSet (gAt s now) g to dur, ⟨rfl, (hs.at ht).set g to dur d, rfl⟩, change_in s hs now g to dur k d ht hg hx, hcx_keepV (fun v => ⟨.tup [RG v (max s.now now), i64 0], [], 0⟩) (changeR_ok K s hs l vL V hR now g to dur k d ht hg (by rw [hst]; decide))⟩
  · rw [if_neg hx] at hst
    by_cases h4 : s.to (g - 1).toNat = 4
    · exact ⟨8, gAt s now, ⟨rfl, hs.at ht, rfl⟩, change_lost s hs now g to dur k d ht hg hx h4, hcx_keepX (hR.at now) (fun v => ⟨.tup [RG v (max s.now now), i64 8], [], 0⟩) (changeR_lost K s hs l vL V hR now g to dur k d ht hg (by rw [hst]; exact h4))⟩
    · exact ⟨0, gSet (gAt s now) g to dur, ⟨rfl, (hs.at ht).set g to dur d, rfl⟩, change_ok s hs now g to dur k d ht hg hx h4, hcx_keepV (fun v => ⟨.tup [RG v (max s.now now), i64 0], [], 0⟩) (changeR_ok K s hs l vL V hR now g to dur k d ht hg (by rw [hst]; exact h4))⟩
theorem state_both (K : Kn) (s : GS) (hs : GOk s) (l : List Int) (hk : KeysOf s.h l) (hl : l.length < 129) (vL : Value) (V : Nat → Value) (hR : ROK K s l vL V) (now g : Int) :
    ∃ (v c : Int) (s' : GS), (s'.n = s.n ∧ GOk s' ∧ s'.h = s.h) ∧
      HC Try.prog 42 [.ptr 0 0, i64 now, i64 g] (hpG s) [] 2 (fun _ : Unit => True) (fun _ => ⟨.tup [i64 v, i64 c], hpG s', 2⟩) ∧
      HCX Try.prog K M0 47 [RG vL s.now, i64 now, i64 g] [] [] 0 (fun (z : Value × (Nat → Value)) K' => ROK K' s' l z.1 z.2) (fun z => ⟨.tup [RG z.1 s'.now, i64 v, i64 c], [], 0⟩) := by
  by_cases t1 : now < 0
  · exact ⟨0, 2, s, ⟨rfl, hs, rfl⟩, state_tlo s hs now g t1, hcx_keepK hR (fun v => ⟨.tup [RG v s.now, i64 0, i64 2], [], 0⟩) (stateR_no K s vL now g (by omega))⟩
  by_cases t2 : 1099511627776 < now
  · exact ⟨0, 2, s, ⟨rfl, hs, rfl⟩, state_thi s hs now g t2, hcx_keepK hR (fun v => ⟨.tup [RG v s.now, i64 0, i64 2], [], 0⟩) (stateR_no K s vL now g (by omega))⟩
  have ht : 0 ≤ now ∧ now ≤ 1099511627776 := ⟨by omega, by omega⟩
  by_cases g1 : g < 1
  · exact ⟨0, 3, gAt s now, ⟨rfl, hs.at ht, rfl⟩, state_lo s hs now g ht g1, hcx_keepK (hR.at now) (fun v => ⟨.tup [RG v (max s.now now), i64 0, i64 3], [], 0⟩) (stateR_lo K s vL now g ht g1)⟩
  by_cases g2 : s.n < g
  · exact ⟨0, 3, gAt s now, ⟨rfl, hs.at ht, rfl⟩, state_hi s hs now g ht g2, hcx_keepK (hR.at now) (fun v => ⟨.tup [RG v (max s.now now), i64 0, i64 3], [], 0⟩) (stateR_hi K s hs l vL V hR now g ht g2)⟩
  have hg : 1 ≤ g ∧ g ≤ s.n := ⟨by omega, by omega⟩
  have hst := @stO_at s now g
  have hR' := stateR_ok K s hs l vL V hR now g ht hg
  by_cases hx : max s.now now < s.fr (g - 1).toNat
  · rw [hst, if_pos hx] at hR'
    exact ⟨15, 0, gAt s now, ⟨rfl, hs.at ht, rfl⟩, state_in s hs now g ht hg hx, hcx_keepK (hR.at now) (fun v => ⟨.tup [RG v (max s.now now), i64 15, i64 0], [], 0⟩) hR'⟩
  · rw [hst, if_neg hx] at hR'
    exact ⟨_, 0, gAt s now, ⟨rfl, hs.at ht, rfl⟩, state_out s hs now g ht hg hx, hcx_keepK (hR.at now) (fun v => ⟨.tup [RG v (max s.now now), i64 (s.to (g - 1).toNat), i64 0], [], 0⟩) hR'⟩
theorem status_both (K : Kn) (s : GS) (hs : GOk s) (l : List Int) (hk : KeysOf s.h l) (hl : l.length < 129) (vL : Value) (V : Nat → Value) (hR : ROK K s l vL V) (now nm : Int) (h0 : 0 ≤ nm ∧ nm ≤ 4294967295) :
    ∃ (a b c : Int) (z : SV) (s' : GS), (z = .tt ∨ z = .ff) ∧ (s'.n = s.n ∧ GOk s' ∧ s'.h = s.h) ∧
      HC Try.prog 32 [.ptr 0 0, i64 now, u32 nm] (hpG s) [] 2 (fun _ : Unit => True) (fun _ => ⟨.tup [stS a b z, i64 c], hpG s', 2⟩) ∧
      HCX Try.prog K M0 48 [RG vL s.now, i64 now, u32 nm] [] [] 0 (fun (y : Value × (Nat → Value)) K' => ROK K' s' l y.1 y.2) (fun y => ⟨.tup [RG y.1 s'.now, stS a b z, i64 c], [], 0⟩) := by
  have hn1 := hs.n1
  by_cases ht : 0 ≤ now ∧ now ≤ 1099511627776
  · cases hq : nameOk nm with
    | false => exact ⟨0, 0, 2, .ff, s, .inr rfl, ⟨rfl, hs, rfl⟩, status_name s hs now nm hq, hcx_keepX hR (fun v => ⟨.tup [RG v s.now, stS 0 0 .ff, i64 2], [], 0⟩) (statusR_name K s hs l hk hl vL V hR now nm h0 ht hq)⟩
    | true =>
    by_cases hb : grp s nm = 0
    · exact ⟨0, 11, 0, .tt, gAt s now, .inl rfl, ⟨rfl, hs.at ht, rfl⟩, status_no s hs now nm hq ht hb, hcx_keepX (hR.at now) (fun v => ⟨.tup [RG v (max s.now now), stS 0 11 .tt, i64 0], [], 0⟩) (statusR_none K s hs l hk hl vL V hR now nm h0 ht hq hb)⟩
    have hm : s.h nm = true := by
      cases hh : s.h nm with
      | true => rfl
      | false => exact absurd (by unfold grp; rw [hh]; rfl) hb
    have hgv : grp s nm = s.v nm := by unfold grp; rw [hm]; rfl
    have hr := hs.v0 nm hm
    have hst := @stO_at s now (grp s nm)
    have sR := fun h3 => statusR_un K s hs l hk hl vL V hR now nm h0 ht hq (by rw [hgv]; exact hr) hn1 h3
    have sL := fun h3 => statusR_lost K s hs l hk hl vL V hR now nm h0 ht hq (by rw [hgv]; exact hr) hn1 h3
    have sC := fun h3 => statusR_chg K s hs l hk hl vL V hR now nm h0 ht hq (by rw [hgv]; exact hr) hn1 h3
    have sO := fun h3 h4 h5 => statusR_ok K s hs l hk hl vL V hR now nm h0 ht hq (by rw [hgv]; exact hr) hn1 h3 h4 h5
    rw [hgv] at hst sR sL sC sO
    rw [hst] at sR sL sC sO
    by_cases hx : max s.now now < s.fr (s.v nm - 1).toNat
    · rw [if_pos hx] at sC
      exact ⟨3, 3, 0, .ff, gAt s now, .inr rfl, ⟨rfl, hs.at ht, rfl⟩, status_in s hs now nm hq ht hm hr hx, hcx_keepX (hR.at now) (fun v => ⟨.tup [RG v (max s.now now), stS 3 3 .ff, i64 0], [], 0⟩) (sC rfl)⟩
    rw [if_neg hx] at sR sL sC sO
    by_cases h3 : s.to (s.v nm - 1).toNat = 3
    · exact ⟨3, 2, 0, .ff, gAt s now, .inr rfl, ⟨rfl, hs.at ht, rfl⟩, status_un s hs now nm hq ht hm hr hx h3, hcx_keepX (hR.at now) (fun v => ⟨.tup [RG v (max s.now now), stS 3 2 .ff, i64 0], [], 0⟩) (sR h3)⟩
    by_cases h4 : s.to (s.v nm - 1).toNat = 4
    · exact ⟨3, 1, 0, .ff, gAt s now, .inr rfl, ⟨rfl, hs.at ht, rfl⟩, status_lost s hs now nm hq ht hm hr hx h4, hcx_keepX (hR.at now) (fun v => ⟨.tup [RG v (max s.now now), stS 3 1 .ff, i64 0], [], 0⟩) (sL h4)⟩
    by_cases h5 : s.to (s.v nm - 1).toNat = 15
    · exact ⟨3, 3, 0, .ff, gAt s now, .inr rfl, ⟨rfl, hs.at ht, rfl⟩, status_chg s hs now nm hq ht hm hr hx h5, hcx_keepX (hR.at now) (fun v => ⟨.tup [RG v (max s.now now), stS 3 3 .ff, i64 0], [], 0⟩) (sC h5)⟩
    exact ⟨0, 0, 0, .ff, gAt s now, .inr rfl, ⟨rfl, hs.at ht, rfl⟩, status_ok s hs now nm hq ht hm hr hx h3 h4 h5, hcx_keepX (hR.at now) (fun v => ⟨.tup [RG v (max s.now now), stS 0 0 .ff, i64 0], [], 0⟩) (sO h3 h4 h5)⟩
  · refine ⟨0, 0, 2, .ff, s, .inr rfl, ⟨rfl, hs, rfl⟩, ?_, hcx_keepX hR (fun v => ⟨.tup [RG v s.now, stS 0 0 .ff, i64 2], [], 0⟩) (statusR_time K s hs l hk hl vL V hR now nm h0 ht)⟩
    cases hq : nameOk nm with
    | false => exact status_name s hs now nm hq
    | true =>
      by_cases t1 : now < 0
      · exact status_tlo s hs now nm hq t1
      · exact status_thi s hs now nm hq (by omega)
end Sx
end
