/- The reference of chapter 44: Add. Conditions: as each theorem says. -/
import Derived.Test.YtlpbmlfejiaamaaNzl
set_option linter.unusedSimpArgs false
set_option linter.unusedVariables false
namespace Sx
open Go Go.Proofs
set_option maxRecDepth 100000
set_option pp.deepTerms true
set_option pp.maxSteps 10000000
theorem goNT {B : Base} (hB : B.ok) {ro : Hp} {f : FuncId} {R : Ending → World → Prop} (S : List (Nat × Nat)) (m : Nat) {cs : List Prop} {c c' : Cfg} (h : execY Try.prog modeN ro S m [] c = (cs, c')) (hc : conj cs)
    (hr : Run Try.prog ro B f R c') : Run Try.prog ro B f R c := run_goY mixed named hB sN_ok S m h hc hr
theorem bltT {a b : Nat} (h : a < b) : Nat.blt a b = true := by rw [Nat.blt_eq]; exact h
theorem bltF {a b : Nat} (h : ¬ a < b) : Nat.blt a b = false := by
  cases q : Nat.blt a b with
  | false => rfl
  | true => rw [Nat.blt_eq] at q; exact absurd q h
theorem ins_row (L : List Int) (nm : Int) (k : Nat) (hk : k ≤ L.length) (i : Nat) (hi : i < L.length + 1) : rowL .u32 (L.take k ++ nm :: L.drop k) i 0
    = appF (appF (appF (fun i k => SV.und) 0 fun i k => rowL .u32 L i k) k fun i k => [SV.int .u32 nm][i + k]?.getD .und) (k + 1) (fun i j => rowL .u32 L (k + i) j) i 0 := by
  have hlk : (L.take k).length = k := by rw [List.length_take]; omega
  rcases Nat.lt_trichotomy i k with h | h | h
  · simp only [appF, bltT (show i < k + 1 by omega), bltT h, bltF (Nat.not_lt_zero i), cond_true, cond_false, Nat.sub_zero, rowL]
    congr 1
    rw [List.getD_eq_getElem?_getD, List.getElem?_append_left (by omega), List.getElem?_take, if_pos h, ← List.getD_eq_getElem?_getD]
  · subst h
    simp only [appF, bltT (show i < i + 1 by omega), bltF (Nat.lt_irrefl i), cond_true, cond_false, rowL]
    rw [List.getD_eq_getElem?_getD, List.getElem?_append_right (by omega), hlk]
    simp
  · simp only [appF, bltF (show ¬ i < k + 1 by omega), cond_false, rowL]
    congr 1
    rw [List.getD_eq_getElem?_getD, List.getElem?_append_right (by omega), hlk]
    obtain ⟨j, rfl⟩ : ∃ j, i = k + 1 + j := ⟨i - (k + 1), by omega⟩
    rw [show k + 1 + j - k = j + 1 by omega, List.getElem?_cons_succ, List.getElem?_drop, show k + 1 + j - (k + 1) = j by omega, ← List.getD_eq_getElem?_getD]
theorem addR_name (K : Kn) (vL : Value) (now g nm : Int) (h0 : 0 ≤ nm ∧ nm ≤ 4294967295) (hq : nameOk nm = false) : HCK Try.prog K 43 [RG vL now, i64 g, u32 nm] [] [] 0 (fun _ : Unit => True) (fun _ => ⟨.tup [RG vL now, i64 2], [], 0⟩) := by
  refine hck_of_run Try.func43 rfl (fun B hB hK hpin => ?_)
  refine goN hB rfl rfl (by simp [conj]; omega) ?_
  refine run_tt (by simpa using hq) ?_
  refine goN hB rfl rfl (by first | exact conj_nil | simp [conj]) ?_
  exact run_retC hpin () trivial [] rfl rfl (by first | exact conj_nil | simp [conj]) rfl (by first | exact conj_nil | simp [conj])
theorem addR_lo (K : Kn) (vL : Value) (now g nm : Int) (h0 : 0 ≤ nm ∧ nm ≤ 4294967295) (hq : nameOk nm = true) (hg : g < 1) : HCK Try.prog K 43 [RG vL now, i64 g, u32 nm] [] [] 0 (fun _ : Unit => True) (fun _ => ⟨.tup [RG vL now, i64 3], [], 0⟩) := by
  refine hck_of_run Try.func43 rfl (fun B hB hK hpin => ?_)
  refine goN hB rfl rfl (by simp [conj]; omega) ?_
  refine run_ff (by simpa using hq) ?_
  refine goNT hB [(43, 17)] 400 rfl (by first | exact conj_nil | simp [conj]) ?_
  refine run_tt (by simpa using hg) ?_
  refine goN hB rfl rfl (by first | exact conj_nil | simp [conj]) ?_
  exact run_retC hpin () trivial [] rfl rfl (by first | exact conj_nil | simp [conj]) rfl (by first | exact conj_nil | simp [conj])
theorem addR_hi (K : Kn) (s : GS) (hs : GOk s) (l : List Int) (vL : Value) (V : Nat → Value) (hR : ROK K s l vL V) (g nm : Int) (h0 : 0 ≤ nm ∧ nm ≤ 4294967295) (hq : nameOk nm = true) (hg : s.n < g) : HCK Try.prog K 43 [RG vL s.now, i64 g, u32 nm] [] [] 0 (fun _ : Unit => True) (fun _ => ⟨.tup [RG vL s.now, i64 3], [], 0⟩) := by
  have hn0 := hs.n0
  have hG := hR.g
  have hn : (s.n.toNat : Int) = s.n := by omega
  generalize s.n.toNat = n at hG hn
  refine hck_of_run Try.func43 rfl (fun B hB hK hpin => ?_)
  refine goN hB rfl rfl (by simp [conj]; omega) ?_
  refine run_ff (by simpa using hq) ?_
  refine goNT hB [(43, 17)] 400 rfl (by first | exact conj_nil | simp [conj]) ?_
  refine run_ff (by simp; omega) ?_
  refine goN hB rfl rfl (by first | exact conj_nil | simp [conj]) ?_
  refine run_open hK 21 hG (by decide) rfl (fun off => ?_)
  refine goN hB rfl rfl (by first | exact conj_nil | simp [conj]) ?_
  refine run_tt (by simp; omega) ?_
  refine goN hB rfl rfl (by first | exact conj_nil | simp [conj]) ?_
  refine run_close (.inl rfl) ?_
  exact run_retC hpin () trivial [] rfl rfl (by first | exact conj_nil | simp [conj]) rfl (by first | exact conj_nil | simp [conj])
theorem addR_busy (K : Kn) (s : GS) (hs : GOk s) (l : List Int) (hk : KeysOf s.h l) (hl : l.length < 129) (vL : Value) (V : Nat → Value) (hR : ROK K s l vL V) (g nm : Int) (h0 : 0 ≤ nm ∧ nm ≤ 4294967295) (hq : nameOk nm = true) (hg : 1 ≤ g ∧ g ≤ s.n) (hb : grp s nm ≠ 0) :
    HCX Try.prog K M0 43 [RG vL s.now, i64 g, u32 nm] [] [] 0 (fun (_ : Unit) K' => K' = K) (fun _ => ⟨.tup [RG vL s.now, i64 11], [], 0⟩) := by
  have hn0 := hs.n0
  have hG := hR.g
  have hF := findR_hck K s hs l hk hl vL V hR nm
  have hp : 0 < grp s nm := by
    unfold grp at hb ⊢
    cases hh : s.h nm with
    | false => rw [hh] at hb; exact absurd rfl hb
    | true => have := (hs.v0 nm hh).1; simp; omega
  have hn : (s.n.toNat : Int) = s.n := by omega
  generalize s.n.toNat = n at hG hn
  generalize grp s nm = r at hF hp
  refine hcx_of_run Try.func43 rfl (fun B hB hK hpin => ?_)
  refine goN hB rfl rfl (by simp [conj]; omega) ?_
  refine run_ff (by simpa using hq) ?_
  refine goNT hB [(43, 17)] 400 rfl (by first | exact conj_nil | simp [conj]) ?_
  refine run_ff (by simp; omega) ?_
  refine goN hB rfl rfl (by first | exact conj_nil | simp [conj]) ?_
  refine run_open hK 21 hG (by decide) rfl (fun off => ?_)
  refine goN hB rfl rfl (by first | exact conj_nil | simp [conj]) ?_
  refine run_ff (by simp; omega) ?_
  refine goN hB rfl rfl (by first | exact conj_nil | simp [conj]) ?_
  refine run_close (.inl rfl) ?_
  refine run_callX (hcx_of_hck (M := M0) hF) named hB hK (fun _ h => h.elim) (.inr fun _ h => h) [] rfl rfl rfl rfl (by first | exact conj_nil | simp [conj]) (by first | exact conj_nil | simp [conj]) ?_
  rintro ⟨⟩ B2 K2 ⟨_, rfl⟩ hF2 hp2
  have hB2 := hF2.ok
  refine ⟨show 0 ≤ 0 by omega, _, _, _, rfl, rfl, rfl, ?_⟩
  refine goN hB2 rfl rfl (by first | exact conj_nil | simp [conj]) ?_
  refine run_tt (by simpa using hp) ?_
  refine goN hB2 rfl rfl (by first | exact conj_nil | simp [conj]) ?_
  exact run_retF hF2 (hpin.fz hF2 hp2) () rfl [] rfl rfl (by first | exact conj_nil | simp [conj]) rfl (by first | exact conj_nil | simp [conj])
theorem addR_ok (K : Kn) (s : GS) (hs : GOk s) (l : List Int) (hk : KeysOf s.h l) (hl : l.length < 129) (vL : Value) (V : Nat → Value) (hR : ROK K s l vL V) (g nm : Int) (h0 : 0 ≤ nm ∧ nm ≤ 4294967295) (hq : nameOk nm = true) (hg : 1 ≤ g ∧ g ≤ s.n) (hb : grp s nm = 0) :
    HCX Try.prog K M0 43 [RG vL s.now, i64 g, u32 nm] [] [] 0 (fun (z : Value × (Nat → Value)) K' => ROK K' (gAdd s nm g) (lAdd nm l) z.1 z.2) (fun z => ⟨.tup [RG z.1 s.now, i64 0], [], 0⟩) := by
  have hn0 := hs.n0
  have hn1 := hs.n1
  have hG := hR.g
  have hM := hR.m
  have hF := findR_hck K s hs l hk hl vL V hR nm
  have hn : (s.n.toNat : Int) = s.n := by omega
  generalize hnn : s.n.toNat = n at hG hn hM
  rw [hb] at hF
  refine hcx_of_run Try.func43 rfl (fun B hB hK hpin => ?_)
  refine goN hB rfl rfl (by simp [conj]; omega) ?_
  refine run_ff (by simpa using hq) ?_
  refine goNT hB [(43, 17)] 400 rfl (by first | exact conj_nil | simp [conj]) ?_
  refine run_ff (by simp; omega) ?_
  refine goN hB rfl rfl (by first | exact conj_nil | simp [conj]) ?_
  refine run_open hK 21 hG (by decide) rfl (fun off => ?_)
  refine goN hB rfl rfl (by first | exact conj_nil | simp [conj]) ?_
  refine run_ff (by simp; omega) ?_
  refine goN hB rfl rfl (by first | exact conj_nil | simp [conj]) ?_
  refine run_close (.inl rfl) ?_
  refine run_callX (hcx_of_hck (M := M0) hF) named hB hK (fun _ h => h.elim) (.inr fun _ h => h) [] rfl rfl rfl rfl (by first | exact conj_nil | simp [conj]) (by first | exact conj_nil | simp [conj]) ?_
  rintro ⟨⟩ B2 K2 ⟨_, rfl⟩ hF2 hp2
  have hB2 := hF2.ok
  have hK2 := hF2.le
  have hpin2 := hpin.fz hF2 hp2
  refine ⟨show 0 ≤ 0 by omega, _, _, _, rfl, rfl, rfl, ?_⟩
  refine goN hB2 rfl rfl (by first | exact conj_nil | simp [conj]) ?_
  refine run_ff (by simp) ?_
  refine goN hB2 rfl rfl (by first | exact conj_nil | simp [conj]) ?_
  refine run_loop ?_
  refine run_inv (ι := Nat) hpin2 (fun i => i ≤ n) (fun i => n - i) (fun i => [(9, i64 i), (8, i64 (cntM s l i)), (7, i64 0), (6, .ptr 1 0), (3, .ptr 0 0), (1, i64 g), (2, u32 nm)]) (fun _ => []) (fun _ => [(1, .cells [.und, .und] 37), (0, .cells [.val vL, i64 s.now] 37)]) 2 0 (Nat.zero_le _) [0, 1] rfl rfl (by simp [conj, less_rfl, cntM]) ?_
  intro i hi ih
  refine goN hB2 rfl rfl (by first | exact conj_nil | simp [conj]) ?_
  refine run_open hK2 33 hG (by decide) rfl (fun off => ?_)
  refine goN hB2 rfl rfl (by first | exact conj_nil | simp [conj]) ?_
  have hcn := cntM_le s i l
  by_cases hi1 : i < n
  · refine run_tt (by simpa using hi1) ?_
    have ih := ih (i + 1) (by omega) (by omega)
    have e0 : 0 + ((i : Nat) : Int).toNat = i := by omega
    have hlen : (mem s ((i : Int) + 1) l).length ≤ l.length := List.length_filter_le _ _
    refine goN hB2 rfl rfl (by first | exact conj_nil | simp [conj]) ?_
    refine run_open hK2 40 hG (by decide) rfl (fun off2 => ?_)
    refine goN hB2 rfl rfl (by simp [conj]; omega) ?_
    rw [e0]
    refine run_open hK2 44 (hM i hi1) (by decide) rfl (fun off3 => ?_)
    refine goN hB2 rfl rfl (by simp [conj, Fits_i64]; omega) ?_
    refine run_back ?_
    refine run_close (.inl rfl) ?_
    refine run_close (.inl rfl) ?_
    refine run_close (.inl rfl) ?_
    refine run_to hpin2 [0, 1] rfl rfl ?_ ih
    clear ih
    simp [conj, less_rfl, cntM]
  clear ih
  have hin : i = n := by omega
  subst hin
  refine run_ff (by simp) ?_
  refine goN hB2 rfl rfl (by first | exact conj_nil | simp [conj]) ?_
  refine run_close (.inl rfl) ?_
  refine run_ff (by simp; omega) ?_
  refine goN hB2 rfl rfl (by simp [conj, Fits_i64]; omega) ?_
  refine run_open hK2 51 hG (by decide) rfl (fun off2 => ?_)
  refine goN hB2 rfl rfl (by simp [conj, Fits_i64] <;> omega) ?_
  rw [Nat.zero_add]
  have hL := hM (g - 1).toNat (by omega)
  have eg : (((g - 1).toNat : Nat) : Int) + 1 = g := by omega
  rw [eg] at hL
  have hlen : (mem s g l).length ≤ l.length := List.length_filter_le _ _
  have hadd := mem_add_same hs hk hg.1 hb (g := g)
  generalize mem s g l = L at hL hlen hadd
  refine run_close (.inl rfl) ?_
  refine run_openB hK2 4 3 hL (by decide) rfl rfl (fun _ => rfl) (fun _ => rfl) (fun off3 => ?_)
  refine run_loop ?_
  refine run_inv (ι := Nat) hpin2 (fun k => k ≤ L.length ∧ ∀ a, a < k → lsD L a < nm) (fun k => L.length - k) (fun k => [(11, i64 k), (10, .ptr 4 0), (7, i64 0), (6, .ptr 1 0), (3, .ptr 0 0), (1, i64 g), (2, u32 nm)]) (fun _ => []) (fun _ => [(4, .cells [i64 (s.to (g - 1).toNat), i64 (s.fr (g - 1).toNat), u64 (s.ch (g - 1).toNat), .sq 5 off3 0 1 L.length .no] 51), (1, .cells [.und, .und] 37), (0, .cells [.val vL, i64 s.now] 37)]) 6 0 ⟨Nat.zero_le _, fun a ha => absurd ha (Nat.not_lt_zero _)⟩ [0, 1, 2, 3, 4, 5] rfl rfl (by simp [conj, less_rfl, ren_rowL]) ?_
  rintro k ⟨hk1, hk2⟩ ih
  refine goNT hB2 [(43, 60)] 400 rfl (by first | exact conj_nil | simp [conj]) ?_
  have e0 : 0 + ((k : Nat) : Int).toNat = k := by omega
  have st1 : ∀ (i : Nat), storable (rowL IntKind.u32 L i 0) = true := fun i => rfl
  by_cases hend : k < L.length → ¬ lsD L k < nm
  · clear ih
    apply run_share (B := B2) (ro := [(5, SO.row off3 L.length L.length 1 (rowL IntKind.u32 L) anyTy)]) (P := Try.prog) (f := 43) (fun N TD => ⟨⟨fid 43, N, [(10, .ptr 4 0), (7, i64 0), (6, .ptr 1 0), (3, .ptr 0 0), (1, i64 g)], TD⟩, [], [(4, .cells [i64 (s.to (g - 1).toNat), i64 (s.fr (g - 1).toNat), u64 (s.ch (g - 1).toNat), .sq 6 0 0 1 (L.length + 1) .own] 51), (6, .row 0 (L.length + 1) (L.length + 1) 1 (rowL .u32 (L.take k ++ nm :: L.drop k)) 29), (1, .cells [.und, .und] 37), (0, .cells [.val vL, i64 s.now] 37)], 7⟩)
    · intro next
      by_cases hkl : k < L.length
      · refine run_tt (by simpa using hkl) ?_
        refine goNT hB2 [(43, 68)] 400 rfl (by simp [conj] <;> omega) ?_
        rw [e0]
        refine run_ff (decide_eq_false (hend hkl)) ?_
        refine goNT hB2 [] 8 rfl (by simp [conj, Fits_i64]; exact ⟨by omega, by omega, fun i _ => st1 _, by omega, hk1, by omega, by omega, by omega, by omega, fun i _ => st1 _, hk1⟩) ?_
        refine run_to hpin2 [0, 1, 2, 3, 4, 5, 19] rfl rfl ?_ next
        simp [conj, less_rfl, ren_rowL]
        exact ⟨by omega, by omega, fun i hi => Less.of (ins_row L nm k hk1 i hi)⟩
      · refine run_ff (by simpa using hkl) ?_
        refine goNT hB2 [] 16 rfl (by simp [conj, Fits_i64]; exact ⟨by omega, by omega, fun i _ => st1 _, by omega, hk1, by omega, by omega, by omega, by omega, fun i _ => st1 _, hk1⟩) ?_
        refine run_to hpin2 [0, 1, 2, 3, 4, 5, 19] rfl rfl ?_ next
        simp [conj, less_rfl, ren_rowL]
        exact ⟨by omega, by omega, fun i hi => Less.of (ins_row L nm k hk1 i hi)⟩
    · refine run_close (.inl rfl) ?_
      have hnew := hadd k (fun a ha _ => hk2 a ha) hend
      have hlL : (L.take k ++ nm :: L.drop k).length = L.length + 1 := by simp; omega
      generalize L.take k ++ nm :: L.drop k = L' at hnew hlL
      refine run_freezeB (L := 6) (off := 0) (sz := 1) (m := L.length + 1) (ap := .own) hB2 hK2 4 3 rfl rfl rfl rfl (Nat.le_refl _) (fun a b _ hb => closed_rowL _ _ _ hb) rfl (fun _ => rfl) (fun _ => rfl) ?_
      intro v B3 K3 hv hF3 hp3
      have hB3 := hF3.ok
      have hK3 := hF3.le
      have hpin3 := hpin2.fz hF3 hp3
      have hG3 := hG.fz hF3
      have hset := setR_hcx K3 s vL V i (by omega) hG3 s.now (s.to (g - 1).toNat) (s.fr (g - 1).toNat) (s.ch (g - 1).toNat) v hv.one (g - 1).toNat (by omega)
      have eg2 : (((g - 1).toNat : Nat) : Int) = g - 1 := by omega
      rw [eg2] at hset
      refine goN hB3 rfl rfl (by simp [conj, Fits_i64]; omega) ?_
      refine run_callX hset named hB3 hK3 (fun _ h => h.elim) (.inr fun _ h => h) [] rfl rfl rfl rfl (by first | exact conj_nil | simp [conj]) (by simp [conj]) ?_
      rintro vL' B4 K4 hv4 hF4 hp4
      have hB4 := hF4.ok
      refine ⟨show 0 ≤ 0 by omega, _, _, _, rfl, rfl, rfl, ?_⟩
      refine goN hB4 rfl rfl (by first | exact conj_nil | simp [conj]) ?_
      have hfin : ROK K4 (gAdd s nm g) (lAdd nm l) vL' (fun a => if a = (g - 1).toNat then v else V a) := by
        refine ⟨?_, fun j hj => ?_⟩
        · show Froz K4 vL' s.n.toNat 4 _
          rw [hnn]
          refine hv4.congr fun a b _ hb => ?_
          match b, hb with
          | 0, _ => by_cases e : a = (g - 1).toNat
                    · subst e; simp only [rrow, if_true]
                    · simp only [rrow, if_neg e]
          | 1, _ => by_cases e : a = (g - 1).toNat
                    · subst e; simp only [rrow, if_true]
                    · simp only [rrow, if_neg e]
          | 2, _ => by_cases e : a = (g - 1).toNat
                    · subst e; simp only [rrow, if_true]
                    · simp only [rrow, if_neg e]
          | 3, _ => rfl
        · have hj : j < s.n.toNat := hj
          by_cases e : j = (g - 1).toNat
          · subst e
            rw [eg, hnew, hlL, if_pos rfl]
            exact hv.mono fun b o q => hF4.old b o q (fun h => h)
          · rw [if_neg e, mem_add_other hk (by omega) (h_none hs hb)]
            exact (hM j (by omega)).mono fun b o q => hF4.old b o (hF3.old b o q (fun h => h)) (fun h => h)
      refine run_retF ((hF2.trans0 hF3 hK fun _ h => h.elim).trans0 hF4 hK fun _ h => h.elim) (hpin3.fz hF4 hp4) (vL', _) hfin [] rfl rfl (by first | exact conj_nil | simp [conj]) rfl ?_
      simp [conj]
  · have hkl : k < L.length := by
      rcases Nat.lt_or_ge k L.length with q | q
      · exact q
      · exact absurd (fun h => absurd h (Nat.not_lt_of_le q)) hend
    have hlt : lsD L k < nm := by
      by_cases q : lsD L k < nm
      · exact q
      · exact absurd (fun _ => q) hend
    refine run_tt (by simpa using hkl) ?_
    refine goNT hB2 [(43, 68)] 400 rfl (by simp [conj] <;> omega) ?_
    rw [e0]
    refine run_tt (decide_eq_true hlt) ?_
    have ih := ih (k + 1) ⟨by omega, fun a ha => by
      by_cases e : a = k
      · subst e; exact hlt
      · exact hk2 a (by omega)⟩ (by omega)
    refine goN hB2 rfl rfl (by simp [conj, Fits_i64]; omega) ?_
    refine run_back ?_
    refine run_to hpin2 [0, 1, 2, 3, 4, 5] rfl rfl ?_ ih
    clear ih
    simp [conj, less_rfl, ren_rowL]
end Sx
