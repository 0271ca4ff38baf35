/- Package extent: drop. Conditions: as each theorem says. -/
import Derived.Test.YtcfifbpkngplmaaXn
set_option linter.unusedSimpArgs false
set_option linter.unusedVariables false
namespace Sx
open Go Go.Proofs
set_option maxRecDepth 100000
set_option pp.deepTerms true
set_option pp.maxSteps 10000000
theorem insF_len (u : Int) (F : List Int) : (insF u F).length = F.length + 1 := insAt_len _ _ _
def lies (un a c size : Int) (i : Nat) : Bool := decide (a ≤ i * un) && decide (min size ((i + 1) * un) ≤ a + c)
theorem lies_hc (vF : Value) (nx tot un : Int) (h : Int → Bool) (sz : Int → Int) (V : Int → Value) (a c size : Int) (v : Value) (i : Nat) (hi : i < 100000000) (hu : 0 < un) (hu2 : un ≤ 4096) (ha : 0 ≤ a) (ha2 : a ≤ 16777216) (hc : 0 ≤ c) (hc2 : c ≤ 16777216) :
    HC Try.prog 45 [i64 i, .ptr 2 0, .ptr 3 0, .ptr 4 0, .ptr 5 0] [] [(0, xC vF nx tot un 1), (1, amap h sz V), (2, .cells [.ptr 0 0] 23), (3, .cells [i64 a] 3), (4, .cells [i64 size, .val v] 76), (5, .cells [i64 c] 3)] 6 (fun _ : Unit => True) (fun _ => ⟨.sb (lies un a c size i), [], 6⟩) := by
  have k1 : (i : Int) * un ≤ 100000000 * 4096 := Int.mul_le_mul (by omega) hu2 (Int.le_of_lt hu) (by decide)
  have k2 : 0 ≤ (i : Int) * un := Int.mul_nonneg (by omega) (Int.le_of_lt hu)
  have k3 : ((i : Int) + 1) * un = i * un + un := by rw [Int.add_mul, Int.one_mul]
  refine hc_of_run Try.func45 rfl (fun B hB hpin => ?_)
  refine goM hB rfl rfl (by simp [conj, isPt23, Fits_i64]; omega) ?_
  refine run_retC hpin () trivial [0, 1, 2, 3, 4, 5] rfl rfl (by first | exact conj_nil | simp [conj]) rfl ?_
  simp [conj, less_rfl, lies]
abbrev cfD : List Nat := 45 :: cfM
def modeD : Mode := { st := true, unr := false, inl := fun f => !hasN f cfD, sum := sumOf [], keep := fun _ => none }
theorem goD {B : Base} (hB : B.ok) {ro : Hp} {f : FuncId} {R : Ending → World → Prop} {cs0 cs : List Prop} {c c0 c' : Cfg} (h0 : stepD Try.prog modeD ro c = some (cs0, c0)) (h : execG Try.prog modeD ro 400 cs0 c0 = (cs, c')) (hc : conj cs)
    (hr : Run Try.prog ro B f R c') : Run Try.prog ro B f R c := run_go mixed named hB (sumOk_nil _) 400 h0 h hc hr
theorem goDT {B : Base} (hB : B.ok) {ro : Hp} {f : FuncId} {R : Ending → World → Prop} (S : List (Nat × Nat)) (m : Nat) {cs : List Prop} {c c' : Cfg} (h : execY Try.prog modeD ro S m [] c = (cs, c')) (hc : conj cs)
    (hr : Run Try.prog ro B f R c') : Run Try.prog ro B f R c := run_goY mixed named hB (sumOk_nil _) S m h hc hr
def dL (f : Nat → Int) (d : Nat → Bool) (i : Nat) : List Int := ((List.range i).filter d).map (fun k => f k - 1)
theorem dL_zero (f : Nat → Int) (d : Nat → Bool) : dL f d 0 = [] := rfl
theorem dL_yes (f : Nat → Int) (d : Nat → Bool) (i : Nat) (h : d i = true) : dL f d (i + 1) = dL f d i ++ [f i - 1] := by
  unfold dL; rw [List.range_succ, List.filter_append, List.map_append]; simp [h]
theorem dL_no (f : Nat → Int) (d : Nat → Bool) (i : Nat) (h : d i = false) : dL f d (i + 1) = dL f d i := by
  unfold dL; rw [List.range_succ, List.filter_append, List.map_append]; simp [h]
theorem dL_len (f : Nat → Int) (d : Nat → Bool) (i : Nat) : (dL f d i).length ≤ i := by
  unfold dL; rw [List.length_map]; exact Nat.le_trans (List.length_filter_le _ _) (by simp)
def dU (f : Nat → Int) (d : Nat → Bool) (i : Nat) : Nat → Int := fun k => if k < i ∧ d k = true then 0 else f k
theorem dU_zero (f : Nat → Int) (d : Nat → Bool) : dU f d 0 = f := by funext k; simp [dU]
theorem dU_at (f : Nat → Int) (d : Nat → Bool) (i : Nat) : dU f d i i = f i := by simp [dU]
theorem dU_no (f : Nat → Int) (d : Nat → Bool) (i : Nat) (h : d i = false) : dU f d (i + 1) = dU f d i := by
  funext k; unfold dU
  by_cases e : k = i
  · subst e; simp [h]
  · have : k < i + 1 ↔ k < i := by omega
    simp [this]
theorem dU_yes (f : Nat → Int) (d : Nat → Bool) (i k : Nat) (h : d i = true) : dU f d (i + 1) k = if k = i then 0 else dU f d i k := by
  unfold dU
  by_cases e : k = i
  · subst e; simp [h]
  · have : k < i + 1 ↔ k < i := by omega
    simp [this, e]
def dF (F L : List Int) : List Int := L.foldl (fun F u => insF u F) F
theorem dF_snoc (F L : List Int) (u : Int) : dF F (L ++ [u]) = insF u (dF F L) := by unfold dF; rw [List.foldl_append]; rfl
theorem dF_len (F : List Int) : ∀ L : List Int, (dF F L).length = F.length + L.length := by
  intro L
  induction L generalizing F with
  | nil => rfl
  | cons u L ih =>
    show (dF (insF u F) L).length = _
    rw [ih, insF_len, List.length_cons]; omega
theorem insF_sorted (u : Int) (F : List Int) (h : F.Pairwise (· ≤ ·)) : (insF u F).Pairwise (· ≤ ·) := by
  have key : ∀ F : List Int, F.Pairwise (· ≤ ·) → (∀ x ∈ F.take (F.countP (· < u)), x < u) ∧ (∀ x ∈ F.drop (F.countP (· < u)), u ≤ x) := by
    intro F
    induction F with
    | nil => intro _; simp
    | cons y F ih =>
      intro hp
      rw [List.pairwise_cons] at hp
      by_cases hy : y < u
      · have e : (y :: F).countP (· < u) = F.countP (· < u) + 1 := by simp [List.countP_cons, hy]
        rw [e]
        obtain ⟨g1, g2⟩ := ih hp.2
        refine ⟨fun x hx => ?_, fun x hx => ?_⟩
        · rw [List.take_succ_cons] at hx
          rcases List.mem_cons.1 hx with rfl | hx
          · exact hy
          · exact g1 x hx
        · rw [List.drop_succ_cons] at hx; exact g2 x hx
      · have e : (y :: F).countP (· < u) = 0 := by
          rw [List.countP_eq_zero]
          intro x hx
          simp only [decide_eq_true_eq]
          rcases List.mem_cons.1 hx with rfl | hx
          · exact hy
          · have := hp.1 x hx; omega
        rw [e]
        refine ⟨by simp, fun x hx => ?_⟩
        rcases List.mem_cons.1 hx with rfl | hx
        · omega
        · have := hp.1 x hx; omega
  obtain ⟨g1, g2⟩ := key F h
  unfold insF insAt
  rw [List.pairwise_append]
  refine ⟨h.sublist (List.take_sublist _ _), List.pairwise_cons.2 ⟨g2, h.sublist (List.drop_sublist _ _)⟩, fun x hx y hy => ?_⟩
  have := g1 x hx
  rcases List.mem_cons.1 hy with rfl | hy
  · omega
  · have := g2 y hy; omega
theorem dF_sorted (F : List Int) (h : F.Pairwise (· ≤ ·)) : ∀ L : List Int, (dF F L).Pairwise (· ≤ ·) := by
  intro L
  induction L generalizing F with
  | nil => exact h
  | cons u L ih => exact ih (insF u F) (insF_sorted u F h)
def exrow (un : Int) (L : List Int) : Nat → Nat → SV := fun i k => bif Nat.beq k 0 then i64 (L.getD i 0 * un) else i64 un
theorem ren_exrow (nx : Nat) (sg : List Nat) (un : Int) (L : List Int) (i k : Nat) : ren nx sg (exrow un L i k) = exrow un L i k := by
  unfold exrow; cases Nat.beq k 0 <;> rfl
theorem renR_exrow (nx : Nat) (sg : List Nat) (un : Int) (L : List Int) : renR nx sg (exrow un L) = exrow un L := by funext i k; exact ren_exrow nx sg un L i k
theorem app_exrow (un : Int) (L : List Int) (a : Int) (j k : Nat) (hj : j < L.length + 1) (hk : k < 2) : exrow un (L ++ [a]) j k = appF (exrow un L) L.length (fun j k => [SV.int IntKind.i64 (a * un), SV.int IntKind.i64 un][j * 2 + k]?.getD SV.und) j k := by
  unfold appF
  by_cases h : j < L.length
  · have hb : Nat.blt j L.length = true := by simpa [Nat.blt_eq] using h
    rw [hb, cond_true]
    simp [exrow, h, List.getElem?_append_left h]
  · have : j = L.length := by omega
    subst this
    have hb : Nat.blt L.length L.length = false := by
      cases hq : Nat.blt L.length L.length with
      | false => rfl
      | true => rw [Nat.blt_eq] at hq; omega
    rw [hb, cond_false, Nat.sub_self]
    match k, hk with
    | 0, _ => simp [exrow]
    | 1, _ => simp [exrow]; rfl
theorem exrow_closed (un : Int) (L : List Int) (i k : Nat) : (exrow un L i k).closed = true := by
  unfold exrow; cases Nat.beq k 0 <;> rfl
set_option maxHeartbeats 4000000 in
theorem dropAll_hcx (K : Kn) (s : XSt) (z : XZ) (hu : 0 < s.un) (hu2 : s.un ≤ 4096) (id : Int) (n : Nat) (f : Nat → Int) (hn : n < 20000000) (b room : Nat) (hV : z.V id = .slice (some ⟨b, 0, none⟩) n room) (hr : n ≤ room) (hF : Froz K z.vF s.F.length 1 (nrow s.F)) (hl : s.F.length ≤ 40000) (hs : s.F.Pairwise (· ≤ ·)) (hn2 : n ≤ 20000)
    (hf : ∀ i, 0 ≤ f i ∧ f i ≤ 16777217 ∧ (f i - 1) * s.un ≤ 16777216)  (d : Nat → Bool) (hd : ∀ i, d i = (decide (0 < f i) && true)) :
    HCXq Try.prog K (fun β => β 2 = some b) 41 [.ptr 0 0, .agg [i64 (s.sz id), .val (z.V id)], .clo (.func 43) [] []] (hpX s z ++ [(2, .row 0 n n 1 (urow f) 3)]) [] 3 (fun (w : Value × Value) K' => Froz K' w.1 (dF s.F (dL f d n)).length 1 (nrow (dF s.F (dL f d n))) ∧ Froz K' w.2 (dL f d n).length 2 (exrow s.un (dL f d n)))
      (fun w => ⟨.val w.2, [(0, xC w.1 s.nx s.tot s.un 1), (1, amap s.h s.sz z.V), (2, .row 0 n n 1 (urow (dU f d n)) 3)], 3⟩) := by
  refine hcxq_of_run Try.func41 rfl (fun B hQ hB hK hpin _ => ?_)
  have hF0 : Fz B K M0 B K := .refl hB hK
  refine goD hB rfl rfl (by first | exact conj_nil | simp [conj]) ?_
  refine run_know 10 2 rfl hV hr hQ ?_
  refine goD hB rfl rfl (by first | exact conj_nil | simp [conj]) ?_
  refine run_loop ?_
  refine run_to hpin [0, 1, 2, 3, 4] (nx' := 5) (rest' := []) (sl' := [(12, i64 ((0 : Nat) : Int)), (11, i64 n), (10, .sq 2 0 0 1 n .no), (6, .sq 4 0 0 2 0 .own), (4, .ptr 3 0), (2, .clo (.func 43) [] []), (0, .ptr 0 0)]) (hp' := [(0, xC z.vF s.nx s.tot s.un 1), (1, amap s.h s.sz z.V), (2, .row 0 n n 1 (urow f) 3), (3, .cells [i64 (s.sz id), .val (z.V id)] 76), (4, .row 0 0 0 2 (exrow s.un []) 71)]) rfl rfl ?_ ?_
  · simp [conj, less_rfl, ren_urow, renR_urow]
  refine run_invX (ι := Nat × Value) hF0 hpin (fun x K' => x.1 ≤ n ∧ Froz K' x.2 (dF s.F (dL f d x.1)).length 1 (nrow (dF s.F (dL f d x.1)))) (fun x => n - x.1) (fun x => [(12, i64 x.1), (11, i64 n), (10, .sq 2 0 0 1 n .no), (6, .sq 4 0 0 2 (dL f d x.1).length .own), (4, .ptr 3 0), (2, .clo (.func 43) [] []), (0, .ptr 0 0)]) (fun _ => [])
    (fun x => [(0, xC x.2 s.nx s.tot s.un 1), (1, amap s.h s.sz z.V), (2, .row 0 n n 1 (urow (dU f d x.1)) 3), (3, .cells [i64 (s.sz id), .val (z.V id)] 76), (4, .row 0 (dL f d x.1).length (dL f d x.1).length 2 (exrow s.un (dL f d x.1)) 71)]) (0, z.vF) ⟨Nat.zero_le _, hF⟩ ?_
  rintro ⟨i, w⟩ B3 K3 hF3 hpin3 ⟨hi, hw⟩ ih
  have hB3 := hF3.ok
  have hK3 := hF3.le
  dsimp only at hi hw ih ⊢
  have hfi := hf i
  have hla := dL_len f d i
  refine goDT hB3 [(41, 13)] 400 rfl (by clear ih; first | exact conj_nil | simp [conj]) ?_
  by_cases hin : i < n
  · have e0 : 0 + ((i : Nat) : Int).toNat = i := by omega
    refine run_tt (by simpa using hin) ?_
    refine goDT hB3 [(41, 18)] 400 rfl (by clear ih; simp [conj, hin]) ?_
    rw [e0, dU_at]
    by_cases hp : 0 < f i
    · refine run_tt (by simpa using hp) ?_
      have hd1 : d i = true := by rw [hd]; simp [hp]
      refine goD hB3 rfl rfl (by clear ih; simp [conj, isPt23, Fits_i64]; omega) ?_
      have hpn : 0 ≤ (f i - 1) * s.un := Int.mul_nonneg (by omega) (Int.le_of_lt hu)
      have hFs := dF_sorted s.F hs (dL f d i)
      have hFl := dF_len s.F (dL f d i)
      refine run_callX (give_hcx K3 w (dF s.F (dL f d i)) (by omega) hFs hw s.nx s.tot s.un s.h s.sz z.V (f i - 1)) named hB3 hK3 (fun _ h => h.elim) (.inl rfl) [0, 1] rfl rfl rfl rfl (by first | exact conj_nil | simp [conj]) (by clear ih; simp [conj, less_rfl]) ?_
      rintro w4 B4 K4 hw4 hF4 hp4
      have hB4 := hF4.ok
      have hpin4 := hpin3.fz hF4 hp4
      rw [← dF_snoc, ← dL_yes f d i hd1] at hw4
      have ih := ih (i + 1, w4) B4 K4 (hF3.trans0 hF4 hK fun _ h => h.elim) hpin4 ⟨by show i + 1 ≤ n; omega, hw4⟩ (by show n - (i + 1) < n - i; omega)
      dsimp only at ih
      rw [dL_yes f d i hd1] at ih
      refine ⟨show 2 ≤ 2 by omega, _, _, _, rfl, rfl, rfl, ?_⟩
      refine goD hB4 rfl rfl (by clear ih; first | exact conj_nil | simp [conj, Fits_i64]) ?_
      have hQ4 : B4.pin 2 = some b := by rw [hp4]; exact hF3.pin _ _ hQ
      refine run_know 31 2 rfl hV hr hQ4 ?_
      refine goD hB4 rfl rfl (by clear ih; simp [conj, Fits_i64, hin]; omega) ?_
      refine run_back ?_
      refine run_to hpin4 [0, 1, 2, 3, 19] rfl rfl ?_ ih
      clear ih
      simp [conj, less_rfl, ren_urow, renR_urow, ren_exrow, renR_exrow]
      refine ⟨fun j _ => ?_, fun j k hj hk => Less.of (app_exrow s.un (dL f d i) (f i - 1) j k hj hk)⟩
      rw [show dU f d (i + 1) = (fun k => if k = i then 0 else dU f d i k) from funext fun k => dU_yes f d i k hd1]
      exact upd_less _ _ _ _
    · have hd0 : d i = false := by rw [hd]; simp [hp]
      refine run_ff (by simpa using hp) ?_
      have ih := ih (i + 1, w) B3 K3 hF3 hpin3 ⟨by show i + 1 ≤ n; omega, by show Froz K3 w (dF s.F (dL f d (i + 1))).length 1 _; rw [dL_no f d i hd0]; exact hw⟩ (by show n - (i + 1) < n - i; omega)
      dsimp only at ih
      rw [dL_no f d i hd0, dU_no f d i hd0] at ih
      refine goD hB3 rfl rfl (by clear ih; simp [conj, Fits_i64]; omega) ?_
      refine run_back ?_
      refine run_to hpin3 [0, 1, 2, 3, 4] rfl rfl ?_ ih
      clear ih
      simp [conj, less_rfl, ren_urow, renR_urow, ren_exrow, renR_exrow]
  · clear ih
    refine run_ff (by simpa using hin) ?_
    have hie : i = n := by omega
    subst hie
    refine goD hB3 rfl rfl (by first | exact conj_nil | simp [conj, Fits_i64]) ?_
    refine run_freeze hB3 hK3 6 rfl rfl (Nat.le_refl _) (fun i k _ _ => exrow_closed _ _ i k) rfl (fun v B4 K4 hFr hF4 hp4 => ?_)
    refine run_retF (hF3.trans0 hF4 hK fun _ h => h.elim) (hpin3.fz hF4 hp4) (w, v) ⟨hw.fz hF4, hFr⟩ [0, 1, 2] rfl rfl (by first | exact conj_nil | simp [conj]) rfl ?_
    simp [conj, less_rfl, ren_urow, renR_urow]
set_option maxHeartbeats 4000000 in
theorem dropSome_hcx (K : Kn) (s : XSt) (z : XZ) (hu : 0 < s.un) (hu2 : s.un ≤ 4096) (id : Int) (n : Nat) (f : Nat → Int) (hn : n < 20000000) (b room : Nat) (hV : z.V id = .slice (some ⟨b, 0, none⟩) n room) (hr : n ≤ room) (hF : Froz K z.vF s.F.length 1 (nrow s.F)) (hl : s.F.length ≤ 40000) (hs : s.F.Pairwise (· ≤ ·)) (hn2 : n ≤ 20000)
    (hf : ∀ i, 0 ≤ f i ∧ f i ≤ 16777217 ∧ (f i - 1) * s.un ≤ 16777216) (a c : Int) (ha : 0 ≤ a) (ha2 : a ≤ 16777216) (hc : 0 ≤ c) (hc2 : c ≤ 16777216) (d : Nat → Bool) (hd : ∀ i, d i = (decide (0 < f i) && lies s.un a c (s.sz id) i)) :
    HCXq Try.prog K (fun β => β 2 = some b) 41 [.ptr 0 0, .agg [i64 (s.sz id), .val (z.V id)], .clo (.func 45) [] [.ptr 3 0, .ptr 4 0, .ptr 5 0, .ptr 6 0]] (hpX s z ++ [(2, .row 0 n n 1 (urow f) 3), (3, .cells [.ptr 0 0] 23), (4, .cells [i64 a] 3), (5, .cells [i64 (s.sz id), .val (z.V id)] 76), (6, .cells [i64 c] 3)]) [] 7 (fun (w : Value × Value) K' => Froz K' w.1 (dF s.F (dL f d n)).length 1 (nrow (dF s.F (dL f d n))) ∧ Froz K' w.2 (dL f d n).length 2 (exrow s.un (dL f d n)))
      (fun w => ⟨.val w.2, [(0, xC w.1 s.nx s.tot s.un 1), (1, amap s.h s.sz z.V), (2, .row 0 n n 1 (urow (dU f d n)) 3), (3, .cells [.ptr 0 0] 23), (4, .cells [i64 a] 3), (5, .cells [i64 (s.sz id), .val (z.V id)] 76), (6, .cells [i64 c] 3)], 7⟩) := by
  refine hcxq_of_run Try.func41 rfl (fun B hQ hB hK hpin _ => ?_)
  have hF0 : Fz B K M0 B K := .refl hB hK
  refine goD hB rfl rfl (by first | exact conj_nil | simp [conj]) ?_
  refine run_know 10 2 rfl hV hr hQ ?_
  refine goD hB rfl rfl (by first | exact conj_nil | simp [conj]) ?_
  refine run_loop ?_
  refine run_to hpin [0, 1, 2, 3, 4, 5, 6, 7, 8] (nx' := 9) (rest' := []) (sl' := [(12, i64 ((0 : Nat) : Int)), (11, i64 n), (10, .sq 2 0 0 1 n .no), (6, .sq 8 0 0 2 0 .own), (4, .ptr 7 0), (2, .clo (.func 45) [] [.ptr 3 0, .ptr 4 0, .ptr 5 0, .ptr 6 0]), (0, .ptr 0 0)]) (hp' := [(0, xC z.vF s.nx s.tot s.un 1), (1, amap s.h s.sz z.V), (2, .row 0 n n 1 (urow f) 3), (3, .cells [.ptr 0 0] 23), (4, .cells [i64 a] 3), (5, .cells [i64 (s.sz id), .val (z.V id)] 76), (6, .cells [i64 c] 3), (7, .cells [i64 (s.sz id), .val (z.V id)] 76), (8, .row 0 0 0 2 (exrow s.un []) 71)]) rfl rfl ?_ ?_
  · simp [conj, less_rfl, ren_urow, renR_urow]
  refine run_invX (ι := Nat × Value) hF0 hpin (fun x K' => x.1 ≤ n ∧ Froz K' x.2 (dF s.F (dL f d x.1)).length 1 (nrow (dF s.F (dL f d x.1)))) (fun x => n - x.1) (fun x => [(12, i64 x.1), (11, i64 n), (10, .sq 2 0 0 1 n .no), (6, .sq 8 0 0 2 (dL f d x.1).length .own), (4, .ptr 7 0), (2, .clo (.func 45) [] [.ptr 3 0, .ptr 4 0, .ptr 5 0, .ptr 6 0]), (0, .ptr 0 0)]) (fun _ => [])
    (fun x => [(0, xC x.2 s.nx s.tot s.un 1), (1, amap s.h s.sz z.V), (2, .row 0 n n 1 (urow (dU f d x.1)) 3), (3, .cells [.ptr 0 0] 23), (4, .cells [i64 a] 3), (5, .cells [i64 (s.sz id), .val (z.V id)] 76), (6, .cells [i64 c] 3), (7, .cells [i64 (s.sz id), .val (z.V id)] 76), (8, .row 0 (dL f d x.1).length (dL f d x.1).length 2 (exrow s.un (dL f d x.1)) 71)]) (0, z.vF) ⟨Nat.zero_le _, hF⟩ ?_
  rintro ⟨i, w⟩ B3 K3 hF3 hpin3 ⟨hi, hw⟩ ih
  have hB3 := hF3.ok
  have hK3 := hF3.le
  dsimp only at hi hw ih ⊢
  have hfi := hf i
  have hla := dL_len f d i
  refine goDT hB3 [(41, 13)] 400 rfl (by clear ih; first | exact conj_nil | simp [conj]) ?_
  by_cases hin : i < n
  · have e0 : 0 + ((i : Nat) : Int).toNat = i := by omega
    refine run_tt (by simpa using hin) ?_
    refine goDT hB3 [(41, 18)] 400 rfl (by clear ih; simp [conj, hin]) ?_
    rw [e0, dU_at]
    by_cases hp : 0 < f i
    · refine run_tt (by simpa using hp) ?_
      refine goD hB3 rfl rfl (by clear ih; first | exact conj_nil | simp [conj, Fits_i64]) ?_
      refine run_callC (lies_hc w s.nx s.tot s.un s.h s.sz z.V a c (s.sz id) (z.V id) i (by omega) hu hu2 ha ha2 hc hc2) named hB3 [0, 1, 3, 4, 5, 6] rfl rfl rfl rfl (by first | exact conj_nil | simp [conj]) (by clear ih; simp [conj, less_rfl]) ?_
      rintro ⟨⟩ _
      refine ⟨show 6 ≤ 6 by omega, _, _, _, rfl, rfl, rfl, ?_⟩
      refine goDT hB3 [(41, 23)] 400 rfl (by clear ih; first | exact conj_nil | simp [conj]) ?_
      cases hli : lies s.un a c (s.sz id) i with
      | false =>
        have hd0 : d i = false := by rw [hd, hli]; simp
        refine run_ff rfl ?_
        have ih := ih (i + 1, w) B3 K3 hF3 hpin3 ⟨by show i + 1 ≤ n; omega, by show Froz K3 w (dF s.F (dL f d (i + 1))).length 1 _; rw [dL_no f d i hd0]; exact hw⟩ (by show n - (i + 1) < n - i; omega)
        dsimp only at ih
        rw [dL_no f d i hd0, dU_no f d i hd0] at ih
        refine goD hB3 rfl rfl (by clear ih; simp [conj, Fits_i64]; omega) ?_
        refine run_back ?_
        refine run_to hpin3 [0, 1, 2, 3, 4, 5, 6, 7, 8] rfl rfl ?_ ih
        clear ih
        simp [conj, less_rfl, ren_urow, renR_urow, ren_exrow, renR_exrow]
      | true =>
        have hd1 : d i = true := by rw [hd, hli]; simp [hp]
        refine run_tt rfl ?_
        refine goD hB3 rfl rfl (by clear ih; simp [conj, isPt23, Fits_i64]; omega) ?_
        have hpn : 0 ≤ (f i - 1) * s.un := Int.mul_nonneg (by omega) (Int.le_of_lt hu)
        have hFs := dF_sorted s.F hs (dL f d i)
        have hFl := dF_len s.F (dL f d i)
        refine run_callX (give_hcx K3 w (dF s.F (dL f d i)) (by omega) hFs hw s.nx s.tot s.un s.h s.sz z.V (f i - 1)) named hB3 hK3 (fun _ h => h.elim) (.inl rfl) [0, 1] rfl rfl rfl rfl (by first | exact conj_nil | simp [conj]) (by clear ih; simp [conj, less_rfl]) ?_
        rintro w4 B4 K4 hw4 hF4 hp4
        have hB4 := hF4.ok
        have hpin4 := hpin3.fz hF4 hp4
        rw [← dF_snoc, ← dL_yes f d i hd1] at hw4
        have ih := ih (i + 1, w4) B4 K4 (hF3.trans0 hF4 hK fun _ h => h.elim) hpin4 ⟨by show i + 1 ≤ n; omega, hw4⟩ (by show n - (i + 1) < n - i; omega)
        dsimp only at ih
        rw [dL_yes f d i hd1] at ih
        refine ⟨show 2 ≤ 2 by omega, _, _, _, rfl, rfl, rfl, ?_⟩
        refine goD hB4 rfl rfl (by clear ih; first | exact conj_nil | simp [conj, Fits_i64]) ?_
        have hQ4 : B4.pin 2 = some b := by rw [hp4]; exact hF3.pin _ _ hQ
        refine run_know 31 2 rfl hV hr hQ4 ?_
        refine goD hB4 rfl rfl (by clear ih; simp [conj, Fits_i64, hin]; omega) ?_
        refine run_back ?_
        refine run_to hpin4 [0, 1, 2, 3, 4, 5, 6, 7, 23] rfl rfl ?_ ih
        clear ih
        simp [conj, less_rfl, ren_urow, renR_urow, ren_exrow, renR_exrow]
        refine ⟨fun j _ => ?_, fun j k hj hk => Less.of (app_exrow s.un (dL f d i) (f i - 1) j k hj hk)⟩
        rw [show dU f d (i + 1) = (fun k => if k = i then 0 else dU f d i k) from funext fun k => dU_yes f d i k hd1]
        exact upd_less _ _ _ _
    · have hd0 : d i = false := by rw [hd]; simp [hp]
      refine run_ff (by simpa using hp) ?_
      have ih := ih (i + 1, w) B3 K3 hF3 hpin3 ⟨by show i + 1 ≤ n; omega, by show Froz K3 w (dF s.F (dL f d (i + 1))).length 1 _; rw [dL_no f d i hd0]; exact hw⟩ (by show n - (i + 1) < n - i; omega)
      dsimp only at ih
      rw [dL_no f d i hd0, dU_no f d i hd0] at ih
      refine goD hB3 rfl rfl (by clear ih; simp [conj, Fits_i64]; omega) ?_
      refine run_back ?_
      refine run_to hpin3 [0, 1, 2, 3, 4, 5, 6, 7, 8] rfl rfl ?_ ih
      clear ih
      simp [conj, less_rfl, ren_urow, renR_urow, ren_exrow, renR_exrow]
  · clear ih
    refine run_ff (by simpa using hin) ?_
    have hie : i = n := by omega
    subst hie
    refine goD hB3 rfl rfl (by first | exact conj_nil | simp [conj, Fits_i64]) ?_
    refine run_freeze hB3 hK3 6 rfl rfl (Nat.le_refl _) (fun i k _ _ => exrow_closed _ _ i k) rfl (fun v B4 K4 hFr hF4 hp4 => ?_)
    refine run_retF (hF3.trans0 hF4 hK fun _ h => h.elim) (hpin3.fz hF4 hp4) (w, v) ⟨hw.fz hF4, hFr⟩ [0, 1, 2, 3, 4, 5, 6] rfl rfl (by first | exact conj_nil | simp [conj]) rfl ?_
    simp [conj, less_rfl, ren_urow, renR_urow]
end Sx
