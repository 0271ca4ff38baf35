/- VictimOrders: its call gives true. Conditions: none. -/
import Derived.Test.YtpjabkjacldgcaaVaa
import Derived.Test.YtpjabkjacldgcaaEngD
namespace Sx
open Go Go.Proofs
/-- Not strict: signed numbers wrap. -/
def modeW (s : SumL) : Mode := { st := false, unr := false, inl := fun _ => false, sum := sumOf s, keep := fun _ => none }
theorem goW {B : Base} (hB : B.ok) {ro : Hp} {f : FuncId} {R : Ending → World → Prop} {s : SumL} (hs : SumOk Try.prog (sumOf s)) {cs0 cs : List Prop} {c c0 c' : Cfg} (h0 : stepD Try.prog (modeW s) ro c = some (cs0, c0)) (h : execG Try.prog (modeW s) ro 400 cs0 c0 = (cs, c')) (hc : conj cs)
    (hr : Run Try.prog ro B f R c') : Run Try.prog ro B f R c := run_go mixed named hB hs 400 h0 h hc hr
theorem isFn33 : IsFn Try.prog 33 := ⟨_, _, _, Try.underlying33⟩
/-- One candidate a year older. -/
def agedC (c : Nat → Cd) (i : Nat) (a : Int) : Nat → Cd := fun j => if j = i then ⟨(c j).b, (c j).v, (c j).p, a⟩ else c j
theorem agedC_upd (c : Nat → Cd) (m i k : Nat) (a : Int) : updF (ck c) m 3 (SV.int .i64 a).cells i k = ck (agedC c m a) i k := by
  unfold updF
  simp only [SV.cells, List.length_cons, List.length_nil, Nat.zero_add]
  by_cases h : i = m
  · subst h
    match k with
    | 0 => simp [ck, agedC]
    | 1 => simp [ck, agedC]
    | 2 => simp [ck, agedC]
    | 3 => simp [ck, agedC]
    | k + 4 =>
      rw [if_neg (by omega)]
      simp [ck]
  · simp only [h, false_and, if_false]
    unfold ck agedC
    rw [if_neg h]
set_option maxHeartbeats 2000000 in
theorem orders_hc (off n : Nat) (c : Nat → Cd) (many : Int) :
    HC Try.prog 4 [.sq 0 off 0 4 n .no, .int .i64 many] [] (candH off n c) 1 (fun _ : Unit => True) ttOut := by
  refine hc_of_run Try.func4 rfl (fun B hB hpin => ?_)
  refine goW hB s10_ok rfl rfl (by simp [conj]) ?_
  refine run_cond rfl (fun h => ?_) (fun h => ?_)
  · refine goW hB s10_ok rfl rfl (by simp [conj]) ?_
    exact run_retC hpin () trivial [0] rfl rfl (by simp [conj]) rfl (by simp [conj, ren_ck, less_rfl])
  have hn : n ≤ 30 := by simp at h; omega
  refine goW hB s10_ok rfl rfl (by
    simp only [conj, ren_ck]
    repeat' apply And.intro
    all_goals first | trivial | rfl | omega | exact fun _ _ _ hk => stor_ck _ _ _ hk) ?_
  refine run_callC (seq_hc 0 n c (by show n ≤ 39; omega)) named hB [5] rfl rfl rfl rfl (by simp [conj]) (by simp [conj, ren_ck, less_rfl, app_ck0, app_ck1]) ?_
  rintro ⟨m, e⟩ hz
  refine ⟨show 1 ≤ 3 by omega, _, _, _, rfl, rfl, rfl, ?_⟩
  refine goW hB s10_ok rfl rfl (by simp [conj]) ?_
  refine run_callC (rf2_hc off n c (by omega)) named hB [0] rfl rfl rfl rfl (by simp [conj]) (by simp [conj, ren_ck, less_rfl]) ?_
  rintro ⟨no, m', o⟩ hy
  have hmn : m ≤ n := by
    rcases hz with ⟨_, h⟩ | ⟨_, _, h, _⟩
    · have h : m = 0 := h
      omega
    · exact h.le
  obtain ⟨rfl, hso⟩ : m' = m ∧ ∀ a, a < m → e a = allR c (o a) ∧ o a < n := same_list hz hy
  refine ⟨show 1 ≤ 2 by omega, _, _, _, rfl, rfl, rfl, ?_⟩
  refine goW hB s10_ok rfl rfl (by simp [conj, isFn33]) ?_
  refine run_condF rfl rfl ?_
  refine goW hB s10_ok rfl rfl (by simp [conj]) ?_
  refine run_loop ?_
  refine run_inv (ι := Nat × (Nat → Cd)) hpin (fun x => x.1 ≤ n) (fun x => n - x.1)
    (fun x => [(2, .ptr 1 0), (3, .ptr 2 0), (4, .ptr 3 0), (5, .sq 4 0 0 4 n .own), (6, .clo (.func 22) [] [.ptr 5 0]), (7, .ptr 7 0), (9, .int .i64 (x.1 : Int))]) (fun _ => [])
    (fun x => [(1, .cells [.sq 0 off 0 4 n .no] 22), (2, .cells [.int .i64 many] 3), (3, .cells [.ff] 4), (4, .row 0 n n 4 (ck x.2) 36), (5, .cells [.sq 6 0 0 5 m' .own] 47), (6, .row 0 m' m' 5 (rk e) 53), (7, .cells [.sq 8 0 0 1 m' .own] 27), (8, .row 0 m' m' 1 (ir o) 3)]) 9 (0, c)
    (Nat.zero_le _) [0, 1, 2, 3, 5, 6, 7, 9, 8] rfl rfl (by simp [conj, ren_ck, ren_rk, ren_ir, renR_rk, renR_ir, less_rfl, app_ck0, app_ck1]) ?_
  rintro ⟨i, d⟩ hi ih
  have hi : i ≤ n := hi
  have ei : 0 + (i : Int).toNat = i := by omega
  refine goW hB s10_ok rfl rfl (by simp [conj]) ?_
  refine run_cond rfl (fun h => ?_) (fun h => ?_)
  · have hin : i < n := by simpa using h
    refine goW hB s10_ok rfl rfl (by simp [conj]; omega) ?_
    refine run_back ?_
    have ew : IntKind.i64.wrap ((i : Int) + 1) = (i : Int) + 1 := fits_wrap ((Fits_i64 _).2 (by omega))
    refine run_to hpin [0, 1, 2, 3, 4, 5, 6, 7, 8] rfl rfl (by clear ih; simp [conj, ei, ew, ren_ck, ren_rk, ren_ir, renR_rk, renR_ir, less_rfl, agedC_upd]) (ih (i + 1, agedC d i (IntKind.i64.wrap ((d i).a + 1))) (by show i + 1 ≤ n; omega) (by show n - (i + 1) < n - i; omega))
  have hin : i = n := by simp at h; omega
  subst hin
  clear ih
  refine goW hB s10_ok rfl rfl (by simp [conj]) ?_
  refine run_loop ?_
  refine run_inv (ι := Unit) hpin (fun _ => True) (fun _ => 0)
    (fun _ => [(2, .ptr 1 0), (3, .ptr 2 0), (4, .ptr 3 0), (6, .clo (.func 22) [] [.ptr 4 0]), (7, .ptr 6 0), (10, .ptr 8 0)]) (fun _ => [])
    (fun _ => [(1, .cells [.sq 0 off 0 4 i .no] 22), (2, .cells [.int .i64 many] 3), (3, .cells [.ff] 4), (4, .cells [.sq 5 0 0 5 m' .own] 47), (5, .row 0 m' m' 5 (rk e) 53), (6, .cells [.sq 7 0 0 1 m' .own] 27), (7, .row 0 m' m' 1 (ir o) 3), (8, .cells [.int .i64 0] 3)]) 9 ()
    trivial [0, 1, 2, 3, 5, 6, 7, 8, 9] rfl rfl (by simp [conj, ren_ck, ren_rk, ren_ir, renR_rk, renR_ir, less_rfl]) ?_
  rintro _ _ _
  refine goW hB s10_ok rfl rfl (by simp [conj]) ?_
  refine run_condT rfl (by simp) ?_
  refine goW hB s10_ok rfl rfl (by simp [conj]) ?_
  refine run_range named hB rfl rfl (by simp [conj]) rfl rfl rfl rfl ?_
  intro D l
  have hB1 : (B.pin2 10 D l).ok := Base.pin2_ok hB
  have hpin1 : PinTo (B.pin2 10 D l) 12 := hpin.pin2 (by omega)
  apply run_share (B := B.pin2 10 D l) (fun N TD => ⟨⟨⟨4, none, [D]⟩, N, [(2, .ptr 1 0), (3, .ptr 2 0), (4, .ptr 3 0), (6, .clo (.func 22) [] [.ptr 4 0]), (7, .ptr 6 0), (10, .ptr 12 0)], TD⟩, [],
    [(1, .cells [.sq 0 off 0 4 i .no] 22), (2, .cells [.int .i64 many] 3), (3, .cells [.ff] 4), (4, .cells [.sq 5 0 0 5 m' .own] 47), (5, .row 0 m' m' 5 (rk e) 53), (6, .cells [.sq 7 0 0 1 m' .own] 27), (7, .row 0 m' m' 1 (ir o) 3), (10, .obj (.deferred (some []))), (12, .cells [.int .i64 1] 3)], 13⟩)
  · intro turn1
    refine goW hB1 s10_ok rfl rfl (by simp [conj]) ?_
    refine run_loop ?_
    refine run_invK (ι := Nat) hpin1 (fun j => j ≤ m' ∧ (j = 0 ∨ (j : Int) < many)) (fun j => m' - j)
      (fun j => [(0, .clo (.yield l) [] []), (5, .sq 5 0 0 5 m' .own), (6, .int .i64 (m' : Int)), (7, .int .i64 (j : Int))])
      (fun _ => [[(2, .ptr 1 0), (3, .ptr 2 0), (4, .ptr 3 0), (6, .clo (.func 22) [] [.ptr 4 0]), (7, .ptr 6 0), (10, .ptr 8 0), (11, .ptr 9 0)]]) [10, 11]
      (fun j => [(1, .cells [.sq 0 off 0 4 i .no] 22), (2, .cells [.int .i64 many] 3), (3, .cells [.ff] 4), (4, .cells [.sq 5 0 0 5 m' .own] 47), (5, .row 0 m' m' 5 (rk e) 53), (6, .cells [.sq 7 0 0 1 m' .own] 27), (7, .row 0 m' m' 1 (ir o) 3), (8, .cells [.int .i64 0] 3), (9, .cells [.int .i64 (j : Int)] 3)]) 12 0
      ⟨Nat.zero_le _, .inl rfl⟩ [0, 1, 2, 3, 4, 5, 6, 7, 8, 9, 10, 11] rfl rfl (by simp [conj, ren_ck, ren_rk, ren_ir, renR_rk, renR_ir, less_rfl]) ?_
    rintro j ⟨hj1, hj2⟩ ih2
    refine goN (hB1) s10_ok rfl rfl (by simp [conj]) ?_
    refine run_cond rfl (fun hjm => ?_) (fun hjm => ?_)
    · have hjm : j < m' := by simpa using hjm
      refine goN (hB1) s10_ok rfl rfl (by simp [conj]; omega) ?_
      refine run_yield 11 rfl rfl (by simp [conj]) rfl rfl rfl ?_
      refine goN (hB1) s10_ok rfl rfl (by simp [conj]) ?_
      refine run_begin 11 rfl rfl rfl rfl ?_
      obtain ⟨he, hon⟩ := hso j hjm
      have ej : 0 + (j : Int).toNat = j := by omega
      refine goN (hB1) s10_ok rfl rfl (by
        clear ih2 turn1
        simp [conj, ej, he, allR, rowEq36]
        exact fun _ => hon) ?_
      refine run_condF rfl (by
        clear ih2 turn1
        simp [ej, he, allR]
        exact hjm) ?_
      refine goN (hB1) s10_ok rfl rfl (by
        clear ih2 turn1
        simp [conj, Fits_i64]
        omega) ?_
      refine run_cond rfl (fun hq => ?_) (fun hq => ?_)
      · have hq : many ≤ (j : Int) + 1 := by simpa using hq
        clear ih2
        refine run_round 11 (.exit 4 _ rfl) rfl rfl rfl rfl ?_
        refine goN (hB1) s10_ok rfl rfl (by simp [conj]) ?_
        refine run_inR [] (.inl rfl) trivial rfl rfl (by simp [conj]) ?_
        refine run_endR 11 rfl rfl (by decide) rfl ?_
        have hE : min (m' : Int) (max 1 many) = (j : Int) + 1 := by
          have := hj2
          omega
        refine goN (hB1) s10_ok rfl rfl (by clear turn1; simp [conj, hE]) ?_
        refine run_condF rfl (by clear turn1; simp [hE]) ?_
        refine goN (hB1) s10_ok rfl rfl (by simp only [conj, Fits_i64, and_true, true_and]; omega) ?_
        refine run_back ?_
        exact run_to hpin1 [0, 1, 2, 3, 4, 5, 6, 7, 8, 9, 10, 11, 34] rfl rfl (by clear turn1; simp [conj, ren_ck, ren_rk, ren_ir, renR_rk, renR_ir, less_rfl]) turn1
      · have hq : ¬ (many ≤ (j : Int) + 1) := by
          intro hh
          simp at hq
          omega
        refine goN (hB1) s10_ok rfl rfl (by simp [conj]) ?_
        refine run_round 11 .off rfl rfl rfl rfl ?_
        refine goN (hB1) s10_ok rfl rfl (by simp only [conj, Fits_i64, and_true, true_and]; omega) ?_
        refine run_back ?_
        exact run_to hpin1 [0, 1, 2, 3, 4, 5, 6, 7, 8, 9, 10, 11] rfl rfl (by clear ih2 turn1; simp [conj, stAfter, ren_ck, ren_rk, ren_ir, renR_rk, renR_ir, less_rfl]) (ih2 (j + 1) ⟨by omega, .inr (by omega)⟩ (by omega))
    · have hjm : j = m' := by simp at hjm; omega
      subst hjm
      clear ih2
      refine goN (hB1) s10_ok rfl rfl (by simp [conj]) ?_
      refine run_inR [] (.inl rfl) trivial rfl rfl (by simp [conj]) ?_
      refine run_endR 11 rfl rfl (by decide) rfl ?_
      have hE : min (j : Int) (max 1 many) = (j : Int) := by
        have := hj2
        omega
      refine goN (hB1) s10_ok rfl rfl (by clear turn1; simp [conj, hE]) ?_
      refine run_condF rfl (by clear turn1; simp [hE]) ?_
      refine goN (hB1) s10_ok rfl rfl (by simp only [conj, Fits_i64, and_true, true_and]; omega) ?_
      refine run_back ?_
      exact run_to hpin1 [0, 1, 2, 3, 4, 5, 6, 7, 8, 9, 10, 11, 12] rfl rfl (by clear turn1; simp [conj, ren_ck, ren_rk, ren_ir, renR_rk, renR_ir, less_rfl]) turn1
  refine goN hB1 s10_ok rfl rfl (by simp [conj]) ?_
  refine run_condT rfl (by simp) ?_
  refine goN hB1 s10_ok rfl rfl (by simp [conj]) ?_
  refine run_range named hB1 rfl rfl (by simp [conj]) rfl rfl rfl rfl ?_
  intro D2 l2
  have hB2 : ((B.pin2 10 D l).pin2 14 D2 l2).ok := Base.pin2_ok hB1
  have hpin2 : PinTo ((B.pin2 10 D l).pin2 14 D2 l2) 16 := hpin1.pin2 (by omega)
  refine goN hB2 s10_ok rfl rfl (by simp [conj]) ?_
  refine run_loop ?_
  refine run_invK (ι := Nat) hpin2 (fun j => j ≤ m') (fun j => m' - j)
      (fun j => [(0, .clo (.yield l2) [] []), (5, .sq 5 0 0 5 m' .own), (6, .int .i64 (m' : Int)), (7, .int .i64 (j : Int))])
      (fun _ => [[(2, .ptr 1 0), (3, .ptr 2 0), (4, .ptr 3 0), (6, .clo (.func 22) [] [.ptr 4 0]), (7, .ptr 6 0), (10, .ptr 12 0), (11, .ptr 13 0)]]) [14, 15]
      (fun j => [(1, .cells [.sq 0 off 0 4 i .no] 22), (2, .cells [.int .i64 many] 3), (3, .cells [.ff] 4), (4, .cells [.sq 5 0 0 5 m' .own] 47), (5, .row 0 m' m' 5 (rk e) 53), (6, .cells [.sq 7 0 0 1 m' .own] 27), (7, .row 0 m' m' 1 (ir o) 3), (10, .obj (.deferred (some []))), (12, .cells [.int .i64 1] 3), (13, .cells [.int .i64 (j : Int)] 3)]) 16 0
      (Nat.zero_le _) [0, 1, 2, 3, 4, 5, 6, 7, 8, 9, 10, 11, 12, 13, 14, 15] rfl rfl (by simp [conj, ren_ck, ren_rk, ren_ir, renR_rk, renR_ir, less_rfl]) ?_
  intro j hj1 ih2
  refine goN hB2 s10_ok rfl rfl (by simp [conj]) ?_
  refine run_cond rfl (fun hjm => ?_) (fun hjm => ?_)
  · have hjm : j < m' := by simpa using hjm
    refine goN hB2 s10_ok rfl rfl (by simp [conj]; omega) ?_
    refine run_yield 15 rfl rfl (by simp [conj]) rfl rfl rfl ?_
    refine goN hB2 s10_ok rfl rfl (by simp [conj]) ?_
    refine run_begin 15 rfl rfl rfl rfl ?_
    obtain ⟨he, hon⟩ := hso j hjm
    have ej : 0 + (j : Int).toNat = j := by omega
    refine goN hB2 s10_ok rfl rfl (by
      clear ih2
      simp [conj, ej, he, allR, rowEq36]
      exact fun _ => hon) ?_
    refine run_condF rfl (by
      clear ih2
      simp [ej, he, allR]
      exact hjm) ?_
    refine goN hB2 s10_ok rfl rfl (by
      clear ih2
      simp [conj, Fits_i64]
      omega) ?_
    refine run_condF rfl (by clear ih2; simp) ?_
    refine goN hB2 s10_ok rfl rfl (by simp [conj]) ?_
    refine run_round 15 .off rfl rfl rfl rfl ?_
    refine goN hB2 s10_ok rfl rfl (by simp only [conj, Fits_i64, and_true, true_and]; omega) ?_
    refine run_back ?_
    exact run_to hpin2 [0, 1, 2, 3, 4, 5, 6, 7, 8, 9, 10, 11, 12, 13, 14, 15] rfl rfl (by clear ih2; simp [conj, stAfter, ren_ck, ren_rk, ren_ir, renR_rk, renR_ir, less_rfl]) (ih2 (j + 1) (by omega) (by omega))
  · have hjm : j = m' := by simp at hjm; omega
    subst hjm
    clear ih2
    refine goN hB2 s10_ok rfl rfl (by simp [conj]) ?_
    refine run_inR [] (.inl rfl) trivial rfl rfl (by simp [conj]) ?_
    refine run_endR 15 rfl rfl (by decide) rfl ?_
    refine goN hB2 s10_ok rfl rfl (by simp [conj]) ?_
    refine run_condF rfl (by simp) ?_
    refine goN hB2 s10_ok rfl rfl (by simp only [conj, Fits_i64, and_true, true_and]; omega) ?_
    refine run_back ?_
    refine goN hB2 s10_ok rfl rfl (by simp [conj]) ?_
    refine run_condF rfl (by simp) ?_
    refine goN hB2 s10_ok rfl rfl (by simp [conj]) ?_
    exact run_retMC (((More.refl B).pin2 hpin (by omega)).pin2 hpin1 (by omega)) hpin () trivial [14, 10] [0] (.inr ⟨_, rfl⟩) ⟨rfl, rfl, rfl, rfl, trivial⟩ rfl rfl rfl (by simp [conj]) rfl (by simp [conj, ren_ck, less_rfl])
end Sx
