/- Texts of this law, joined: what the functions do. Conditions: as each theorem says. -/
import Derived.Test.YtmnlmghchegjaaaOwnX10
import Derived.Test.YtmnlmghchegjaaaEngX5
set_option linter.unusedSimpArgs false
set_option linter.unusedVariables false
section
/- The reference of chapter 29: Acquire. Conditions: as each theorem says. -/
namespace Sx
open Go Go.Proofs
set_option maxRecDepth 100000
set_option pp.deepTerms true
set_option pp.maxSteps 10000000
structure BKb where
  B : Base
  K : Kn
  b : Bool
theorem acc_fin (s : RSt) (l : List Int) (host kind other : Int) (b : Bool) (s0 : RSt) (h : b = true → s0 = { s with T := 0, H := 0 }) (h' : b = false → s0 = s) :
    (if b = true then repO s l host kind other else vicO s l host other) = if b = true then { (remQ host (s0, l) (vic s.v host other (allE s.T other) l) (vic s.v host other (allE s.T other) l).length).1 with T := kind, H := host, N := addL (midS host (s0, l) (vic s.v host other (allE s.T other) l) (vic s.v host other (allE s.T other) l).length).N 3 (fl host (remQ host (s0, l) (vic s.v host other (allE s.T other) l) (vic s.v host other (allE s.T other) l).length).2), G := gen1 (remQ host (s0, l) (vic s.v host other (allE s.T other) l) (vic s.v host other (allE s.T other) l).length).1.G }
      else { midS host (s0, l) (vic s.v host other (allE s.T other) l) (vic s.v host other (allE s.T other) l).length with G := gen1 (remQ host (s0, l) (vic s.v host other (allE s.T other) l) (vic s.v host other (allE s.T other) l).length).1.G } := by
  cases b with
  | true =>
    rw [h rfl]
    simp only [if_true]
    unfold repO midS
    rw [List.take_length]
  | false =>
    rw [h' rfl]
    simp only [if_false, Bool.false_eq_true]
    unfold vicO midS
    rw [List.take_length]
abbrev AccR (K : Kn) (s : RSt) (M : List (Int × Int)) (vL vN : Value) (host a kind cur other : Int) (o : Int × List Int × RSt) : Prop :=
  HCX Try.prog K M0 33 [RR vL vN s, u64 host, i64 a, i64 kind, u64 cur, u64 other] [] [] 0 (fun (z : RZ) K' => ROut K' o.2.2 M z) (fun z => ⟨.tup [RR z.2.2.1 z.2.2.2 o.2.2, .sq 0 0 0 1 o.2.1.length .no, i64 o.1], [(0, .row 0 o.2.1.length o.2.1.length 1 (fnr (lsD o.2.1)) 23)], 1⟩)
set_option maxHeartbeats 8000000 in
theorem accR_hcx (K : Kn) (s : RSt) (l : List Int) (q : SInv s l) (M : List (Int × Int)) (hM : M.length < 8000000) (vL vN : Value) (hR : ROKr K s l M vL vN) (host a kind cur other : Int) : AccR K s M vL vN host a kind cur other (accO s l host a kind cur other) := by
  have hlen := q.len
  have hsame : ∀ {B B' : Base} {K' : Kn}, Fz B K M0 B' K' → ROut K' s M (l, M, vL, vN) := fun g => ⟨hR.fz g, q.k, by show M.length ≤ _; omega⟩
  refine hcx_of_run Try.func33 rfl (fun B hB hK hpin => ?_)
  have hF0 : Fz B K M0 B K := .refl hB hK
  refine goRT hB [(33, 22)] 400 rfl (by first | exact conj_nil | simp [conj]) ?_
  by_cases h0 : host = 0
  · have hO : accO s l host a kind cur other = (2, [], s) := by unfold accO; rw [if_pos (.inl h0)]
    rw [hO]
    refine run_tt (decide_eq_true h0) ?_
    refine goRf hB rfl rfl (by first | exact conj_nil | simp [conj]) ?_
    exact run_retF hF0 hpin (l, M, vL, vN) (hsame hF0) [99] rfl rfl (by first | exact conj_nil | simp [conj]) rfl (by simp [conj, less_rfl])
  refine run_ff (decide_eq_false h0) ?_
  refine goRT hB [(33, 25)] 400 rfl (by first | exact conj_nil | simp [conj]) ?_
  by_cases ha0 : a < 0
  · have hO : accO s l host a kind cur other = (2, [], s) := by unfold accO; rw [if_pos (.inr (by omega))]
    rw [hO]
    refine run_tt (decide_eq_true ha0) ?_
    refine goRf hB rfl rfl (by first | exact conj_nil | simp [conj]) ?_
    exact run_retF hF0 hpin (l, M, vL, vN) (hsame hF0) [99] rfl rfl (by first | exact conj_nil | simp [conj]) rfl (by simp [conj, less_rfl])
  refine run_ff (decide_eq_false ha0) ?_
  refine goRT hB [(33, 29)] 400 rfl (by first | exact conj_nil | simp [conj]) ?_
  by_cases ha2 : 2 < a
  · have hO : accO s l host a kind cur other = (2, [], s) := by unfold accO; rw [if_pos (.inr (by omega))]
    rw [hO]
    refine run_tt (decide_eq_true ha2) ?_
    refine goRf hB rfl rfl (by first | exact conj_nil | simp [conj]) ?_
    exact run_retF hF0 hpin (l, M, vL, vN) (hsame hF0) [99] rfl rfl (by first | exact conj_nil | simp [conj]) rfl (by simp [conj, less_rfl])
  refine run_ff (decide_eq_false ha2) ?_
  refine goRT hB [(33, 33)] 400 rfl (by first | exact conj_nil | simp [conj]) ?_
  by_cases hk1 : kind < 1
  · have hO : accO s l host a kind cur other = (2, [], s) := by unfold accO; rw [if_pos (.inr (by omega))]
    rw [hO]
    refine run_tt (decide_eq_true hk1) ?_
    refine goRf hB rfl rfl (by first | exact conj_nil | simp [conj]) ?_
    exact run_retF hF0 hpin (l, M, vL, vN) (hsame hF0) [99] rfl rfl (by first | exact conj_nil | simp [conj]) rfl (by simp [conj, less_rfl])
  refine run_ff (decide_eq_false hk1) ?_
  refine goRT hB [(33, 37)] 400 rfl (by first | exact conj_nil | simp [conj]) ?_
  by_cases hk6 : 6 < kind
  · have hO : accO s l host a kind cur other = (2, [], s) := by unfold accO; rw [if_pos (.inr (by omega))]
    rw [hO]
    refine run_tt (decide_eq_true hk6) ?_
    refine goRf hB rfl rfl (by first | exact conj_nil | simp [conj]) ?_
    exact run_retF hF0 hpin (l, M, vL, vN) (hsame hF0) [99] rfl rfl (by first | exact conj_nil | simp [conj]) rfl (by simp [conj, less_rfl])
  refine run_ff (decide_eq_false hk6) ?_
  have hin : ¬ (host = 0 ∨ ¬ (0 ≤ a ∧ a ≤ 2 ∧ 1 ≤ kind ∧ kind ≤ 6)) := by omega
  refine goRf hB rfl rfl (by first | exact conj_nil | simp [conj]) ?_
  refine run_callX (hcx_of_hck (M := M0) (keyR_hck K vL vN l s.h s.v q.k (by omega) hR.L s.T s.H s.G s.p host)) named hB hK (fun _ h => h.elim) (.inl rfl) [] rfl rfl rfl rfl (by first | exact conj_nil | simp [conj]) (by simp [conj, less_rfl]) ?_
  rintro ⟨⟩ B2 K2 ⟨_, rfl⟩ hF2 hp2
  have hB2 := hF2.ok
  have hpin2 := hpin.fz hF2 hp2
  refine ⟨show 0 ≤ 0 by omega, _, _, _, rfl, rfl, rfl, ?_⟩
  refine goRT hB2 [(33, 44)] 400 rfl (by first | exact conj_nil | simp [conj]) ?_
  cases hh : s.h host with
  | false =>
    have hO : accO s l host a kind cur other = (131, [], s) := by unfold accO; rw [if_neg hin, if_pos (by simp [hh])]
    rw [hO, cond_false]
    refine run_tt (by simp) ?_
    refine goRf hB2 rfl rfl (by first | exact conj_nil | simp [conj]) ?_
    exact run_retF hF2 hpin2 (l, M, vL, vN) (hsame hF2) [99] rfl rfl (by first | exact conj_nil | simp [conj]) rfl (by simp [conj, less_rfl])
  | true =>
  rw [cond_true]
  have hv0 := (q.kv host hh).2.2.2.1
  refine run_ff (by simp [hv0]) ?_
  refine goRT hB2 [(33, 48)] 400 rfl (by first | exact conj_nil | simp [conj]) ?_
  by_cases hv : s.v host = cur
  rotate_left
  · have hO : accO s l host a kind cur other = (131, [], s) := by unfold accO; rw [if_neg hin, if_pos (by simp [hv])]
    rw [hO]
    refine run_tt (by simp [hv]) ?_
    refine goRf hB2 rfl rfl (by first | exact conj_nil | simp [conj]) ?_
    exact run_retF hF2 hpin2 (l, M, vL, vN) (hsame hF2) [99] rfl rfl (by first | exact conj_nil | simp [conj]) rfl (by simp [conj, less_rfl])
  have hcc : ¬ (s.h host && decide (s.v host = cur)) = false := by simp [hh, hv]
  refine run_ff (by simp [hv]) ?_
  refine goRT hB2 [(33, 52)] 400 rfl (by first | exact conj_nil | simp [conj]) ?_
  have ht0 := q.t0
  by_cases h1 : a = 0
  · refine run_tt (decide_eq_true h1) ?_
    refine goRT hB2 [(33, 56)] 400 rfl (by first | exact conj_nil | simp [conj]) ?_
    by_cases hT : s.T = 0
    · have hO : accO s l host a kind cur other = (0, [], { s with T := kind, H := host }) := by unfold accO; rw [if_neg hin, if_neg hcc, if_pos h1, if_neg (by omega)]
      rw [hO]
      refine run_tt (decide_eq_true hT) ?_
      refine goRf hB2 rfl rfl (by first | exact conj_nil | simp [conj]) ?_
      refine run_retF hF2 hpin2 (l, M, vL, vN) ⟨⟨(hR.fz hF2).L, (hR.fz hF2).N, hR.n⟩, q.k, by show M.length ≤ _; omega⟩ [99] rfl rfl (by first | exact conj_nil | simp [conj]) rfl (by simp [conj, less_rfl])
    refine run_ff (decide_eq_false hT) ?_
    refine goRT hB2 [(33, 66)] 400 rfl (by first | exact conj_nil | simp [conj]) ?_
    by_cases hk : s.T = kind
    rotate_left
    · have hO : accO s l host a kind cur other = (131, [], s) := by unfold accO; rw [if_neg hin, if_neg hcc, if_pos h1, if_pos (by omega), if_neg (fun e => hk e.1)]
      rw [hO]
      refine run_ff (decide_eq_false hk) ?_
      refine goRf hB2 rfl rfl (by first | exact conj_nil | simp [conj]) ?_
      exact run_retF hF2 hpin2 (l, M, vL, vN) (hsame hF2) [99] rfl rfl (by first | exact conj_nil | simp [conj]) rfl (by simp [conj, less_rfl])
    refine run_tt (decide_eq_true hk) ?_
    refine goRf hB2 rfl rfl (by first | exact conj_nil | simp [conj]) ?_
    have hho := holdsR_hcx K2 s l q M vL vN hR host
    cases hd : hld s.h s.T s.H host with
    | false =>
      have hO : accO s l host a kind cur other = (131, [], s) := by unfold accO; rw [if_neg hin, if_neg hcc, if_pos h1, if_pos (by omega), if_neg (by rw [hd]; exact fun e => Bool.noConfusion e.2)]
      rw [hd, cond_false] at hho
      rw [hO]
      refine run_callX hho named hB2 hF2.le (fun _ h => h.elim) (.inl rfl) [] rfl rfl rfl rfl (by first | exact conj_nil | simp [conj]) (by simp [conj, less_rfl]) ?_
      rintro ⟨⟩ B3 K3 _ hF3 hp3
      have hB3 := hF3.ok
      have hpin3 := hpin2.fz hF3 hp3
      have hF3a := hF2.trans0 hF3 hK fun _ h => h.elim
      refine ⟨show 0 ≤ 0 by omega, _, _, _, rfl, rfl, rfl, ?_⟩
      refine goRf hB3 rfl rfl (by first | exact conj_nil | simp [conj]) ?_
      exact run_retF hF3a hpin3 (l, M, vL, vN) (hsame hF3a) [99] rfl rfl (by first | exact conj_nil | simp [conj]) rfl (by simp [conj, less_rfl])
    | true =>
      have hO : accO s l host a kind cur other = (0, [], s) := by unfold accO; rw [if_neg hin, if_neg hcc, if_pos h1, if_pos (by omega), if_pos ⟨hk, hd⟩]
      rw [hd, cond_true] at hho
      rw [hO]
      refine run_callX hho named hB2 hF2.le (fun _ h => h.elim) (.inl rfl) [] rfl rfl rfl rfl (by first | exact conj_nil | simp [conj]) (by simp [conj, less_rfl]) ?_
      rintro ⟨⟩ B3 K3 _ hF3 hp3
      have hB3 := hF3.ok
      have hpin3 := hpin2.fz hF3 hp3
      have hF3a := hF2.trans0 hF3 hK fun _ h => h.elim
      refine ⟨show 0 ≤ 0 by omega, _, _, _, rfl, rfl, rfl, ?_⟩
      refine goRf hB3 rfl rfl (by first | exact conj_nil | simp [conj]) ?_
      exact run_retF hF3a hpin3 (l, M, vL, vN) (hsame hF3a) [99] rfl rfl (by first | exact conj_nil | simp [conj]) rfl (by simp [conj, less_rfl])
  refine run_ff (decide_eq_false h1) ?_
  refine goRT hB2 [(33, 76)] 400 rfl (by first | exact conj_nil | simp [conj]) ?_
  have hO1 : accO s l host a kind cur other = (if repE s other = true then (0, vic s.v host other (allE s.T other) l, repO s l host kind other)
      else if other = 0 then (2, [], s)
      else if vic s.v host other (allE s.T other) l = [] then (131, [], s)
      else (0, vic s.v host other (allE s.T other) l, vicO s l host other)) := by unfold accO; rw [if_neg hin, if_neg hcc, if_neg h1]
  rw [hO1]
  clear hO1
  apply run_shareX (Z := BKb) (Bz := fun q => q.B) (fun z => Fz B K2 M0 z.B z.K ∧ PinTo z.B 0 ∧ z.b = repE s other)
    (fun z N TD => ⟨⟨fid 33, N, [(18, i64 0), (17, .nilsl), (16, .sb z.b), (12, .ptr 1 0), (6, .ptr 0 0), (5, u64 other), (3, i64 kind), (1, u64 host)], TD⟩, [], [(0, .cells [.val vL, i64 s.T, u64 s.H, .int .u32 s.G, .sb s.p, .val vN] 31), (1, .cells [.und, .und, .und, .und, .und, .und] 31)], 2⟩)
  · intro next
    have hE : repE s other = (allE s.T other || ((decide (0 < s.T) && !decide (5 ≤ s.T)) && !decide (other = 0) && decide ((bif s.h s.H then s.v s.H else 0) = other))) := rfl
    unfold allE at hE
    by_cases t5 : 5 ≤ s.T
    · refine run_tt (by simpa using t5) ?_
      refine goRT hB2 [(33, 79)] 400 rfl (by first | exact conj_nil | simp [conj]) ?_
      by_cases ho : other = 0
      · refine run_tt (by simpa using ho) ?_
        refine goRf hB2 rfl rfl (by first | exact conj_nil | simp [conj]) ?_
        refine run_to hpin2 [0, 1] rfl rfl ?_ (next ⟨B2, K2, true⟩ ⟨hF2, hpin2, by rw [hE]; simp [t5, ho]⟩)
        clear next
        simp [conj, less_rfl]
      · refine run_ff (by simpa using ho) ?_
        refine goRT hB2 [(33, 84)] 400 rfl (by first | exact conj_nil | simp [conj]) ?_
        refine run_tt (by simp; omega) ?_
        refine goRT hB2 [(33, 88)] 400 rfl (by first | exact conj_nil | simp [conj]) ?_
        refine run_ff (by simp; omega) ?_
        refine goRf hB2 rfl rfl (by first | exact conj_nil | simp [conj]) ?_
        refine run_to hpin2 [0, 1] rfl rfl ?_ (next ⟨B2, K2, false⟩ ⟨hF2, hpin2, by rw [hE]; simp [t5, ho]⟩)
        clear next
        simp [conj, less_rfl]
    · refine run_ff (by simpa using t5) ?_
      refine goRT hB2 [(33, 84)] 400 rfl (by first | exact conj_nil | simp [conj]) ?_
      by_cases hT : s.T = 0
      · refine run_ff (by simp; omega) ?_
        refine goRf hB2 rfl rfl (by first | exact conj_nil | simp [conj]) ?_
        refine run_to hpin2 [0, 1] rfl rfl ?_ (next ⟨B2, K2, false⟩ ⟨hF2, hpin2, by rw [hE]; simp [t5, hT]⟩)
        clear next
        simp [conj, less_rfl]
      refine run_tt (by simp; omega) ?_
      refine goRT hB2 [(33, 88)] 400 rfl (by first | exact conj_nil | simp [conj]) ?_
      refine run_tt (by simp; omega) ?_
      refine goRT hB2 [(33, 92)] 400 rfl (by first | exact conj_nil | simp [conj]) ?_
      by_cases ho : other = 0
      · refine run_ff (by simp [ho]) ?_
        refine goRf hB2 rfl rfl (by first | exact conj_nil | simp [conj]) ?_
        refine run_to hpin2 [0, 1] rfl rfl ?_ (next ⟨B2, K2, false⟩ ⟨hF2, hpin2, by rw [hE]; simp [t5, ho]⟩)
        clear next
        simp [conj, less_rfl]
      refine run_tt (by simp [ho]) ?_
      refine goRf hB2 rfl rfl (by first | exact conj_nil | simp [conj]) ?_
      refine run_callX (hcx_of_hck (M := M0) (keyR_hck K2 vL vN l s.h s.v q.k (by omega) hR.L s.T s.H s.G s.p s.H)) named hB2 hF2.le (fun _ h => h.elim) (.inl rfl) [] rfl rfl rfl rfl (by first | exact conj_nil | simp [conj]) (by clear next; simp [conj, less_rfl]) ?_
      rintro ⟨⟩ B3 K3 ⟨_, rfl⟩ hF3 hp3
      have hB3 := hF3.ok
      have hpin3 := hpin2.fz hF3 hp3
      have hF3a := hF2.trans0 hF3 hK fun _ h => h.elim
      refine ⟨show 0 ≤ 0 by omega, _, _, _, rfl, rfl, rfl, ?_⟩
      refine goRT hB3 [(33, 100)] 400 rfl (by first | exact conj_nil | simp [conj]) ?_
      by_cases hk : (bif s.h s.H then s.v s.H else 0) = other
      · refine run_tt (by simpa using hk) ?_
        refine goRf hB3 rfl rfl (by first | exact conj_nil | simp [conj]) ?_
        refine run_to hpin3 [0, 1] rfl rfl ?_ (next ⟨B3, K3, true⟩ ⟨hF3a, hpin3, by rw [hE]; simp [t5, hk, ho]; omega⟩)
        clear next
        simp [conj, less_rfl]
      · refine run_ff (by simpa using hk) ?_
        refine goRf hB3 rfl rfl (by first | exact conj_nil | simp [conj]) ?_
        refine run_to hpin3 [0, 1] rfl rfl ?_ (next ⟨B3, K3, false⟩ ⟨hF3a, hpin3, by rw [hE]; simp [t5, hk]⟩)
        clear next
        simp [conj, less_rfl]
  clear hF0
  rintro ⟨B3, K3, b⟩ ⟨hF3, hpin3, hb⟩
  dsimp only at hF3 hpin3 hb ⊢
  rw [← hb]
  generalize hO : (if b = true then ((0 : Int), vic s.v host other (allE s.T other) l, repO s l host kind other)
      else if other = 0 then (2, [], s)
      else if vic s.v host other (allE s.T other) l = [] then (131, [], s)
      else (0, vic s.v host other (allE s.T other) l, vicO s l host other)) = o
  have hB3 := hF3.ok
  have hR3 := hR.fz hF3
  have hK3 := hF3.le
  generalize hp : vicP s.v host other (allE s.T other) = pp
  have hvic : vic s.v host other (allE s.T other) l = l.filter pp := by unfold vic; rw [hp]
  refine run_loop ?_
  refine run_inv (ι := Nat) hpin3 (fun i => i ≤ l.length) (fun i => l.length - i) (fun i => [(18, i64 i), (17, .sq 2 0 0 1 ((l.take i).filter pp).length .own), (16, .sb b), (12, .ptr 1 0), (6, .ptr 0 0), (5, u64 other), (3, i64 kind), (1, u64 host)]) (fun _ => [])
    (fun i => [(0, .cells [.val vL, i64 s.T, u64 s.H, .int .u32 s.G, .sb s.p, .val vN] 31), (1, .cells [.und, .und, .und, .und, .und, .und] 31), (2, .row 0 ((l.take i).filter pp).length ((l.take i).filter pp).length 1 (fnr (lsD ((l.take i).filter pp))) 23)]) 3 0 (Nat.zero_le _) [0, 1, 99] rfl rfl (by simp [conj, less_rfl]) ?_
  intro i hi ih
  have hfl : ((l.take i).filter pp).length ≤ l.length := len_filter pp l i
  refine goRf hB3 rfl rfl (by first | exact conj_nil | simp [conj]) ?_
  refine run_open hK3 105 hR3.L (by decide) rfl (fun off => ?_)
  refine goRT hB3 [(33, 107)] 400 rfl (by first | exact conj_nil | simp [conj]) ?_
  by_cases hi1 : i < l.length
  · have ih := ih (i + 1) hi1 (by omega)
    have e0 : 0 + ((i : Nat) : Int).toNat = i := by omega
    have e1 := fl_take pp l i hi1
    have hpx : pp (lsD l i) = (!decide (lsD l i = host) && (allE s.T other || decide (s.v (lsD l i) = other))) := by rw [← hp]; rfl
    unfold allE at hpx
    refine run_tt (by simpa using hi1) ?_
    refine run_close (.inl rfl) ?_
    refine goRf hB3 rfl rfl (by first | exact conj_nil | simp [conj]) ?_
    refine run_open hK3 111 hR3.L (by decide) rfl (fun off => ?_)
    refine goRT hB3 [(33, 118)] 400 rfl (by clear ih; simp [conj]; omega) ?_
    rw [e0]
    refine run_close (.inl rfl) ?_
    by_cases hx : lsD l i = host
    · refine run_ff (by simp [hx]) ?_
      rw [if_neg (by rw [hpx]; simp [hx])] at e1
      rw [e1] at ih
      refine goRf hB3 rfl rfl (by clear ih; simp [conj, Fits_i64]; omega) ?_
      refine run_back ?_
      refine run_to hpin3 [0, 1, 2] rfl rfl ?_ ih
      clear ih
      simp [conj, less_rfl, ren_fnr, renR_fnr]
    refine run_tt (by simp [hx]) ?_
    refine goRT hB3 [(33, 123)] 400 rfl (by first | exact conj_nil | simp [conj]) ?_
    by_cases hy : s.v (lsD l i) = other
    · refine run_tt (by simp [hy]) ?_
      rw [if_pos (by rw [hpx]; simp [hx, hy])] at e1
      rw [e1] at ih
      generalize (l.take i).filter pp = L at ih hfl ⊢
      refine goRf hB3 rfl rfl (by clear ih; simp [conj, Fits_i64]; omega) ?_
      refine run_back ?_
      refine run_to hpin3 [0, 1, 7] rfl rfl ?_ ih
      clear ih
      simp [conj, less_rfl, ren_fnr, renR_fnr]
      exact fun j hj => Less.of (app_fnr2 _ _ _ hj).symm
    refine run_ff (by simp [hy]) ?_
    refine goRT hB3 [(33, 127)] 400 rfl (by first | exact conj_nil | simp [conj]) ?_
    by_cases t5 : 5 ≤ s.T
    · refine run_tt (by simp [t5]) ?_
      refine goRT hB3 [(33, 130)] 400 rfl (by first | exact conj_nil | simp [conj]) ?_
      by_cases ho : other = 0
      · refine run_tt (by simp [ho]) ?_
        rw [if_pos (by rw [hpx]; simp [hx, t5, ho])] at e1
        rw [e1] at ih
        generalize (l.take i).filter pp = L at ih hfl ⊢
        refine goRf hB3 rfl rfl (by clear ih; simp [conj, Fits_i64]; omega) ?_
        refine run_back ?_
        refine run_to hpin3 [0, 1, 7] rfl rfl ?_ ih
        clear ih
        simp [conj, less_rfl, ren_fnr, renR_fnr]
        exact fun j hj => Less.of (app_fnr2 _ _ _ hj).symm
      · refine run_ff (by simp [ho]) ?_
        rw [if_neg (by rw [hpx]; simp [hx, hy, ho])] at e1
        rw [e1] at ih
        refine goRf hB3 rfl rfl (by clear ih; simp [conj, Fits_i64]; omega) ?_
        refine run_back ?_
        refine run_to hpin3 [0, 1, 2] rfl rfl ?_ ih
        clear ih
        simp [conj, less_rfl, ren_fnr, renR_fnr]
    · refine run_ff (by simp; omega) ?_
      rw [if_neg (by rw [hpx]; simp [hx, hy, t5])] at e1
      rw [e1] at ih
      refine goRf hB3 rfl rfl (by clear ih; simp [conj, Fits_i64]; omega) ?_
      refine run_back ?_
      refine run_to hpin3 [0, 1, 2] rfl rfl ?_ ih
      clear ih
      simp [conj, less_rfl, ren_fnr, renR_fnr]
  clear ih
  have hin2 : i = l.length := by omega
  subst hin2
  rw [List.take_length] at hfl ⊢
  rw [← hvic] at hfl ⊢
  refine run_ff (by simp) ?_
  refine run_close (.inl rfl) ?_
  have hvl : (vic s.v host other (allE s.T other) l).length ≤ 128 := by omega
  generalize hvs : vic s.v host other (allE s.T other) l = vs at *
  apply run_shareQ' (Φ := fun z : Bool × Int × Int => (z.1 = true → z.2 = (0, 0)) ∧ (z.1 = false → z.2 = (s.T, s.H)) ∧ (0, vs, if z.1 = true then repO s l host kind other else vicO s l host other) = o) (P := Try.prog) (f := 33) (ro := []) (B := B3)
    (fun z N TD => ⟨⟨fid 33, N, [(20, i64 0), (17, .sq 2 0 0 1 vs.length .own), (16, .sb z.1), (12, .ptr 1 0), (6, .ptr 0 0), (3, i64 kind), (1, u64 host)], TD⟩, [], [(0, .cells [.val vL, i64 z.2.1, u64 z.2.2, .int .u32 s.G, .sb s.p, .val vN] 31), (1, .cells [.und, .und, .und, .und, .und, .und] 31), (2, .row 0 vs.length vs.length 1 (fnr (lsD vs)) 23)], 3⟩)
  · intro next
    by_cases eb : b = true
    · rw [if_pos eb] at hO
      refine goRT hB3 [(33, 139)] 400 rfl (by clear next; first | exact conj_nil | simp [conj]) ?_
      refine run_tt eb ?_
      refine goRT hB3 [(33, 146)] 400 rfl (by clear next; first | exact conj_nil | simp [conj]) ?_
      refine run_tt eb ?_
      refine goRT hB3 [(33, 154)] 400 rfl (by clear next; first | exact conj_nil | simp [conj]) ?_
      refine run_tt eb ?_
      refine goRf hB3 rfl rfl (by clear next; first | exact conj_nil | simp [conj]) ?_
      refine run_to hpin3 [0, 1, 2] rfl rfl ?_ (next (b, 0, 0) ⟨fun _ => rfl, fun e => absurd (eb.symm.trans e) (by decide), by rw [if_pos eb]; exact hO⟩)
      clear next
      simp [conj, less_rfl, ren_fnr, renR_fnr]
    · rw [if_neg eb] at hO
      have eb : b = false := by simpa using eb
      refine goRT hB3 [(33, 139)] 400 rfl (by clear next; first | exact conj_nil | simp [conj]) ?_
      refine run_ff eb ?_
      refine goRT hB3 [(33, 143)] 400 rfl (by clear next; first | exact conj_nil | simp [conj]) ?_
      by_cases ho : other = 0
      · rw [if_pos ho] at hO
        subst hO
        clear next
        refine run_tt (by simpa using ho) ?_
        refine goRf hB3 rfl rfl (by first | exact conj_nil | simp [conj]) ?_
        exact run_retF hF3 hpin3 (l, M, vL, vN) (hsame hF3) [99] rfl rfl (by first | exact conj_nil | simp [conj]) rfl (by simp [conj, less_rfl])
      rw [if_neg ho] at hO
      refine run_ff (by simpa using ho) ?_
      refine goRT hB3 [(33, 146)] 400 rfl (by clear next; first | exact conj_nil | simp [conj]) ?_
      refine run_ff eb ?_
      refine goRT hB3 [(33, 151)] 400 rfl (by clear next; first | exact conj_nil | simp [conj]) ?_
      by_cases hve : vs = []
      · rw [if_pos hve] at hO
        subst hO
        clear next
        refine run_tt (by simp [hve]) ?_
        refine goRf hB3 rfl rfl (by first | exact conj_nil | simp [conj]) ?_
        exact run_retF hF3 hpin3 (l, M, vL, vN) (hsame hF3) [99] rfl rfl (by first | exact conj_nil | simp [conj]) rfl (by simp [conj, less_rfl])
      rw [if_neg hve] at hO
      refine run_ff (by simp [hve]) ?_
      refine goRT hB3 [(33, 154)] 400 rfl (by clear next; first | exact conj_nil | simp [conj]) ?_
      refine run_ff eb ?_
      refine goRf hB3 rfl rfl (by clear next; first | exact conj_nil | simp [conj]) ?_
      refine run_to hpin3 [0, 1, 2] rfl rfl ?_ (next (b, s.T, s.H) ⟨fun e => absurd (eb.symm.trans e) (by decide), fun _ => rfl, by rw [if_neg (fun e => absurd (eb.symm.trans e) (by decide))]; exact hO⟩)
      clear next
      simp [conj, less_rfl, ren_fnr, renR_fnr]
  clear hO hb
  rintro ⟨b', T0, H0⟩ ⟨hb1, hb2, hO⟩
  dsimp only at hb1 hb2 hO ⊢
  subst hO
  dsimp only
  have hfin := acc_fin s l host kind other b' { s with T := T0, H := H0 } (fun e => by have := hb1 e; injection this with e1 e2; rw [e1, e2]) (fun e => by have := hb2 e; injection this with e1 e2; rw [e1, e2])
  rw [hvs] at hfin
  rw [hfin]
  clear hfin hb1 hb2
  have hl9 : l.length < 129 := by omega
  have hRI : RInv ({ s with T := T0, H := H0 }, l) := ⟨q.k, hl9, q.n⟩
  have hnd : vs.Nodup := by rw [← hvs]; exact (nodup_of q.k).filter _
  have hsub : ∀ x ∈ vs, x ∈ l := fun x hx => by rw [← hvs] at hx; exact (vic_mem hx).1
  have hGp : ∀ i, (remQ host (({ s with T := T0, H := H0 } : RSt), l) vs i).1.G = s.G ∧ (remQ host (({ s with T := T0, H := H0 } : RSt), l) vs i).1.p = s.p ∧ (remQ host (({ s with T := T0, H := H0 } : RSt), l) vs i).1.v = s.v := fun i => remF_G host (vs.take i) ({ s with T := T0, H := H0 }, l)
  have hkq : KeysOf (({ s with T := T0, H := H0 } : RSt), l).1.h (({ s with T := T0, H := H0 } : RSt), l).2 := q.k
  have hsub' : ∀ x ∈ vs, x ∈ (({ s with T := T0, H := H0 } : RSt), l).2 := hsub
  have hQ0 : remQ host (({ s with T := T0, H := H0 } : RSt), l) vs 0 = ({ s with T := T0, H := H0 }, l) := rfl
  have hM0N : nOf M = (midS host (({ s with T := T0, H := H0 } : RSt), l) vs 0).N := hR.n
  have hM0T : (midS host (({ s with T := T0, H := H0 } : RSt), l) vs 0).T = T0 := rfl
  have hM0H : (midS host (({ s with T := T0, H := H0 } : RSt), l) vs 0).H = H0 := rfl
  have hL0 : (remQ host (({ s with T := T0, H := H0 } : RSt), l) vs 0).2 = l := rfl
  clear hvic hfl hi hpin2 hB2 hF2
  generalize ((({ s with T := T0, H := H0 } : RSt), l) : RSt × List Int) = q0 at *
  refine run_loop ?_
  refine run_to hpin3 [0, 1, 2] (nx' := 3) (rest' := []) (sl' := [(20, i64 ((0 : Nat) : Int)), (17, .sq 2 0 0 1 vs.length .own), (16, .sb b'), (12, .ptr 1 0), (6, .ptr 0 0), (3, i64 kind), (1, u64 host)]) (hp' := [(0, .cells [.val vL, i64 (midS host q0 vs 0).T, u64 (midS host q0 vs 0).H, .int .u32 s.G, .sb s.p, .val vN] 31), (1, .cells [.und, .und, .und, .und, .und, .und] 31), (2, .row 0 vs.length vs.length 1 (fnr (lsD vs)) 23)]) rfl rfl (by simp [conj, less_rfl, ren_fnr, renR_fnr, hM0T, hM0H]) ?_
  refine run_invX (ι := Nat × List (Int × Int) × Value × Value) hF3 hpin3 (fun z K' => z.1 ≤ vs.length ∧ Froz K' z.2.2.1 (remQ host q0 vs z.1).2.length 2 (prow (remQ host q0 vs z.1).2 s.v) ∧ Froz K' z.2.2.2 z.2.1.length 2 (mrow z.2.1) ∧ nOf z.2.1 = (midS host q0 vs z.1).N ∧ z.2.1.length ≤ M.length + z.1 * 130) (fun z => vs.length - z.1)
    (fun z => [(20, i64 z.1), (17, .sq 2 0 0 1 vs.length .own), (16, .sb b'), (12, .ptr 1 0), (6, .ptr 0 0), (3, i64 kind), (1, u64 host)]) (fun _ => [])
    (fun z => [(0, .cells [.val z.2.2.1, i64 (midS host q0 vs z.1).T, u64 (midS host q0 vs z.1).H, .int .u32 s.G, .sb s.p, .val z.2.2.2] 31), (1, .cells [.und, .und, .und, .und, .und, .und] 31), (2, .row 0 vs.length vs.length 1 (fnr (lsD vs)) 23)]) (0, M, vL, vN) ⟨Nat.zero_le _, by rw [hL0]; exact hR3.L, hR3.N, hM0N, by show M.length ≤ _; omega⟩ ?_
  rintro ⟨i, Mi, wL, wN⟩ B4 K4 hF4 hpin4 ⟨hi, hwL, hwN, hnM, hMl⟩ ih
  dsimp only at hi hwL hwN hnM hMl ih ⊢
  have hB4 := hF4.ok
  have hK4 := hF4.le
  have hRi := remQ_inv (host := host) hRI vs i
  refine goRT hB4 [(33, 160)] 400 rfl (by first | exact conj_nil | simp [conj]) ?_
  by_cases hi1 : i < vs.length
  · refine run_tt (by simpa using hi1) ?_
    have hx := mid_h (host := host) hi1 hkq hnd hsub'
    have hst := mid_step hi1 hnM
    have htt := mid_st (host := host) (q := q0) hi1
    have hrs : (remQ host q0 vs (i + 1)).2 = fl (lsD vs i) (remQ host q0 vs i).2 := by rw [remQ_succ _ _ _ _ hi1]; rfl
    have hl9i := hRi.l
    have hrm := hcx_openA hwL (by decide) (fun _ => rfl) (fun off => removeR_hcx K4 wN (remQ host q0 vs i).2 (by omega) s.v off Mi (by omega) hwN (midS host q0 vs i).T (midS host q0 vs i).H s.G s.p (lsD vs i) host)
    rw [rmR_E hx] at hrm
    have hrl := relM_len Mi (midS host q0 vs i).T host (remQ host q0 vs i).2
    generalize rmE (midS host q0 vs i).h (midS host q0 vs i).T (midS host q0 vs i).H (remQ host q0 vs i).2 (lsD vs i) = rb at hrm hst htt
    have hMl2 : (if rb = true then relM Mi (midS host q0 vs i).T host (remQ host q0 vs i).2 else Mi).length ≤ Mi.length + 129 := by split <;> omega
    generalize (if rb = true then relM Mi (midS host q0 vs i).T host (remQ host q0 vs i).2 else Mi) = M2 at hrm hst hMl2
    have hMl3 := addM_len M2 1 (lsD vs i)
    obtain ⟨htT, htH⟩ := htt
    rw [← htT, ← htH] at hrm
    have ih := fun wL3 w B6 K6 g1 g2 (g3 : Froz K6 wL3 (fl (lsD vs i) (remQ host q0 vs i).2).length 2 (prow (fl (lsD vs i) (remQ host q0 vs i).2) s.v)) (g4 : Froz K6 w (addM M2 1 (lsD vs i)).length 2 (mrow (addM M2 1 (lsD vs i)))) => ih (i + 1, addM M2 1 (lsD vs i), wL3, w) B6 K6 g1 g2 ⟨hi1, by dsimp only; rw [hrs]; exact g3, g4, hst, by dsimp only; omega⟩ (by dsimp only; omega)
    refine goRT hB4 [] 400 rfl (by clear ih; first | exact conj_nil | simp [conj]) ?_
    refine run_draw0 mixed (fun t => ?_)
    refine run_drawX (M := modeSS) hK4 2 11 rfl named hB4 (sumOk_nil _) 6 ⟨65, [.agg [.val wL, i64 (midS host q0 vs i).T, u64 (midS host q0 vs i).H, .int .u32 s.G, .sb s.p, .val wN], u64 (lsD vs i), u64 host], [], [], 0, .und, [], 0, []⟩ (wL, wN) hrm rfl (fun z => by show 0 ≤ 0; omega) [] trivial rfl rfl (fun z => rfl) rfl (fun z => rfl) rfl rfl rfl (fun z => ?_) (fun z => ?_) ?_
    · repeat' (first | exact trivial | exact Or.inr (Or.inr rfl) | exact Or.inl rfl | exact Or.inr (Or.inl rfl) | apply And.intro)
    · clear ih
      simp [conj, less_rfl, SO.Live, hi1]
    rintro ⟨wL2, wN2⟩ B5 K5 ⟨h51, h52⟩ hF5 hp5 t
    have hB5 := hF5.ok
    refine run_chain rfl rfl ?_
    refine run_callX (hcx_openB (rs := fun w : Value => [i64 (midS host q0 vs (i + 1)).T, u64 (midS host q0 vs (i + 1)).H, .int .u32 s.G, .sb s.p, .val w]) h51 (by decide) (fun _ => rfl) (fun off => notifyR_hcx K5 wN2 (fl (lsD vs i) (remQ host q0 vs i).2) s.v off M2 (by omega) h52 (midS host q0 vs (i + 1)).T (midS host q0 vs (i + 1)).H s.G s.p (lsD vs i) 1)) named hB5 hF5.le (fun _ h => h.elim) (.inl rfl) [] rfl rfl rfl rfl (by first | exact conj_nil | simp [conj]) (by clear ih; simp [conj, less_rfl]) ?_
    rintro ⟨w, wL3⟩ B6 K6 ⟨hw, hwL3⟩ hF6 hp6
    refine ⟨show 0 ≤ 0 by omega, _, _, _, rfl, rfl, rfl, ?_⟩
    have hB6 := hF6.ok
    have ih := ih wL3 w B6 K6 ((hF4.trans0 hF5 hK fun _ h => h.elim).trans0 hF6 hK fun _ h => h.elim) ((hpin4.fz hF5 hp5).fz hF6 hp6) hwL3 hw
    refine goRf hB6 rfl rfl (by clear ih; simp [conj, Fits_i64]; omega) ?_
    refine run_back ?_
    refine run_to ((hpin4.fz hF5 hp5).fz hF6 hp6) [0, 1, 2] rfl rfl ?_ ih
    clear ih
    simp [conj, less_rfl, ren_fnr, renR_fnr]
  clear ih
  have hin2 : i = vs.length := by omega
  subst hin2
  refine run_ff (by simp) ?_
  refine goRT hB4 [(33, 175)] 400 rfl (by first | exact conj_nil | simp [conj]) ?_
  obtain ⟨g1, g2, g3⟩ := hGp vs.length
  have hl9i := hRi.l
  have hkk := hRi.k
  by_cases eb : b' = true
  · rw [if_pos eb]
    refine run_tt eb ?_
    refine goRf hB4 rfl rfl (by first | exact conj_nil | simp [conj]) ?_
    have hml := addML_len 3 (fl host (remQ host q0 vs vs.length).2) Mi
    have hfl := fl_len host (remQ host q0 vs vs.length).2
    refine run_callX (hcx_openB (rs := fun w : Value => [i64 kind, u64 host, .int .u32 s.G, .sb s.p, .val w]) hwL (by decide) (fun _ => rfl) (fun off => othersR_hcx K4 wN (remQ host q0 vs vs.length).2 (by omega) s.v off Mi (by omega) hwN kind host s.G s.p host 3)) named hB4 hK4 (fun _ h => h.elim) (.inl rfl) [] rfl rfl rfl rfl (by first | exact conj_nil | simp [conj]) (by simp [conj, less_rfl]) ?_
    rintro ⟨w, wL3⟩ B5 K5 ⟨hw, hwL3⟩ hF5 hp5
    refine ⟨show 0 ≤ 0 by omega, _, _, _, rfl, rfl, rfl, ?_⟩
    have hB5 := hF5.ok
    refine goRf hB5 rfl rfl (by first | exact conj_nil | simp [conj]) ?_
    refine run_retF (hF4.trans0 hF5 hK fun _ h => h.elim) (hpin4.fz hF5 hp5) ((remQ host q0 vs vs.length).2, addML Mi 3 (fl host (remQ host q0 vs vs.length).2), wL3, w) ⟨⟨by dsimp only; rw [g3]; exact hwL3, hw, by dsimp only; rw [nOf_addL, hnM]⟩, hkk, by dsimp only; omega⟩ [2] rfl rfl (by first | exact conj_nil | simp [conj]) rfl ?_
    simp [conj, less_rfl, gen1, g1, g2, ren_fnr, renR_fnr]
  · rw [if_neg eb]
    refine run_ff (by simpa using eb) ?_
    refine goRf hB4 rfl rfl (by first | exact conj_nil | simp [conj]) ?_
    refine run_retF hF4 hpin4 ((remQ host q0 vs vs.length).2, Mi, wL, wN) ⟨⟨by show Froz _ _ _ _ (prow _ (remQ host q0 vs vs.length).1.v); rw [g3]; exact hwL, hwN, hnM⟩, hkk, by dsimp only; omega⟩ [2] rfl rfl (by first | exact conj_nil | simp [conj]) rfl ?_
    have g2' : (midS host q0 vs vs.length).p = s.p := g2
    simp [conj, less_rfl, gen1, g1, g2', ren_fnr, renR_fnr]
end Sx
end
section
/- Package reserve: SetPersist, PowerLoss where the reservation persists. Conditions: as each theorem says. -/
namespace Sx
open Go Go.Proofs
set_option maxRecDepth 100000
theorem setP_hc (T H G : Int) (p b : Bool) (hN : Int → Bool) (V : Int → Value) (h : Int → Bool) (v : Int → Int) :
    HC Try.prog 21 [.ptr 0 0, .sb b] [(0, rC0 1 2 T H G p), (1, nmap hN V), (2, kmap h v)] [] 3 (fun _ : Unit => True) (fun _ => ⟨i64 0, [(0, rC0 1 2 T H G b), (1, nmap hN V), (2, kmap h v)], 3⟩) := by
  refine hc_of_run Try.func21 rfl (fun B hB hpin => ?_)
  refine goP hB rfl rfl (by simp [conj, isPt25, isMp44]) ?_
  refine run_ff rfl ?_
  refine goP hB rfl rfl (by first | exact conj_nil | simp [conj, isPt25, isMp44]) ?_
  refine run_retC hpin () trivial [0, 1, 2] rfl rfl (by first | exact conj_nil | simp [conj]) rfl ?_
  simp [conj, less_rfl]
theorem powerP_on (T H G : Int) (hN : Int → Bool) (V : Int → Value) (h : Int → Bool) (v : Int → Int) :
    HC Try.prog 22 [.ptr 0 0] [(0, rC0 1 2 T H G true), (1, nmap hN V), (2, kmap h v)] [] 3 (fun _ : Unit => True) (fun _ => ⟨i64 0, [(0, rC0 3 2 T H G true), (3, nmap (fun _ => false) (fun _ => .slice none 0 0)), (2, kmap h v)], 4⟩) := by
  refine hc_of_run Try.func22 rfl (fun B hB hpin => ?_)
  refine goY hB [] 400 rfl (by first | exact conj_nil | simp [conj, isPt25, isMp44]) ?_
  refine run_retC hpin () trivial [0, 1, 2, 3] rfl rfl (by first | exact conj_nil | simp [conj]) rfl ?_
  simp [conj, less_rfl]
theorem powerP_off (T H G : Int) (hN : Int → Bool) (V : Int → Value) (h : Int → Bool) (v : Int → Int) :
    HC Try.prog 22 [.ptr 0 0] [(0, rC0 1 2 T H G false), (1, nmap hN V), (2, kmap h v)] [] 3 (fun _ : Unit => True) (fun _ => ⟨i64 0, [(0, rC0 3 4 0 0 0 false), (3, nmap (fun _ => false) (fun _ => .slice none 0 0)), (4, kmap (fun _ => false) (fun _ => 0))], 5⟩) := by
  refine hc_of_run Try.func22 rfl (fun B hB hpin => ?_)
  refine goY hB [] 400 rfl (by first | exact conj_nil | simp [conj, isPt25, isMp44]) ?_
  refine run_retC hpin () trivial [0, 1, 2, 3, 4] rfl rfl (by first | exact conj_nil | simp [conj]) rfl ?_
  simp [conj, less_rfl]
end Sx
end
section
/- Package reserve: take where there is nothing to take. Conditions: as each theorem says. -/
namespace Sx
open Go Go.Proofs
set_option maxRecDepth 100000
set_option pp.deepTerms true
theorem take_none (K : Kn) (h : Int → Bool) (V : Int → Value) (N : Int → List Int) (hNK : NOK K h V N) (a : Int) (h0 : N a = []) :
    HCK Try.prog K 39 [.mp 0, u64 a] [(0, nmap h V)] [] 1 (fun _ : Unit => True) (fun _ => ⟨.tup [i64 0, .ff], [(0, nmap h V)], 1⟩) := by
  have hF := hNK.f a
  have hv := hNK.v a
  rw [h0] at hF
  refine hck_of_run Try.func39 rfl (fun B hB hK hpin => ?_)
  refine goP hB rfl rfl (by first | exact conj_nil | simp [conj, isMp43]) ?_
  rw [hv]
  refine run_open hK 10 hF (by decide) rfl (fun off => ?_)
  refine goP hB rfl rfl (by first | exact conj_nil | simp [conj]) ?_
  refine run_tt (by simp) ?_
  refine run_close (.inl rfl) ?_
  refine goP hB rfl rfl (by first | exact conj_nil | simp [conj]) ?_
  refine run_retC hpin () trivial [0] rfl rfl (by first | exact conj_nil | simp [conj]) rfl ?_
  simp [conj, less_rfl]
theorem take_some (K : Kn) (h : Int → Bool) (V : Int → Value) (N : Int → List Int) (hNK : NOK K h V N) (a k : Int) (r : List Int) (hr : r.length < 1000) (h0 : N a = k :: r) :
    HCK Try.prog K 39 [.mp 0, u64 a] [(0, nmap h V)] [] 1 (fun z : NSt => NOK K z.h z.V (fun b => if b = a then r else N b)) (fun z => ⟨.tup [i64 k, .tt], [(0, nmap z.h z.V)], 1⟩) := by
  have hF := hNK.f a
  have hv := hNK.v a
  rw [h0] at hF
  refine hck_of_run Try.func39 rfl (fun B hB hK hpin => ?_)
  refine goP hB rfl rfl (by first | exact conj_nil | simp [conj, isMp43]) ?_
  rw [hv]
  refine run_open hK 10 hF (by decide) rfl (fun off => ?_)
  refine goP hB rfl rfl (by first | exact conj_nil | simp [conj]) ?_
  refine run_ff (by simp; omega) ?_
  refine run_close (.inl rfl) ?_
  refine goP hB rfl rfl (by first | exact conj_nil | simp [conj]) ?_
  refine run_open hK 16 hF (by decide) rfl (fun off2 => ?_)
  refine goP hB rfl rfl (by first | exact conj_nil | simp [conj]) ?_
  refine run_open hK 18 hF (by decide) rfl (fun off3 => ?_)
  refine goP hB rfl rfl (by first | exact conj_nil | simp [conj]) ?_
  refine run_vslice (s' := 1) (n' := r.length) hF rfl rfl rfl conj_nil rfl conj_nil rfl conj_nil rfl conj_nil (fun off4 => ⟨_, _, rfl, by simp [conj]; try omega⟩) (by simp; omega) (fun _ e => ⟨_, _, by injection e with e; exact e.symm⟩) (fun _ e => ⟨_, _, by injection e with e; exact e.symm⟩) (fun _ e => ⟨_, _, by injection e with e; exact e.symm⟩) ?_
  intro u hu
  refine ⟨_, rfl, ?_⟩
  refine run_close (.inl rfl) ?_
  refine run_close (.inl rfl) ?_
  refine goP hB rfl rfl (by first | exact conj_nil | simp [conj, isMp43]) ?_
  refine run_open hK 21 hF (by decide) rfl (fun off5 => ?_)
  refine goP hB rfl rfl (by first | exact conj_nil | simp [conj]) ?_
  refine run_close (.inl rfl) ?_
  have hz : NOK K (fun b => ieq b a || h b) (fun b => bif ieq b a then u else V b) (fun b => if b = a then r else N b) := by
    refine ⟨fun b hb => ?_, fun b => ?_⟩
    · rw [Bool.or_eq_false_iff] at hb
      show (bif ieq b a then u else V b) = _
      rw [hb.1, cond_false]
      exact hNK.z b hb.2
    · by_cases e : b = a
      · subst e
        have e1 : ieq b b = true := by simp [ieq]
        show Froz K (bif ieq b b then u else V b) _ 1 _
        rw [e1, cond_true, if_pos rfl]
        refine hu.congr fun i j _ _ => ?_
        show SV.int .i64 (lsD r i) = SV.int .i64 (lsD (k :: r) (1 + i))
        simp [lsD, Nat.add_comm 1 i]
      · have e1 : ieq b a = false := by simp [ieq, e]
        show Froz K (bif ieq b a then u else V b) _ 1 _
        rw [e1, cond_false, if_neg e]
        exact hNK.f b
  refine run_retC hpin (⟨fun b => ieq b a || h b, fun b => bif ieq b a then u else V b⟩ : NSt) hz [0] rfl rfl (by first | exact conj_nil | simp [conj]) rfl ?_
  simp [conj, less_rfl]
  simp [lsD]
end Sx
end
