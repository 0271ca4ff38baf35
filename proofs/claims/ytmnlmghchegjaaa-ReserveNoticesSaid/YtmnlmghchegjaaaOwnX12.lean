/- Texts of this law, joined: what the functions do. Conditions: as each theorem says. -/
import Derived.Test.YtmnlmghchegjaaaOwnX11
import Derived.Test.YtmnlmghchegjaaaOwnX10
set_option linter.unusedSimpArgs false
set_option linter.unusedVariables false
section
/- What a call on both sides uses: code, hosts, the program's Notice and Copy. Conditions: as each theorem says. -/
namespace Sx
open Go Go.Proofs
set_option maxRecDepth 100000
set_option pp.deepTerms true
set_option pp.maxSteps 10000000
/-- The modes of a call on both sides. -/
abbrev cfJ : List Nat := [10, 11, 12, 13, 14, 16, 17, 18, 21, 22, 30, 31, 32, 33, 34, 35, 37, 38, 39]
def modeJ : Mode := { st := true, unr := false, inl := fun f => !hasN f cfJ, sum := sumOf sW, keep := fun _ => none }
theorem goJ {B : Base} (hB : B.ok) {ro : Hp} {f : FuncId} {R : Ending → World → Prop} {cs0 cs : List Prop} {c c0 c' : Cfg} (h0 : stepD Try.prog modeJ ro c = some (cs0, c0)) (h : execG Try.prog modeJ ro 400 cs0 c0 = (cs, c')) (hc : conj cs)
    (hr : Run Try.prog ro B f R c') : Run Try.prog ro B f R c := run_go mixed named hB sW_ok 400 h0 h hc hr
theorem goJT {B : Base} (hB : B.ok) {ro : Hp} {f : FuncId} {R : Ending → World → Prop} (S : List (Nat × Nat)) (m : Nat) {cs : List Prop} {c c' : Cfg} (h : execY Try.prog modeJ ro S m [] c = (cs, c')) (hc : conj cs)
    (hr : Run Try.prog ro B f R c') : Run Try.prog ro B f R c := run_goY mixed named hB sW_ok S m h hc hr
theorem code_hc (c : Int) (h0 : 0 ≤ c) (h1 : c < 256) : HC Try.prog 16 [stC c, i64 c] [] [] 0 (fun _ : Unit => True) (fun _ => ⟨.tt, [], 0⟩) := by
  refine hc_of_run Try.func16 rfl (fun B hB hpin => ?_)
  refine goJT hB [(16, 6)] 400 rfl (by first | exact conj_nil | simp [conj]) ?_
  by_cases e : c = 0
  · refine run_tt (by simpa using e) ?_
    refine goJ hB rfl rfl (by first | exact conj_nil | simp [conj, rowEqK49, kinds]) ?_
    refine run_retC hpin () trivial [] rfl rfl (by first | exact conj_nil | simp [conj]) rfl ?_
    simp [conj, e]
  · refine run_ff (by simpa using e) ?_
    refine goJ hB rfl rfl (by first | exact conj_nil | simp [conj, rowEqK49, kinds]) ?_
    refine run_retC hpin () trivial [] rfl rfl (by first | exact conj_nil | simp [conj]) rfl ?_
    have hw : IntKind.u8.wrap c = c := by show c % 256 = c; omega
    simp [conj, e, hw]
theorem hosts_hc (vs : List Int) (hv : vs.length < 1000) : HC Try.prog 30 [.sq 0 0 0 1 vs.length .no, .sq 1 0 0 1 vs.length .no] [] [(0, .row 0 vs.length vs.length 1 (fnr (lsD vs)) 23), (1, .row 0 vs.length vs.length 1 (fnr (lsD vs)) 23)] 2 (fun _ : Unit => True) (fun _ => ⟨.tt, [], 2⟩) := by
  refine hc_of_run Try.func30 rfl (fun B hB hpin => ?_)
  refine goJT hB [(30, 10)] 400 rfl (by first | exact conj_nil | simp [conj]) ?_
  refine run_ff (by simp) ?_
  refine goJ hB rfl rfl (by first | exact conj_nil | simp [conj]) ?_
  refine run_loop ?_
  refine run_inv (ι := Nat) hpin (fun i => i ≤ vs.length) (fun i => vs.length - i) (fun i => [(5, i64 i), (0, .sq 0 0 0 1 vs.length .no), (1, .sq 1 0 0 1 vs.length .no)]) (fun _ => []) (fun _ => []) 2 0 (Nat.zero_le _) [0, 1] rfl rfl (by simp [conj, less_rfl, ren_fnr, renR_fnr]) ?_
  intro i hi ih
  refine goJT hB [(30, 14)] 400 rfl (by first | exact conj_nil | simp [conj]) ?_
  by_cases hi1 : i < vs.length
  · have ih := ih (i + 1) hi1 (by omega)
    refine run_tt (by simpa using hi1) ?_
    refine goJT hB [(30, 25)] 400 rfl (by clear ih; simp [conj, hi1]) ?_
    refine run_ff (by simp) ?_
    refine goJ hB rfl rfl (by clear ih; simp [conj, Fits_i64]; omega) ?_
    refine run_back ?_
    refine run_to hpin [0, 1] rfl rfl ?_ ih
    clear ih
    simp [conj, less_rfl, ren_fnr, renR_fnr]
  · clear ih
    refine run_ff (by simpa using hi1) ?_
    refine goJ hB rfl rfl (by first | exact conj_nil | simp [conj]) ?_
    refine run_retC hpin () trivial [0, 1] rfl rfl (by first | exact conj_nil | simp [conj]) rfl ?_
    simp [conj, less_rfl, ren_fnr, renR_fnr]
theorem hosts0_hc : HC Try.prog 30 [.sq 0 0 0 1 0 .no, .sq 1 0 0 1 0 .no] [] [] 0 (fun _ : Unit => True) (fun _ => ⟨.tt, [], 0⟩) := by
  refine hc_of_run Try.func30 rfl (fun B hB hpin => ?_)
  refine goJT hB [(30, 10)] 400 rfl (by first | exact conj_nil | simp [conj]) ?_
  refine run_ff (by simp) ?_
  refine goJ hB rfl rfl (by first | exact conj_nil | simp [conj]) ?_
  refine run_loop ?_
  refine goJT hB [(30, 14)] 400 rfl (by first | exact conj_nil | simp [conj]) ?_
  refine run_ff (by simp) ?_
  refine goJ hB rfl rfl (by first | exact conj_nil | simp [conj]) ?_
  refine run_retC hpin () trivial [] rfl rfl (by first | exact conj_nil | simp [conj]) rfl ?_
  simp [conj]
abbrev hpC (n k : Nat) (s : RSt) (z : NSt) : Hp := [(0, rC0 n k s.T s.H s.G s.p), (n, nmap z.h z.V), (k, kmap s.h s.v)]
/-- The first of a queue, 0 if it is empty. -/
def hdN : List Int → Int
  | [] => 0
  | k :: _ => k
theorem noticeP_none (K : Kn) (s : RSt) (z : NSt) (hNK : NOK K z.h z.V s.N) (a : Int) (h0 : s.N a = []) :
    HCX Try.prog K M0 13 [.ptr 0 0, u64 a] (hpS s z) [] 3 (fun (_ : Unit) _ => True) (fun _ => ⟨.tup [i64 0, .ff], hpS s z, 3⟩) := by
  refine hcx_of_run Try.func13 rfl (fun B hB hK hpin => ?_)
  refine goJT hB [] 400 rfl (by first | exact conj_nil | simp [conj, isPt25, isMp43, isMp44]) ?_
  refine run_callX (hcx_of_hck (M := M0) (take_none K z.h z.V s.N hNK a h0)) named hB hK (fun _ h => h.elim) (.inr fun _ h => h) [1] rfl rfl rfl rfl (by first | exact conj_nil | simp [conj]) (by simp [conj, less_rfl, ren_val]) ?_
  rintro ⟨⟩ B2 K2 ⟨_, rfl⟩ hF2 hp2
  have hB2 := hF2.ok
  refine ⟨show 1 ≤ 1 by omega, _, _, _, rfl, rfl, rfl, ?_⟩
  refine goJ hB2 rfl rfl (by first | exact conj_nil | simp [conj]) ?_
  refine run_retF hF2 (hpin.fz hF2 hp2) () trivial [0, 1, 2] rfl rfl (by first | exact conj_nil | simp [conj]) rfl ?_
  simp [conj, less_rfl, ren_val]
theorem noticeP_some (K : Kn) (s : RSt) (z : NSt) (hNK : NOK K z.h z.V s.N) (a k : Int) (r : List Int) (hr : r.length < 1000) (h0 : s.N a = k :: r) :
    HCX Try.prog K M0 13 [.ptr 0 0, u64 a] (hpS s z) [] 3 (fun (z' : NSt) K' => NOK K' z'.h z'.V (fun b => if b = a then r else s.N b)) (fun z' => ⟨.tup [i64 k, .tt], hpS s z', 3⟩) := by
  refine hcx_of_run Try.func13 rfl (fun B hB hK hpin => ?_)
  refine goJT hB [] 400 rfl (by first | exact conj_nil | simp [conj, isPt25, isMp43, isMp44]) ?_
  refine run_callX (hcx_of_hck (M := M0) (take_some K z.h z.V s.N hNK a k r hr h0)) named hB hK (fun _ h => h.elim) (.inr fun _ h => h) [1] rfl rfl rfl rfl (by first | exact conj_nil | simp [conj]) (by simp [conj, less_rfl, ren_val]) ?_
  rintro z' B2 K2 ⟨hz, rfl⟩ hF2 hp2
  have hB2 := hF2.ok
  refine ⟨show 1 ≤ 1 by omega, _, _, _, rfl, rfl, rfl, ?_⟩
  refine goJ hB2 rfl rfl (by first | exact conj_nil | simp [conj]) ?_
  refine run_retF hF2 (hpin.fz hF2 hp2) z' hz [0, 1, 2] rfl rfl (by first | exact conj_nil | simp [conj]) rfl ?_
  simp [conj, less_rfl, ren_val]
theorem copyP_hc (s : RSt) (z : NSt) : HC Try.prog 11 [.ptr 0 0] (hpS s z) [] 3 (fun _ : Unit => True) (fun _ => ⟨.ptr 3 0, hpS s z ++ [(3, rC0 4 5 s.T s.H s.G s.p), (4, nmap z.h z.V), (5, kmap s.h s.v)], 6⟩) := by
  refine hc_of_run Try.func11 rfl (fun B hB hpin => ?_)
  refine goJT hB [] 400 rfl (by first | exact conj_nil | simp [conj, isPt25, isMp43, isMp44]) ?_
  refine run_draw0 mixed (fun t => ?_)
  refine run_drawC (M := modeJ) 1 14 rfl named hB sW_ok [(8, rcV z.h z.V 1), (13, rcK s.h s.v 2)] ⟨rcV_ok _ _ _, rcK_ok _ _ _, trivial⟩ rfl rfl rfl rfl rfl rfl (by simp [conj, less_rfl, SO.Live, ren_val]) (fun t => ?_)
  refine run_drawE rfl ?_
  refine goJ hB rfl rfl (by first | exact conj_nil | simp [conj]) ?_
  refine run_retC hpin () trivial [0, 1, 2, 3, 8, 13] rfl rfl (by first | exact conj_nil | simp [conj]) rfl ?_
  simp [conj, less_rfl, ren_val]
end Sx
end
section
/- What ReserveHolds computes: true. Conditions: as each theorem says. -/
namespace Sx
open Go Go.Proofs
set_option maxRecDepth 100000
set_option pp.deepTerms true
set_option pp.maxSteps 10000000
/-- A call of the law. -/
structure A8 where
  w : Int
  a : Int
  t : Int
  ho : Int
  ke : Int
  cu : Int
  fl : Bool
  kn : Bool
structure A8.ok (x : A8) : Prop where
  h0 : 0 ≤ x.ho
  h1 : x.ho < 18446744073709551616
  k0 : 0 ≤ x.ke
  k1 : x.ke < 18446744073709551616
def ak8 (l : Nat → A8) : Nat → Nat → SV := fun i k => match k with
  | 0 => i64 (l i).w
  | 1 => i64 (l i).a
  | 2 => i64 (l i).t
  | 3 => u64 (l i).ho
  | 4 => u64 (l i).ke
  | 5 => u64 (l i).cu
  | 6 => .sb (l i).fl
  | _ => .sb (l i).kn
theorem ren_ak8 (nx : Nat) (sg : List Nat) (l : Nat → A8) (i k : Nat) : ren nx sg (ak8 l i k) = ak8 l i k := by
  unfold ak8; split <;> simp only [ren, renF, id]
def modeH : Mode := { st := true, unr := false, inl := fun f => !hasN f [8, 14, 17, 18, 19, 23, 24, 26, 28, 57, 58], sum := sumOf sW, keep := fun _ => none }
/-- What stands between two calls. -/
structure H7 where
  B : Base
  K : Kn
  s : RSt
  l : List Int
  z : NSt
  vs : List Int
theorem sinv0 : SInv ⟨fun _ => false, fun _ => 0, 0, 0, 0, false, fun _ => []⟩ [] :=
  ⟨⟨List.Pairwise.nil, fun a => by simp⟩, by decide, fun x hx => (by cases hx), Int.le_refl 0, (by show (0 : Int) ≤ 6; decide), Int.le_refl 0, (by show (0 : Int) < 4294967296; decide), fun h => absurd (show (1 : Int) ≤ 0 from h) (by decide), fun h => absurd (show (5 : Int) ≤ 0 from h) (by decide), fun _ => Nat.zero_le _⟩
end Sx
end
section
/- A call on both sides. Conditions: as each theorem says. -/
namespace Sx
open Go Go.Proofs
set_option maxRecDepth 100000
set_option pp.deepTerms true
set_option pp.maxSteps 10000000
theorem sorted_uniq : ∀ {l l' : List Int}, l.Pairwise (· < ·) → l'.Pairwise (· < ·) → (∀ a, a ∈ l ↔ a ∈ l') → l = l'
  | [], [], _, _, _ => rfl
  | [], y :: l', _, _, h => by have := (h y).2 List.mem_cons_self; cases this
  | x :: l, [], _, _, h => by have := (h x).1 List.mem_cons_self; cases this
  | x :: l, y :: l', h1, h2, h => by
    rw [List.pairwise_cons] at h1 h2
    have hx : x = y := by
      rcases List.mem_cons.1 ((h x).1 List.mem_cons_self) with e | e
      · exact e
      · rcases List.mem_cons.1 ((h y).2 List.mem_cons_self) with e' | e'
        · exact e'.symm
        · have := h2.1 x e; have := h1.1 y e'; omega
    subst hx
    congr 1
    refine sorted_uniq h1.2 h2.2 fun a => ⟨fun ha => ?_, fun ha => ?_⟩
    · rcases List.mem_cons.1 ((h a).1 (List.mem_cons_of_mem _ ha)) with e | e
      · have := h1.1 a ha; omega
      · exact e
    · rcases List.mem_cons.1 ((h a).2 (List.mem_cons_of_mem _ ha)) with e | e
      · have := h2.1 a ha; omega
      · exact e
theorem keys_uniq {h : Int → Bool} {l l' : List Int} (a : KeysOf h l) (b : KeysOf h l') : l = l' := sorted_uniq a.1 b.1 fun x => (a.2 x).trans (b.2 x).symm
/-- No notice is of the kind 0. -/
def NZ (N : Int → List Int) : Prop := ∀ a, ∀ k ∈ N a, k ≠ 0
theorem NZ.add1 {N : Int → List Int} (q : NZ N) {k : Int} (hk : k ≠ 0) (x : Int) : NZ (add1 N k x) := fun a y hy => by
  unfold Sx.add1 at hy
  cases h : (ieq a x && Nat.blt (N a).length 16) with
  | true =>
    rw [h, cond_true] at hy
    rcases List.mem_append.1 hy with e | e
    · exact q a y e
    · rw [List.mem_singleton] at e; rw [e]; exact hk
  | false => rw [h, cond_false] at hy; exact q a y hy
theorem NZ.addL {k : Int} (hk : k ≠ 0) : ∀ (l : List Int) {N : Int → List Int}, NZ N → NZ (addL N k l)
  | [], _, q => q
  | x :: l, _, q => NZ.addL hk l (q.add1 hk x)
theorem NZ.relN {N : Int → List Int} (q : NZ N) (T a : Int) (l : List Int) : NZ (relN N T a l) := by
  unfold Sx.relN
  split
  · exact NZ.addL (by decide) _ q
  · exact q
theorem NZ.remS {s : RSt} (q : NZ s.N) (l : List Int) (a b : Int) : NZ (remS s l a b).N := by
  unfold Sx.remS
  dsimp only
  split
  · exact q.relN _ _ _
  · exact q
theorem NZ.fold {host : Int} : ∀ (vs : List Int) {q : RSt × List Int}, NZ q.1.N → NZ (vs.foldl (remF host) q).1.N
  | [], _, h => h
  | x :: vs, q, h => NZ.fold vs (q := remF host q x) (h.remS _ _ _)
theorem NZ.reg {s : RSt} (q : NZ s.N) (l : List Int) (host a key cur : Int) (ig : Bool) : NZ (regO s l host a key cur ig).2.N := by
  unfold regO
  repeat' split
  all_goals first | exact q | exact q.remS _ _ _
theorem NZ.rel {s : RSt} (q : NZ s.N) (l : List Int) (host a kind cur : Int) : NZ (relO s l host a kind cur).2.N := by
  unfold relO
  repeat' split
  all_goals first | exact q | exact q.relN _ _ _ | exact NZ.addL (by decide) _ q
theorem NZ.acc {s : RSt} (q : NZ s.N) (l : List Int) (host a kind cur other : Int) : NZ (accO s l host a kind cur other).2.2.N := by
  unfold accO
  repeat' split
  all_goals first | exact q | (unfold repO; exact NZ.addL (by decide) _ (NZ.addL (by decide) _ (NZ.fold _ q))) | (unfold vicO; exact NZ.addL (by decide) _ (NZ.fold _ q))
theorem reg_code (s : RSt) (l : List Int) (host a key cur : Int) (ig : Bool) : 0 ≤ (regO s l host a key cur ig).1 ∧ (regO s l host a key cur ig).1 < 256 := by
  unfold regO
  repeat' split
  all_goals exact ⟨by dsimp only; decide, by dsimp only; decide⟩
theorem rel_code (s : RSt) (l : List Int) (host a kind cur : Int) : 0 ≤ (relO s l host a kind cur).1 ∧ (relO s l host a kind cur).1 < 256 := by
  unfold relO
  repeat' split
  all_goals exact ⟨by dsimp only; decide, by dsimp only; decide⟩
theorem acc_code (s : RSt) (l : List Int) (host a kind cur other : Int) : 0 ≤ (accO s l host a kind cur other).1 ∧ (accO s l host a kind cur other).1 < 256 := by
  unfold accO
  repeat' split
  all_goals exact ⟨by dsimp only; decide, by dsimp only; decide⟩
theorem num_hc (n : Int) : HC Try.prog 20 [i64 n] [] [] 0 (fun _ : Unit => True) (fun _ => ⟨i64 n, [], 0⟩) := by
  refine hc_of_run Try.func20 rfl (fun B hB hpin => ?_)
  refine goJ hB rfl rfl (by first | exact conj_nil | simp [conj]) ?_
  refine run_retC hpin () trivial [] rfl rfl (by first | exact conj_nil | simp [conj]) rfl ?_
  first | exact conj_nil | simp [conj]
theorem kd_none {M : List (Int × Int)} {a : Int} (h : nOf M a = []) : kdM M a = 0 := by
  unfold kdM
  rw [if_neg]
  intro e
  exact (posM_lt M a).1 e h
theorem kd_some {M : List (Int × Int)} {a k : Int} {r : List Int} (h : nOf M a = k :: r) : kdM M a = k := by
  have h1 : posM M a < M.length := (posM_lt M a).2 (by rw [h]; exact fun e => nomatch e)
  unfold kdM
  rw [if_pos h1]
  have h2 := (posM_at M a h1).2
  rw [h] at h2
  injection h2 with h3 _
  exact h3.symm
theorem take_len (M : List (Int × Int)) (a : Int) : (takeM M a).length ≤ M.length := by
  unfold takeM
  rw [List.length_append, List.length_take, List.length_drop]
  omega
theorem take_none_N {M : List (Int × Int)} {a : Int} (h : nOf M a = []) : nOf (takeM M a) = nOf M := by
  funext b
  rw [nOf_take]
  split
  · rename_i e; rw [e, h]; rfl
  · rfl
theorem take_some_N {M : List (Int × Int)} {a k : Int} {r : List Int} (h : nOf M a = k :: r) : nOf (takeM M a) = fun b => if b = a then r else nOf M b := by
  funext b
  rw [nOf_take, h]
  rfl
theorem SInv.dropN {s : RSt} {l : List Int} (q : SInv s l) {a k : Int} {r : List Int} (h : s.N a = k :: r) : SInv { s with N := fun b => if b = a then r else s.N b } l := by
  refine ⟨q.k, q.len, q.kv, q.t0, q.t6, q.g0, q.g1, q.hold, q.all, fun b => ?_⟩
  have := q.n a
  rw [h] at this
  dsimp only
  split
  · simp at this; omega
  · exact q.n b
theorem NZ.dropN {N : Int → List Int} (q : NZ N) {a k : Int} {r : List Int} (h : N a = k :: r) : NZ (fun b => if b = a then r else N b) := by
  intro b y hy
  dsimp only at hy
  split at hy
  · exact q a y (by rw [h]; exact List.mem_cons_of_mem _ hy)
  · exact q b y hy
/-- The state of both sides. -/
abbrev JZ := RSt × List Int × NSt × List (Int × Int) × Value × Value
structure JInv (K : Kn) (x : JZ) : Prop where
  s : SInv x.1 x.2.1
  p : NOK K x.2.2.1.h x.2.2.1.V x.1.N
  r : ROKr K x.1 x.2.1 x.2.2.2.1 x.2.2.2.2.1 x.2.2.2.2.2
  z : NZ x.1.N
abbrev actO (x : JZ) : Out := ⟨.tup [.ptr 3 0, RR x.2.2.2.2.1 x.2.2.2.2.2 x.1, .tt], [(3, rC0 4 5 x.1.T x.1.H x.1.G x.1.p), (4, nmap x.2.2.1.h x.2.2.1.V), (5, kmap x.1.h x.1.v)], 6⟩
abbrev ActC (K : Kn) (x : JZ) (a : A8) : Prop :=
  HCX Try.prog K M0 10 [.ptr 0 0, RR x.2.2.2.2.1 x.2.2.2.2.2 x.1, .agg [i64 a.w, i64 a.a, i64 a.t, u64 a.ho, u64 a.ke, u64 a.cu, .sb a.fl, .sb a.kn]] (hpS x.1 x.2.2.1) [] 3 (fun y K' => JInv K' y ∧ y.2.2.2.1.length ≤ x.2.2.2.1.length + 40000) actO
structure BKc where
  B : Base
  K : Kn
  c : Int
set_option maxHeartbeats 8000000 in
theorem act_all (K : Kn) (s : RSt) (l : List Int) (z : NSt) (M : List (Int × Int)) (vL vN : Value) (hJ : JInv K (s, l, z, M, vL, vN)) (hM : M.length < 8000000) (a : A8) (ha : a.ok) : ActC K (s, l, z, M, vL, vN) a := by
  obtain ⟨w, aa, t, ho, ke, cu, fl, kn⟩ := a
  obtain ⟨q, hN, hR, hz⟩ := hJ
  unfold ActC
  dsimp only at q hN hR hz ⊢
  have hlen := q.len
  refine hcx_of_run Try.func10 rfl (fun B hB hK hpin => ?_)
  have hF0 : Fz B K M0 B K := .refl hB hK
  refine goJT hB [(10, 26)] 400 rfl (by first | exact conj_nil | simp [conj]) ?_
  apply run_shareX (Z := BKc) (Bz := fun y => y.B) (fun y => Fz B K M0 y.B y.K ∧ PinTo y.B 3)
    (fun y N TD => ⟨⟨fid 10, N, [(34, .sb (decide (w = 0))), (32, i64 w), (9, u64 y.c), (8, .ff), (7, .ptr 5 0), (6, .nil), (5, .ptr 4 0), (4, .ptr 3 0), (0, .ptr 0 0)], TD⟩, [], [(0, rC0 1 2 s.T s.H s.G s.p), (1, nmap z.h z.V), (2, kmap s.h s.v), (3, .cells [.val vL, i64 s.T, u64 s.H, .int .u32 s.G, .sb s.p, .val vN] 31), (4, .cells [i64 w, i64 aa, i64 t, u64 ho, u64 ke, u64 cu, .sb fl, .sb kn] 35), (5, .cells [.und, .und, .und, .und, .und, .und] 31)], 6⟩)
  · intro next
    by_cases hk : kn = true
    · refine run_tt hk ?_
      refine goJ hB rfl rfl (by first | exact conj_nil | simp [conj]) ?_
      refine run_callX (hcx_of_hck (M := M0) (keyR_hck K vL vN l s.h s.v q.k (by omega) hR.L s.T s.H s.G s.p ho)) named hB hK (fun _ h => h.elim) (.inr fun _ h => h) [] rfl rfl rfl rfl (by first | exact conj_nil | simp [conj]) (by clear next; simp [conj, less_rfl]) ?_
      rintro ⟨⟩ B2 K2 ⟨_, rfl⟩ hF2 hp2
      have hB2 := hF2.ok
      refine ⟨show 0 ≤ 0 by omega, _, _, _, rfl, rfl, rfl, ?_⟩
      refine goJT hB2 [(10, 34)] 400 rfl (by first | exact conj_nil | simp [conj]) ?_
      refine run_to (hpin.fz hF2 hp2) [0, 1, 2, 3, 4, 5] rfl rfl ?_ (next ⟨B2, K2, bif s.h ho then s.v ho else 0⟩ ⟨hF2, hpin.fz hF2 hp2⟩)
      clear next
      simp [conj, less_rfl, ren_val]
    · refine run_ff (by simpa using hk) ?_
      refine goJT hB [(10, 34)] 400 rfl (by first | exact conj_nil | simp [conj]) ?_
      refine run_to hpin [0, 1, 2, 3, 4, 5] rfl rfl ?_ (next ⟨B, K, cu⟩ ⟨hF0, hpin⟩)
      clear next
      simp [conj, less_rfl, ren_val]
  clear hF0
  rintro ⟨B2, K2, c⟩ ⟨hF2, hpin2⟩
  dsimp only at hF2 hpin2 ⊢
  have hB2 := hF2.ok
  have hK2 := hF2.le
  have hR2 := hR.fz hF2
  have hN2 := hN.fz hF2
  by_cases wr : w = 0 ∨ w = 1 ∨ w = 2
  · rcases wr with rfl | rfl | rfl
    all_goals
      refine goJT hB2 [(10, 47)] 400 rfl (by first | exact conj_nil | simp [conj]) ?_
      obtain ⟨l', hS'⟩ := q.reg (cur := c) (a := aa) fl ha.h0 ha.h1 ha.k0 ha.k1
      have hz' := NZ.reg hz l ho aa ke c fl
      have hcc := reg_code s l ho aa ke c fl
      have hQ := regR_hcx K2 s l q M (by omega) vL vN hR2 ho aa ke c fl
      have hP := fun K3 g => register_hcx K3 s z g l q.k (by omega) q.n ho aa ke c fl
      generalize regO s l ho aa ke c fl = o at hS' hz' hQ hP hcc
      obtain ⟨cc, s'⟩ := o
      refine run_callX hQ named hB2 hK2 (fun _ h => h.elim) (.inr fun _ h => h) [] rfl rfl rfl rfl (by first | exact conj_nil | simp [conj]) (by simp [conj, less_rfl]) ?_
      rintro ⟨l3, M3, wL, wN⟩ B3 K3 ⟨hR3, hk3, hM3⟩ hF3 hp3
      have hB3 := hF3.ok
      have hK3 := hF3.le
      have e3 := keys_uniq hS'.k hk3
      subst e3
      have hP := hP K3 (hN2.fz hF3)
      refine ⟨show 0 ≤ 0 by omega, _, _, _, rfl, rfl, rfl, ?_⟩
      refine goJT hB3 [] 400 rfl (by first | exact conj_nil | simp [conj]) ?_
      refine run_draw0 mixed (fun u => ?_)
      refine run_drawX (M := modeJ) hK3 2 18 rfl named hB3 sW_ok 12 ⟨17, [.ptr 0 0, u64 ho, i64 aa, u64 ke, u64 c, .sb fl], hpS s z, [], 3, .und, [], 3, [0, 1, 2]⟩ z hP rfl (fun y => by show 3 ≤ 5; omega) [(21, ⟨16, [stC cc, i64 cc], [], [], 0, .tt, [], 0, []⟩)] ⟨⟨hck_of_hc (code_hc cc hcc.1 hcc.2), rfl, Nat.le_refl _⟩, trivial⟩ rfl rfl (fun y => rfl) rfl (fun y => rfl) rfl rfl rfl (fun y => ?_) (fun y => ?_) ?_
      · repeat' (first | exact trivial | exact Or.inr (Or.inr rfl) | exact Or.inl rfl | exact Or.inr (Or.inl rfl) | apply And.intro)
      · simp [conj, less_rfl, SO.Live, ren_val]
      rintro z4 B4 K4 hN4 hF4 hp4 u
      have hB4 := hF4.ok
      have hpin4 := (hpin2.fz hF3 hp3).fz hF4 hp4
      refine run_drawE rfl ?_
      refine goJ hB4 rfl rfl (by first | exact conj_nil | simp [conj]) ?_
      have hJ4 : JInv K4 (s', l', z4, M3, wL, wN) := ⟨hS', hN4, hR3.fz hF4, hz'⟩
      refine run_retF ((hF2.trans0 hF3 hK fun _ h => h.elim).trans0 hF4 hK fun _ h => h.elim) hpin4 (s', l', z4, M3, wL, wN) ⟨hJ4, hM3⟩ [0, 1, 2, 0, 19, 37] rfl rfl (by first | exact conj_nil | simp [conj]) rfl ?_
      simp [conj, less_rfl, ren_val]
  by_cases wa : w = 3 ∨ w = 4 ∨ w = 5
  · rcases wa with rfl | rfl | rfl
    all_goals
      refine goJT hB2 [] 400 rfl (by first | exact conj_nil | simp [conj]) ?_
      obtain ⟨l', hS', _⟩ := q.acc (host := ho) (a := aa) (kind := t) (cur := c) (other := ke)
      have hz' := NZ.acc hz l ho aa t c ke
      have hcc := acc_code s l ho aa t c ke
      have hvl := acc_len q ho aa t c ke
      have hQ := accR_hcx K2 s l q M hM vL vN hR2 ho aa t c ke
      have hP := fun K3 g => acquire_hcx K3 s z g l q.k (by omega) q.n ho aa t c ke
      unfold AccR at hQ
      unfold AccC at hP
      generalize accO s l ho aa t c ke = o at hS' hz' hQ hP hcc hvl
      obtain ⟨cc, vs, s'⟩ := o
      dsimp only at hS' hz' hQ hP hcc hvl
      refine run_callX hQ named hB2 hK2 (fun _ h => h.elim) (.inr fun _ h => h) [] rfl rfl rfl rfl (by first | exact conj_nil | simp [conj]) (by simp [conj, less_rfl]) ?_
      rintro ⟨l3, M3, wL, wN⟩ B3 K3 ⟨hR3, hk3, hM3⟩ hF3 hp3
      have hB3 := hF3.ok
      have hK3 := hF3.le
      have e3 := keys_uniq hS'.k hk3
      subst e3
      refine ⟨show 0 ≤ 1 by omega, _, _, _, rfl, rfl, rfl, ?_⟩
      refine goJT hB3 [] 400 rfl (by first | exact conj_nil | simp [conj]) ?_
      refine run_callX (hP K3 (hN2.fz hF3)) named hB3 hK3 (fun _ h => h.elim) (.inr fun _ h => h) [0, 1, 2] rfl rfl rfl rfl (by first | exact conj_nil | simp [conj]) (by simp [conj, less_rfl, ren_val]) ?_
      rintro z4 B4 K4 hN4 hF4 hp4
      have hB4 := hF4.ok
      have hpin4 := (hpin2.fz hF3 hp3).fz hF4 hp4
      refine ⟨show 3 ≤ 6 by omega, _, _, _, rfl, rfl, rfl, ?_⟩
      refine goJT hB4 [] 400 rfl (by first | exact conj_nil | simp [conj]) ?_
      have hJ4 : JInv K4 (s', l', z4, M3, wL, wN) := ⟨hS', hN4, hR3.fz hF4, hz'⟩
      by_cases hv : vs = []
      · subst hv
        refine run_draw0 mixed (fun u => ?_)
        refine run_drawC (M := modeJ) 1 13 rfl named hB4 sW_ok [(16, ⟨30, [.sq 0 0 0 1 0 .no, .sq 1 0 0 1 0 .no], [], [], 0, .tt, [], 0, []⟩), (20, ⟨16, [stC cc, i64 cc], [], [], 0, .tt, [], 0, []⟩)] ⟨⟨hosts0_hc, rfl, Nat.le_refl _⟩, ⟨code_hc cc hcc.1 hcc.2, rfl, Nat.le_refl _⟩, trivial⟩ rfl rfl rfl rfl rfl rfl (by simp [conj, less_rfl, SO.Live, ren_val]) (fun u => ?_)
        refine run_drawE rfl ?_
        refine goJ hB4 rfl rfl (by first | exact conj_nil | simp [conj]) ?_
        refine run_retF ((hF2.trans0 hF3 hK fun _ h => h.elim).trans0 hF4 hK fun _ h => h.elim) hpin4 (s', l', z4, M3, wL, wN) ⟨hJ4, hM3⟩ [0, 1, 2, 0, 8, 9] rfl rfl (by first | exact conj_nil | simp [conj]) rfl ?_
        simp [conj, less_rfl, ren_val]
      · have hv0 : 0 < vs.length := List.length_pos_iff.2 hv
        have hho := hosts_hc vs (by omega)
        refine run_draw0 mixed (fun u => ?_)
        refine run_drawC (M := modeJ) 1 13 rfl named hB4 sW_ok [(16, ⟨30, [.sq 0 0 0 1 vs.length .no, .sq 1 0 0 1 vs.length .no], [], [(0, .row 0 vs.length vs.length 1 (fnr (lsD vs)) 23), (1, .row 0 vs.length vs.length 1 (fnr (lsD vs)) 23)], 2, .tt, [], 2, [6, 10]⟩), (20, ⟨16, [stC cc, i64 cc], [], [], 0, .tt, [], 0, []⟩)] ⟨⟨hho, rfl, Nat.le_refl _⟩, ⟨code_hc cc hcc.1 hcc.2, rfl, Nat.le_refl _⟩, trivial⟩ rfl rfl rfl rfl rfl rfl (by simp [conj, less_rfl, SO.Live, ren_val, ren_fnr, renR_fnr, hv0]) (fun u => ?_)
        refine run_drawE rfl ?_
        refine goJ hB4 rfl rfl (by first | exact conj_nil | simp [conj]) ?_
        refine run_retF ((hF2.trans0 hF3 hK fun _ h => h.elim).trans0 hF4 hK fun _ h => h.elim) hpin4 (s', l', z4, M3, wL, wN) ⟨hJ4, hM3⟩ [0, 1, 2, 0, 8, 9] rfl rfl (by first | exact conj_nil | simp [conj]) rfl ?_
        simp [conj, less_rfl, ren_val]
  by_cases w6 : w = 6
  · subst w6
    refine goJT hB2 [] 400 rfl (by first | exact conj_nil | simp [conj]) ?_
    obtain ⟨l', hS'⟩ := q.rel ho aa t c
    have hz' := NZ.rel hz l ho aa t c
    have hcc := rel_code s l ho aa t c
    have hQ := relR_hcx K2 s l q M (by omega) vL vN hR2 ho aa t c
    have hP := fun K3 g => rel_hcx K3 s z g l q.k (by omega) q.n ho aa t c
    generalize relO s l ho aa t c = o at hS' hz' hQ hP hcc
    obtain ⟨cc, s'⟩ := o
    refine run_callX hQ named hB2 hK2 (fun _ h => h.elim) (.inr fun _ h => h) [] rfl rfl rfl rfl (by first | exact conj_nil | simp [conj]) (by simp [conj, less_rfl]) ?_
    rintro ⟨l3, M3, wL, wN⟩ B3 K3 ⟨hR3, hk3, hM3⟩ hF3 hp3
    have hB3 := hF3.ok
    have hK3 := hF3.le
    have e3 := keys_uniq hS'.k hk3
    subst e3
    have hP := hP K3 (hN2.fz hF3)
    refine ⟨show 0 ≤ 0 by omega, _, _, _, rfl, rfl, rfl, ?_⟩
    refine goJT hB3 [] 400 rfl (by first | exact conj_nil | simp [conj]) ?_
    refine run_draw0 mixed (fun u => ?_)
    refine run_drawX (M := modeJ) hK3 2 16 rfl named hB3 sW_ok 10 ⟨18, [.ptr 0 0, u64 ho, i64 aa, i64 t, u64 c], hpS s z, [], 3, .und, [], 3, [0, 1, 2]⟩ z hP rfl (fun y => by show 3 ≤ 5; omega) [(19, ⟨16, [stC cc, i64 cc], [], [], 0, .tt, [], 0, []⟩)] ⟨⟨hck_of_hc (code_hc cc hcc.1 hcc.2), rfl, Nat.le_refl _⟩, trivial⟩ rfl rfl (fun y => rfl) rfl (fun y => rfl) rfl rfl rfl (fun y => ?_) (fun y => ?_) ?_
    · repeat' (first | exact trivial | exact Or.inr (Or.inr rfl) | exact Or.inl rfl | exact Or.inr (Or.inl rfl) | apply And.intro)
    · simp [conj, less_rfl, SO.Live, ren_val]
    rintro z4 B4 K4 hN4 hF4 hp4 u
    have hB4 := hF4.ok
    have hpin4 := (hpin2.fz hF3 hp3).fz hF4 hp4
    refine run_drawE rfl ?_
    refine goJ hB4 rfl rfl (by first | exact conj_nil | simp [conj]) ?_
    have hJ4 : JInv K4 (s', l', z4, M3, wL, wN) := ⟨hS', hN4, hR3.fz hF4, hz'⟩
    refine run_retF ((hF2.trans0 hF3 hK fun _ h => h.elim).trans0 hF4 hK fun _ h => h.elim) hpin4 (s', l', z4, M3, wL, wN) ⟨hJ4, hM3⟩ [0, 1, 2, 0, 17, 33] rfl rfl (by first | exact conj_nil | simp [conj]) rfl ?_
    simp [conj, less_rfl, ren_val]
  by_cases w7 : w = 7
  · subst w7
    refine goJT hB2 [(10, 139)] 400 rfl (by first | exact conj_nil | simp [conj]) ?_
    refine goJ hB2 rfl rfl (by first | exact conj_nil | simp [conj]) ?_
    have hP := setP_hc s.T s.H s.G s.p fl z.h z.V s.h s.v
    refine run_draw0 mixed (fun u => ?_)
    refine run_drawC (M := modeJ) 1 11 rfl named hB2 sW_ok [(11, ⟨21, [.ptr 0 0, .sb fl], hpS s z, [], 3, i64 0, [(0, rC0 1 2 s.T s.H s.G fl), (1, nmap z.h z.V), (2, kmap s.h s.v)], 3, [0, 1, 2]⟩), (12, ⟨20, [i64 0], [], [], 0, i64 0, [], 0, []⟩)] ⟨⟨hP, rfl, Nat.le_refl _⟩, ⟨num_hc 0, rfl, Nat.le_refl _⟩, trivial⟩ rfl rfl rfl rfl rfl rfl (by simp [conj, less_rfl, SO.Live, ren_val]) (fun u => ?_)
    refine run_drawE rfl ?_
    refine goJ hB2 rfl rfl (by first | exact conj_nil | simp [conj]) ?_
    have hJ4 : JInv K2 ({ s with p := fl }, l, z, M, vL, vN) := ⟨⟨q.k, q.len, q.kv, q.t0, q.t6, q.g0, q.g1, q.hold, q.all, q.n⟩, hN2, ⟨hR2.L, hR2.N, hR2.n⟩, hz⟩
    refine run_retF hF2 hpin2 ({ s with p := fl }, l, z, M, vL, vN) ⟨hJ4, Nat.le_add_right _ _⟩ [0, 1, 2, 0, 1, 2] rfl rfl (by first | exact conj_nil | simp [conj]) rfl ?_
    simp [conj, less_rfl, ren_val]
  by_cases w9 : w = 9
  · subst w9
    refine goJT hB2 [] 400 rfl (by first | exact conj_nil | simp [conj]) ?_
    have hQ := noticeR_hcx K2 vL vN M (by omega) hR2.N s.T s.H s.G s.p ho
    have htl := take_len M ho
    cases hno : s.N ho with
    | nil =>
      rw [kd_none (hR2.n ▸ hno)] at hQ
      refine run_callX hQ named hB2 hK2 (fun _ h => h.elim) (.inr fun _ h => h) [] rfl rfl rfl rfl (by first | exact conj_nil | simp [conj]) (by simp [conj, less_rfl]) ?_
      rintro wN B3 K3 hwN hF3 hp3
      have hB3 := hF3.ok
      have hK3 := hF3.le
      refine ⟨show 0 ≤ 0 by omega, _, _, _, rfl, rfl, rfl, ?_⟩
      refine goJT hB3 [] 400 rfl (by first | exact conj_nil | simp [conj]) ?_
      refine run_callX (noticeP_none K3 s z (hN2.fz hF3) ho hno) named hB3 hK3 (fun _ h => h.elim) (.inr fun _ h => h) [0, 1, 2] rfl rfl rfl rfl (by first | exact conj_nil | simp [conj]) (by simp [conj, less_rfl, ren_val]) ?_
      rintro ⟨⟩ B4 K4 _ hF4 hp4
      have hB4 := hF4.ok
      have hpin4 := (hpin2.fz hF3 hp3).fz hF4 hp4
      refine ⟨show 3 ≤ 3 by omega, _, _, _, rfl, rfl, rfl, ?_⟩
      refine goJ hB4 rfl rfl (by first | exact conj_nil | simp [conj, isBo4]) ?_
      have hJ4 : JInv K4 (s, l, z, takeM M ho, vL, wN) := ⟨q, (hN2.fz hF3).fz hF4, ⟨((hR2.fz hF3).fz hF4).L, hwN.fz hF4, by rw [take_none_N (hR2.n ▸ hno)]; exact hR2.n⟩, hz⟩
      refine run_retF ((hF2.trans0 hF3 hK fun _ h => h.elim).trans0 hF4 hK fun _ h => h.elim) hpin4 (s, l, z, takeM M ho, vL, wN) ⟨hJ4, by dsimp only; omega⟩ [0, 1, 2, 0, 1, 2] rfl rfl (by first | exact conj_nil | simp [conj]) rfl ?_
      simp [conj, less_rfl, ren_val]
    | cons k r =>
      have hk0 : k ≠ 0 := hz ho k (by rw [hno]; exact List.mem_cons_self)
      rw [kd_some (hR2.n ▸ hno)] at hQ
      refine run_callX hQ named hB2 hK2 (fun _ h => h.elim) (.inr fun _ h => h) [] rfl rfl rfl rfl (by first | exact conj_nil | simp [conj]) (by simp [conj, less_rfl]) ?_
      rintro wN B3 K3 hwN hF3 hp3
      have hB3 := hF3.ok
      have hK3 := hF3.le
      refine ⟨show 0 ≤ 0 by omega, _, _, _, rfl, rfl, rfl, ?_⟩
      refine goJT hB3 [] 400 rfl (by first | exact conj_nil | simp [conj]) ?_
      have hrl : r.length < 1000 := by have := q.n ho; rw [hno] at this; simp at this; omega
      refine run_callX (noticeP_some K3 s z (hN2.fz hF3) ho k r hrl hno) named hB3 hK3 (fun _ h => h.elim) (.inr fun _ h => h) [0, 1, 2] rfl rfl rfl rfl (by first | exact conj_nil | simp [conj]) (by simp [conj, less_rfl, ren_val]) ?_
      rintro z4 B4 K4 hN4 hF4 hp4
      have hB4 := hF4.ok
      have hpin4 := (hpin2.fz hF3 hp3).fz hF4 hp4
      refine ⟨show 3 ≤ 3 by omega, _, _, _, rfl, rfl, rfl, ?_⟩
      refine goJ hB4 rfl rfl (by first | exact conj_nil | simp [conj, isBo4]) ?_
      have hJ4 : JInv K4 ({ s with N := fun b => if b = ho then r else s.N b }, l, z4, takeM M ho, vL, wN) := ⟨q.dropN hno, hN4, ⟨((hR2.fz hF3).fz hF4).L, hwN.fz hF4, by rw [take_some_N (hR2.n ▸ hno), hR2.n]⟩, hz.dropN hno⟩
      refine run_retF ((hF2.trans0 hF3 hK fun _ h => h.elim).trans0 hF4 hK fun _ h => h.elim) hpin4 ({ s with N := fun b => if b = ho then r else s.N b }, l, z4, takeM M ho, vL, wN) ⟨hJ4, by dsimp only; omega⟩ [0, 1, 2, 0, 1, 2] rfl rfl (by first | exact conj_nil | simp [conj]) rfl ?_
      simp [conj, less_rfl, ren_val, hk0]
  by_cases w8 : w = 8
  · subst w8
    refine goJT hB2 [] 400 rfl (by first | exact conj_nil | simp [conj]) ?_
    cases hsp : s.p with
    | true =>
      refine run_callX (hcx_of_hck (M := M0) (powerR_hck K2 vL vN s.T s.H s.G)) named hB2 hK2 (fun _ h => h.elim) (.inr fun _ h => h) [] rfl rfl rfl rfl (by first | exact conj_nil | simp [conj]) (by simp [conj, less_rfl]) ?_
      rintro ⟨⟩ B3 K3 ⟨_, rfl⟩ hF3 hp3
      have hB3 := hF3.ok
      refine ⟨show 0 ≤ 0 by omega, _, _, _, rfl, rfl, rfl, ?_⟩
      refine goJT hB3 [] 400 rfl (by first | exact conj_nil | simp [conj]) ?_
      refine run_callC (powerP_on s.T s.H s.G z.h z.V s.h s.v) named hB3 [0, 1, 2] rfl rfl rfl rfl (by first | exact conj_nil | simp [conj]) (by simp [conj, less_rfl, ren_val]) ?_
      rintro ⟨⟩ _
      refine ⟨show 3 ≤ 4 by omega, _, _, _, rfl, rfl, rfl, ?_⟩
      refine goJ hB3 rfl rfl (by first | exact conj_nil | simp [conj]) ?_
      have hpin3 := hpin2.fz hF3 hp3
      have hF3a := hF2.trans0 hF3 hK fun _ h => h.elim
      refine run_to hpin3 [0, 1, 2, 5, 6, 99] (nx' := 6) (rest' := []) (sl' := [(6, .ptr 0 0), (7, .ptr 3 0), (8, .tt)]) (hp' := [(0, rC0 4 2 s.T s.H s.G true), (2, kmap s.h s.v), (3, .cells [.val vL, i64 s.T, u64 s.H, .int .u32 s.G, .tt, .sq 5 0 0 2 0 .own] 31), (4, nmap (fun _ => false) (fun _ => .slice none 0 0)), (5, .row 0 0 0 2 (mrow []) 116)]) rfl rfl ?_ ?_
      · simp [conj, less_rfl, ren_val]
      refine run_freezeB (L := 5) (off := 0) (sz := 2) (m := 0) (ap := .own) hB3 hF3.le 3 5 rfl rfl rfl rfl (Nat.le_refl _) (fun i j _ hb => closed_mrow _ _ _ hb) rfl (fun _ => rfl) (fun _ => rfl) ?_
      intro w B4 K4 hw hF4 hp4
      have hJ4 : JInv K4 ({ s with N := fun _ => [] }, l, ⟨fun _ => false, fun _ => .slice none 0 0⟩, [], vL, w) := ⟨⟨q.k, q.len, q.kv, q.t0, q.t6, q.g0, q.g1, q.hold, q.all, fun _ => Nat.zero_le _⟩, ⟨fun _ _ => rfl, fun _ => Froz.nil _ _ _⟩, ⟨(hR2.fz hF4).L, hw, rfl⟩, fun _ _ h => nomatch h⟩
      refine run_retF (hF3a.trans0 hF4 hK fun _ h => h.elim) (hpin3.fz hF4 hp4) ({ s with N := fun _ => [] }, l, ⟨fun _ => false, fun _ => .slice none 0 0⟩, [], vL, w) ⟨hJ4, Nat.zero_le _⟩ [0, 1, 2, 0, 4, 2] rfl rfl (by first | exact conj_nil | simp [conj]) rfl ?_
      simp [conj, less_rfl, ren_val, hsp]
    | false =>
      refine run_callX (hcx_of_hck (M := M0) (powerR_off K2 vL vN s.T s.H s.G)) named hB2 hK2 (fun _ h => h.elim) (.inr fun _ h => h) [] rfl rfl rfl rfl (by first | exact conj_nil | simp [conj]) (by simp [conj, less_rfl]) ?_
      rintro ⟨⟩ B3 K3 ⟨_, rfl⟩ hF3 hp3
      have hB3 := hF3.ok
      refine ⟨show 0 ≤ 0 by omega, _, _, _, rfl, rfl, rfl, ?_⟩
      refine goJT hB3 [] 400 rfl (by first | exact conj_nil | simp [conj]) ?_
      refine run_callC (powerP_off s.T s.H s.G z.h z.V s.h s.v) named hB3 [0, 1, 2] rfl rfl rfl rfl (by first | exact conj_nil | simp [conj]) (by simp [conj, less_rfl, ren_val]) ?_
      rintro ⟨⟩ _
      refine ⟨show 3 ≤ 5 by omega, _, _, _, rfl, rfl, rfl, ?_⟩
      refine goJ hB3 rfl rfl (by first | exact conj_nil | simp [conj]) ?_
      have hpin3 := hpin2.fz hF3 hp3
      have hF3a := hF2.trans0 hF3 hK fun _ h => h.elim
      refine run_to hpin3 [0, 1, 2, 5, 6, 7, 98, 99] (nx' := 8) (rest' := []) (sl' := [(6, .ptr 0 0), (7, .ptr 3 0), (8, .tt)]) (hp' := [(0, rC0 4 5 0 0 0 false), (3, .cells [.sq 6 0 0 2 0 .own, i64 0, u64 0, .int .u32 0, .ff, .sq 7 0 0 2 0 .own] 31), (4, nmap (fun _ => false) (fun _ => .slice none 0 0)), (5, kmap (fun _ => false) (fun _ => 0)), (6, .row 0 0 0 2 (prow [] (fun _ => 0)) 116), (7, .row 0 0 0 2 (mrow []) 116)]) rfl rfl ?_ ?_
      · simp [conj, less_rfl, ren_val]
      refine run_freezeB (L := 7) (off := 0) (sz := 2) (m := 0) (ap := .own) hB3 hF3.le 3 5 rfl rfl rfl rfl (Nat.le_refl _) (fun i j _ hb => closed_mrow _ _ _ hb) rfl (fun _ => rfl) (fun _ => rfl) ?_
      intro w B4 K4 hw hF4 hp4
      refine run_freezeB (L := 6) (off := 0) (sz := 2) (m := 0) (ap := .own) hF4.ok hF4.le 3 0 rfl rfl rfl rfl (Nat.le_refl _) (fun i j _ hb => closed_prow _ _ _ _ hb) rfl (fun _ => rfl) (fun _ => rfl) ?_
      intro w0 B5 K5 hw0 hF5 hp5
      have hJ4 : JInv K5 ((⟨fun _ => false, fun _ => 0, 0, 0, 0, false, fun _ => []⟩ : RSt), [], ⟨fun _ => false, fun _ => .slice none 0 0⟩, [], w0, w) := ⟨sinv0, ⟨fun _ _ => rfl, fun _ => Froz.nil _ _ _⟩, ⟨hw0, hw.fz hF5, rfl⟩, fun _ _ h => nomatch h⟩
      refine run_retF ((hF3a.trans0 hF4 hK fun _ h => h.elim).trans0 hF5 hK fun _ h => h.elim) ((hpin3.fz hF4 hp4).fz hF5 hp5) ((⟨fun _ => false, fun _ => 0, 0, 0, 0, false, fun _ => []⟩ : RSt), [], ⟨fun _ => false, fun _ => .slice none 0 0⟩, [], w0, w) ⟨hJ4, Nat.zero_le _⟩ [0, 1, 2, 0, 4, 5] rfl rfl (by first | exact conj_nil | simp [conj]) rfl ?_
      simp [conj, less_rfl, ren_val]
  refine run_ff (by simp; omega) ?_
  refine goJT hB2 [(10, 35)] 400 rfl (by first | exact conj_nil | simp [conj]) ?_
  refine run_ff (by simp; omega) ?_
  refine goJT hB2 [(10, 36)] 400 rfl (by first | exact conj_nil | simp [conj]) ?_
  refine run_ff (by simp; omega) ?_
  refine goJT hB2 [(10, 67)] 400 rfl (by first | exact conj_nil | simp [conj]) ?_
  refine run_ff (by simp; omega) ?_
  refine goJT hB2 [(10, 68)] 400 rfl (by first | exact conj_nil | simp [conj]) ?_
  refine run_ff (by simp; omega) ?_
  refine goJT hB2 [(10, 69)] 400 rfl (by first | exact conj_nil | simp [conj]) ?_
  refine run_ff (by simp; omega) ?_
  refine goJT hB2 [(10, 110)] 400 rfl (by first | exact conj_nil | simp [conj]) ?_
  refine run_ff (by simp; omega) ?_
  refine goJT hB2 [(10, 137)] 400 rfl (by first | exact conj_nil | simp [conj]) ?_
  refine run_ff (by simp; omega) ?_
  refine goJT hB2 [(10, 150)] 400 rfl (by first | exact conj_nil | simp [conj]) ?_
  refine run_ff (by simp; omega) ?_
  refine goJT hB2 [(10, 159)] 400 rfl (by first | exact conj_nil | simp [conj]) ?_
  refine run_ff (by simp; omega) ?_
  refine goJT hB2 [] 400 rfl (by first | exact conj_nil | simp [conj]) ?_
  refine run_draw0 mixed (fun u => ?_)
  refine run_drawC (M := modeJ) 3 6 rfl named hB2 sW_ok [(7, ⟨11, [.ptr 0 0], hpS s z, [], 3, .ptr 3 0, hpS s z ++ [(3, rC0 4 5 s.T s.H s.G s.p), (4, nmap z.h z.V), (5, kmap s.h s.v)], 6, [0, 1, 2]⟩)] ⟨⟨copyP_hc s z, rfl, by show 3 ≤ 6; omega⟩, trivial⟩ rfl rfl rfl rfl rfl rfl (by simp [conj, less_rfl, SO.Live, ren_val]) (fun u => ?_)
  refine run_drawE rfl ?_
  refine goJ hB2 rfl rfl (by first | exact conj_nil | simp [conj]) ?_
  have hJ4 : JInv K2 (s, l, z, M, vL, vN) := ⟨q, hN2, hR2, hz⟩
  refine run_retF hF2 hpin2 (s, l, z, M, vL, vN) ⟨hJ4, Nat.le_add_right _ _⟩ [0, 1, 2, 7, 13, 19] rfl rfl (by first | exact conj_nil | simp [conj]) rfl ?_
  simp [conj, less_rfl, ren_val]
end Sx
end
