/- Texts of this law, joined: what the functions do. Conditions: as each theorem says. -/
import Derived.Test.YtlpbmlfejiaamaaOwnX6
set_option linter.unusedSimpArgs false
set_option linter.unusedVariables false
section
/- The reference of chapter 44: State. Conditions: as each theorem says. -/
namespace Sx
open Go Go.Proofs
set_option maxRecDepth 100000
set_option pp.deepTerms true
set_option pp.maxSteps 10000000
abbrev cfR : List Nat := [70, 71, 72, 73]
def modeR : Mode := { st := true, unr := false, inl := fun f => !hasN f cfR, sum := sumOf sW, keep := fun _ => none }
theorem goR {B : Base} (hB : B.ok) {ro : Hp} {f : FuncId} {R : Ending → World → Prop} {cs0 cs : List Prop} {c c0 c' : Cfg} (h0 : stepD Try.prog modeR ro c = some (cs0, c0)) (h : execG Try.prog modeR ro 400 cs0 c0 = (cs, c')) (hc : conj cs)
    (hr : Run Try.prog ro B f R c') : Run Try.prog ro B f R c := run_go mixed named hB sW_ok 400 h0 h hc hr
theorem goT {B : Base} (hB : B.ok) {ro : Hp} {f : FuncId} {R : Ending → World → Prop} (S : List (Nat × Nat)) (m : Nat) {cs : List Prop} {c c' : Cfg} (h : execY Try.prog modeR ro S m [] c = (cs, c')) (hc : conj cs)
    (hr : Run Try.prog ro B f R c') : Run Try.prog ro B f R c := run_goY mixed named hB sW_ok S m h hc hr
abbrev RG (vL : Value) (now : Int) : SV := .agg [.val vL, i64 now]
theorem stateR_no (K : Kn) (s : GS) (vL : Value) (now g : Int) (ht : ¬ (0 ≤ now ∧ now ≤ 1099511627776)) : HCK Try.prog K 47 [RG vL s.now, i64 now, i64 g] [] [] 0 (fun _ : Unit => True) (fun _ => ⟨.tup [RG vL s.now, i64 0, i64 2], [], 0⟩) := by
  refine hck_of_run Try.func47 rfl (fun B hB hK hpin => ?_)
  refine goR hB rfl rfl (by first | exact conj_nil | simp [conj]) ?_
  refine run_callC (atR_no vL s.now now ht) named hB [] rfl rfl rfl rfl (by first | exact conj_nil | simp [conj]) (by first | exact conj_nil | simp [conj]) ?_
  rintro ⟨⟩ _
  refine ⟨show 0 ≤ 0 by omega, _, _, _, rfl, rfl, rfl, ?_⟩
  refine goR hB rfl rfl (by first | exact conj_nil | simp [conj]) ?_
  refine run_tt rfl ?_
  refine goR hB rfl rfl (by first | exact conj_nil | simp [conj]) ?_
  exact run_retC hpin () trivial [] rfl rfl (by first | exact conj_nil | simp [conj]) rfl (by first | exact conj_nil | simp [conj])
theorem stateR_lo (K : Kn) (s : GS) (vL : Value) (now g : Int) (ht : 0 ≤ now ∧ now ≤ 1099511627776) (hg : g < 1) : HCK Try.prog K 47 [RG vL s.now, i64 now, i64 g] [] [] 0 (fun _ : Unit => True) (fun _ => ⟨.tup [RG vL (max s.now now), i64 0, i64 3], [], 0⟩) := by
  refine hck_of_run Try.func47 rfl (fun B hB hK hpin => ?_)
  refine goR hB rfl rfl (by first | exact conj_nil | simp [conj]) ?_
  refine run_callC (atR_hc vL s.now now ht) named hB [] rfl rfl rfl rfl (by first | exact conj_nil | simp [conj]) (by first | exact conj_nil | simp [conj]) ?_
  rintro ⟨⟩ _
  refine ⟨show 0 ≤ 0 by omega, _, _, _, rfl, rfl, rfl, ?_⟩
  refine goT hB [(47, 22)] 400 rfl (by first | exact conj_nil | simp [conj]) ?_
  refine run_tt (by simpa using hg) ?_
  refine goR hB rfl rfl (by first | exact conj_nil | simp [conj]) ?_
  exact run_retC hpin () trivial [] rfl rfl (by first | exact conj_nil | simp [conj]) rfl (by first | exact conj_nil | simp [conj])
theorem stateR_hi (K : Kn) (s : GS) (hs : GOk s) (l : List Int) (vL : Value) (V : Nat → Value) (hR : ROK K s l vL V) (now g : Int) (ht : 0 ≤ now ∧ now ≤ 1099511627776) (hg : s.n < g) : HCK Try.prog K 47 [RG vL s.now, i64 now, i64 g] [] [] 0 (fun _ : Unit => True) (fun _ => ⟨.tup [RG vL (max s.now now), i64 0, i64 3], [], 0⟩) := by
  have hn0 := hs.n0
  have hG := hR.g
  have hn : (s.n.toNat : Int) = s.n := by omega
  generalize s.n.toNat = n at hG hn
  refine hck_of_run Try.func47 rfl (fun B hB hK hpin => ?_)
  refine goR hB rfl rfl (by first | exact conj_nil | simp [conj]) ?_
  refine run_callC (atR_hc vL s.now now ht) named hB [] rfl rfl rfl rfl (by first | exact conj_nil | simp [conj]) (by first | exact conj_nil | simp [conj]) ?_
  rintro ⟨⟩ _
  refine ⟨show 0 ≤ 0 by omega, _, _, _, rfl, rfl, rfl, ?_⟩
  refine goT hB [(47, 22)] 400 rfl (by first | exact conj_nil | simp [conj]) ?_
  refine run_ff (by simp; omega) ?_
  refine goR hB rfl rfl (by first | exact conj_nil | simp [conj]) ?_
  refine run_open hK 26 hG (by decide) rfl (fun off => ?_)
  refine goR hB rfl rfl (by first | exact conj_nil | simp [conj]) ?_
  refine run_tt (by simp; omega) ?_
  refine goR hB rfl rfl (by first | exact conj_nil | simp [conj]) ?_
  refine run_close (.inl rfl) ?_
  exact run_retC hpin () trivial [] rfl rfl (by first | exact conj_nil | simp [conj]) rfl (by first | exact conj_nil | simp [conj])
def rcSR (vL : Value) (now g r : Int) : RC := ⟨73, [RG vL now, i64 g], [], [], 0, i64 r, [], 0, []⟩
theorem ROK.at {K : Kn} {s : GS} {l : List Int} {vL : Value} {V : Nat → Value} (hR : ROK K s l vL V) (now : Int) : ROK K (gAt s now) l vL V := ⟨hR.g, hR.m⟩
theorem stR_int (K : Kn) (s : GS) (hs : GOk s) (l : List Int) (vL : Value) (V : Nat → Value) (hR : ROK K s l vL V) (g : Int) (hg : 1 ≤ g ∧ g ≤ s.n) : HCK Try.prog K 73 [RG vL s.now, i64 (g - 1)] [] [] 0 (fun _ : Unit => True) (fun _ => ⟨i64 (stO s g), [], 0⟩) := by
  have e : (((g - 1).toNat : Nat) : Int) = g - 1 := by omega
  have := stR_hck K s hs l vL V hR (g - 1).toNat (by omega)
  rw [e, show g - 1 + 1 = g by omega] at this
  exact this
theorem stateR_ok (K : Kn) (s : GS) (hs : GOk s) (l : List Int) (vL : Value) (V : Nat → Value) (hR : ROK K s l vL V) (now g : Int) (ht : 0 ≤ now ∧ now ≤ 1099511627776) (hg : 1 ≤ g ∧ g ≤ s.n) : HCK Try.prog K 47 [RG vL s.now, i64 now, i64 g] [] [] 0 (fun _ : Unit => True) (fun _ => ⟨.tup [RG vL (max s.now now), i64 (stO (gAt s now) g), i64 0], [], 0⟩) := by
  have hn0 := hs.n0
  have hn1 := hs.n1
  have hG := hR.g
  have hst := stR_int K (gAt s now) (hs.at ht) l vL V (hR.at now) g hg
  have hn : (s.n.toNat : Int) = s.n := by omega
  generalize s.n.toNat = n at hG hn
  generalize stO (gAt s now) g = r at hst
  refine hck_of_run Try.func47 rfl (fun B hB hK hpin => ?_)
  refine goR hB rfl rfl (by first | exact conj_nil | simp [conj]) ?_
  refine run_callC (atR_hc vL s.now now ht) named hB [] rfl rfl rfl rfl (by first | exact conj_nil | simp [conj]) (by first | exact conj_nil | simp [conj]) ?_
  rintro ⟨⟩ _
  refine ⟨show 0 ≤ 0 by omega, _, _, _, rfl, rfl, rfl, ?_⟩
  refine goT hB [(47, 22)] 400 rfl (by first | exact conj_nil | simp [conj]) ?_
  refine run_ff (by simp; omega) ?_
  refine goR hB rfl rfl (by first | exact conj_nil | simp [conj]) ?_
  refine run_open hK 26 hG (by decide) rfl (fun off => ?_)
  refine goR hB rfl rfl (by first | exact conj_nil | simp [conj]) ?_
  refine run_ff (by simp; omega) ?_
  refine goR hB rfl rfl (by first | exact conj_nil | simp [conj]) ?_
  refine run_close (.inl rfl) ?_
  refine run_draw0 mixed (fun t => ?_)
  refine run_drawK (M := modeR) (kn := K) hK 1 8 rfl named hB sW_ok [(8, rcSR vL (max s.now now) (g - 1) r)] ⟨⟨hst, rfl, Nat.le_refl _⟩, trivial⟩ rfl rfl rfl rfl rfl rfl ?_ (fun t => ?_)
  · simp [conj, Fits_i64]; omega
  refine run_drawE rfl ?_
  refine goR hB rfl rfl (by first | exact conj_nil | simp [conj]) ?_
  exact run_retC hpin () trivial [] rfl rfl (by first | exact conj_nil | simp [conj]) rfl (by first | exact conj_nil | simp [conj])
end Sx
end
section
/- The reference of chapter 44: Change. Conditions: as each theorem says. -/
namespace Sx
open Go Go.Proofs
set_option maxRecDepth 100000
set_option pp.deepTerms true
set_option pp.maxSteps 10000000
theorem Froz.one {K : Kn} {v : Value} {n sz : Nat} {f : Nat → Nat → SV} (h : Froz K v n sz f) : v.oneCell' = true := by
  obtain ⟨base, room, e, _⟩ := h; rw [e]; rfl
theorem rrow_gSet (s : GS) (V : Nat → Value) (now g to dur : Int) (a b : Nat) (hb : b < 4) : rrow (gSet (gAt s now) g to dur) V a b
    = rrow { s with to := fun a => if a = (g - 1).toNat then to else s.to a, fr := fun a => if a = (g - 1).toNat then max s.now now + dur else s.fr a, ch := fun a => if a = (g - 1).toNat then IntKind.u64.wrap (s.ch (g - 1).toNat + 1) else s.ch a } (fun a => if a = (g - 1).toNat then V (g - 1).toNat else V a) a b := by
  match b, hb with
  | 0, _ => rfl
  | 1, _ => rfl
  | 2, _ => by_cases h : a = (g - 1).toNat
            · subst h; rfl
            · simp only [rrow, if_neg h]
  | 3, _ => by_cases h : a = (g - 1).toNat
            · subst h; simp only [rrow, if_true]
            · simp only [rrow, if_neg h]
theorem changeR_ok (K : Kn) (s : GS) (hs : GOk s) (l : List Int) (vL : Value) (V : Nat → Value) (hR : ROK K s l vL V) (now g to dur : Int) (hk : 1 ≤ to ∧ to ≤ 4) (hd : 0 ≤ dur ∧ dur ≤ 65536) (ht : 0 ≤ now ∧ now ≤ 1099511627776) (hg : 1 ≤ g ∧ g ≤ s.n) (hst : stO (gAt s now) g ≠ 4) :
    HCX Try.prog K M0 46 [RG vL s.now, i64 now, i64 g, i64 to, i64 dur] [] [] 0 (fun vL' K' => ROK K' (gSet (gAt s now) g to dur) l vL' V) (fun vL' => ⟨.tup [RG vL' (max s.now now), i64 0], [], 0⟩) := by
  have hn0 := hs.n0
  have hn1 := hs.n1
  have ht0 := (hs.at ht).t0
  have q0 := hs.t0
  have q1 := hs.t1
  have ht1 := (hs.at ht).t1
  have hG := hR.g
  have hS := stR_int K (gAt s now) (hs.at ht) l vL V (hR.at now) g hg
  have hn : (s.n.toNat : Int) = s.n := by omega
  generalize hnn : s.n.toNat = n at hG hn
  generalize stO (gAt s now) g = r at hS hst
  refine hcx_of_run Try.func46 rfl (fun B hB hK hpin => ?_)
  have hF0 : Fz B K M0 B K := .refl hB hK
  refine goT hB [(46, 16)] 400 rfl (by first | exact conj_nil | simp [conj]) ?_
  refine run_ff (by simp; omega) ?_
  refine goT hB [(46, 19)] 400 rfl (by first | exact conj_nil | simp [conj]) ?_
  refine run_ff (by simp; omega) ?_
  refine goT hB [(46, 23)] 400 rfl (by first | exact conj_nil | simp [conj]) ?_
  refine run_ff (by simp; omega) ?_
  refine goT hB [(46, 27)] 400 rfl (by first | exact conj_nil | simp [conj]) ?_
  refine run_ff (by simp; omega) ?_
  refine goR hB rfl rfl (by first | exact conj_nil | simp [conj]) ?_
  refine run_callC (atR_hc vL s.now now ht) named hB [] rfl rfl rfl rfl (by first | exact conj_nil | simp [conj]) (by first | exact conj_nil | simp [conj]) ?_
  rintro ⟨⟩ _
  refine ⟨show 0 ≤ 0 by omega, _, _, _, rfl, rfl, rfl, ?_⟩
  refine goT hB [(46, 41)] 400 rfl (by first | exact conj_nil | simp [conj]) ?_
  refine run_ff (by simp; omega) ?_
  refine goR hB rfl rfl (by first | exact conj_nil | simp [conj]) ?_
  refine run_open hK 45 hG (by decide) rfl (fun off => ?_)
  refine goR hB rfl rfl (by first | exact conj_nil | simp [conj]) ?_
  refine run_ff (by simp; omega) ?_
  refine goR hB rfl rfl (by simp [conj, Fits_i64]; omega) ?_
  refine run_close (.inl rfl) ?_
  refine run_callX (hcx_of_hck (M := M0) hS) named hB hK (fun _ h => h.elim) (.inr fun _ h => h) [] rfl rfl rfl rfl (by first | exact conj_nil | simp [conj]) (by first | exact conj_nil | simp [conj]) ?_
  rintro ⟨⟩ B2 K2 ⟨_, rfl⟩ hF2 hp2
  have hB2 := hF2.ok
  refine ⟨show 0 ≤ 0 by omega, _, _, _, rfl, rfl, rfl, ?_⟩
  refine goT hB2 [(46, 54)] 400 rfl (by first | exact conj_nil | simp [conj]) ?_
  refine run_ff (by simpa using hst) ?_
  refine goR hB2 rfl rfl (by simp [conj, Fits_i64]; omega) ?_
  refine run_open hF2.le 57 hG (by decide) rfl (fun off2 => ?_)
  refine goR hB2 rfl rfl (by simp [conj, Fits_i64]; omega) ?_
  refine run_close (.inl rfl) ?_
  have hset := setR_hcx K2 s vL V n (by omega) hG (max s.now now) to (max s.now now + dur) (IntKind.u64.wrap (s.ch (g - 1).toNat + 1)) (V (g - 1).toNat) (hR.m (g - 1).toNat (by omega)).one (g - 1).toNat (by omega)
  have eg : (((g - 1).toNat : Nat) : Int) = g - 1 := by omega
  rw [eg] at hset
  refine run_callX hset named hB2 hF2.le (fun _ h => h.elim) (.inr fun _ h => h) [] rfl rfl rfl rfl (by first | exact conj_nil | simp [conj]) (by simp [conj]) ?_
  rintro vL' B3 K3 hv3 hF3 hp3
  have hB3 := hF3.ok
  refine ⟨show 0 ≤ 0 by omega, _, _, _, rfl, rfl, rfl, ?_⟩
  refine goR hB3 rfl rfl (by first | exact conj_nil | simp [conj]) ?_
  have hfin : ROK K3 (gSet (gAt s now) g to dur) l vL' V := by
    refine ⟨?_, fun j hj => (hR.m j hj).mono fun b o e => hF3.old b o e (fun h => h)⟩
    show Froz K3 vL' s.n.toNat 4 _
    rw [hnn]
    exact hv3.congr fun a b _ hb => rrow_gSet s V now g to dur a b hb
  refine run_retF (hF2.trans0 hF3 hK fun _ h => h.elim) ((hpin.fz hF2 hp2).fz hF3 hp3) vL' hfin [] rfl rfl (by first | exact conj_nil | simp [conj]) rfl ?_
  simp [conj]
end Sx
end
section
/- The reference of chapter 44: Change, the arms that change nothing but the time. Conditions: as each theorem says. -/
namespace Sx
open Go Go.Proofs
set_option maxRecDepth 100000
set_option pp.deepTerms true
set_option pp.maxSteps 10000000
theorem changeR_tl (K : Kn) (s : GS) (hs : GOk s) (l : List Int) (vL : Value) (V : Nat → Value) (hR : ROK K s l vL V) (now g to dur : Int) (hk : to < 1) : HCK Try.prog K 46 [RG vL s.now, i64 now, i64 g, i64 to, i64 dur] [] [] 0 (fun _ : Unit => True) (fun _ => ⟨.tup [RG vL s.now, i64 2], [], 0⟩) := by
  have hn0 := hs.n0
  have hG := hR.g
  have hn : (s.n.toNat : Int) = s.n := by omega
  generalize s.n.toNat = n at hG hn
  refine hck_of_run Try.func46 rfl (fun B hB hK hpin => ?_)
  refine goT hB [(46, 16)] 400 rfl (by first | exact conj_nil | simp [conj]) ?_
  refine run_tt (by simp; omega) ?_
  refine goR hB rfl rfl (by first | exact conj_nil | simp [conj]) ?_
  exact run_retC hpin () trivial [] rfl rfl (by first | exact conj_nil | simp [conj]) rfl (by first | exact conj_nil | simp [conj])
theorem changeR_th (K : Kn) (s : GS) (hs : GOk s) (l : List Int) (vL : Value) (V : Nat → Value) (hR : ROK K s l vL V) (now g to dur : Int) (hk : 4 < to) : HCK Try.prog K 46 [RG vL s.now, i64 now, i64 g, i64 to, i64 dur] [] [] 0 (fun _ : Unit => True) (fun _ => ⟨.tup [RG vL s.now, i64 2], [], 0⟩) := by
  have hn0 := hs.n0
  have hG := hR.g
  have hn : (s.n.toNat : Int) = s.n := by omega
  generalize s.n.toNat = n at hG hn
  refine hck_of_run Try.func46 rfl (fun B hB hK hpin => ?_)
  refine goT hB [(46, 16)] 400 rfl (by first | exact conj_nil | simp [conj]) ?_
  refine run_ff (by simp; omega) ?_
  refine goT hB [(46, 19)] 400 rfl (by first | exact conj_nil | simp [conj]) ?_
  refine run_tt (by simp; omega) ?_
  refine goR hB rfl rfl (by first | exact conj_nil | simp [conj]) ?_
  exact run_retC hpin () trivial [] rfl rfl (by first | exact conj_nil | simp [conj]) rfl (by first | exact conj_nil | simp [conj])
theorem changeR_dl (K : Kn) (s : GS) (hs : GOk s) (l : List Int) (vL : Value) (V : Nat → Value) (hR : ROK K s l vL V) (now g to dur : Int) (hk : 1 ≤ to ∧ to ≤ 4) (hd : dur < 0) : HCK Try.prog K 46 [RG vL s.now, i64 now, i64 g, i64 to, i64 dur] [] [] 0 (fun _ : Unit => True) (fun _ => ⟨.tup [RG vL s.now, i64 2], [], 0⟩) := by
  have hn0 := hs.n0
  have hG := hR.g
  have hn : (s.n.toNat : Int) = s.n := by omega
  generalize s.n.toNat = n at hG hn
  refine hck_of_run Try.func46 rfl (fun B hB hK hpin => ?_)
  refine goT hB [(46, 16)] 400 rfl (by first | exact conj_nil | simp [conj]) ?_
  refine run_ff (by simp; omega) ?_
  refine goT hB [(46, 19)] 400 rfl (by first | exact conj_nil | simp [conj]) ?_
  refine run_ff (by simp; omega) ?_
  refine goT hB [(46, 23)] 400 rfl (by first | exact conj_nil | simp [conj]) ?_
  refine run_tt (by simp; omega) ?_
  refine goR hB rfl rfl (by first | exact conj_nil | simp [conj]) ?_
  exact run_retC hpin () trivial [] rfl rfl (by first | exact conj_nil | simp [conj]) rfl (by first | exact conj_nil | simp [conj])
theorem changeR_dh (K : Kn) (s : GS) (hs : GOk s) (l : List Int) (vL : Value) (V : Nat → Value) (hR : ROK K s l vL V) (now g to dur : Int) (hk : 1 ≤ to ∧ to ≤ 4) (hd : 65536 < dur) : HCK Try.prog K 46 [RG vL s.now, i64 now, i64 g, i64 to, i64 dur] [] [] 0 (fun _ : Unit => True) (fun _ => ⟨.tup [RG vL s.now, i64 2], [], 0⟩) := by
  have hn0 := hs.n0
  have hG := hR.g
  have hn : (s.n.toNat : Int) = s.n := by omega
  generalize s.n.toNat = n at hG hn
  refine hck_of_run Try.func46 rfl (fun B hB hK hpin => ?_)
  refine goT hB [(46, 16)] 400 rfl (by first | exact conj_nil | simp [conj]) ?_
  refine run_ff (by simp; omega) ?_
  refine goT hB [(46, 19)] 400 rfl (by first | exact conj_nil | simp [conj]) ?_
  refine run_ff (by simp; omega) ?_
  refine goT hB [(46, 23)] 400 rfl (by first | exact conj_nil | simp [conj]) ?_
  refine run_ff (by simp; omega) ?_
  refine goT hB [(46, 27)] 400 rfl (by first | exact conj_nil | simp [conj]) ?_
  refine run_tt (by simp; omega) ?_
  refine goR hB rfl rfl (by first | exact conj_nil | simp [conj]) ?_
  exact run_retC hpin () trivial [] rfl rfl (by first | exact conj_nil | simp [conj]) rfl (by first | exact conj_nil | simp [conj])
theorem changeR_no (K : Kn) (s : GS) (hs : GOk s) (l : List Int) (vL : Value) (V : Nat → Value) (hR : ROK K s l vL V) (now g to dur : Int) (hk : 1 ≤ to ∧ to ≤ 4) (hd : 0 ≤ dur ∧ dur ≤ 65536) (ht : ¬ (0 ≤ now ∧ now ≤ 1099511627776)) : HCK Try.prog K 46 [RG vL s.now, i64 now, i64 g, i64 to, i64 dur] [] [] 0 (fun _ : Unit => True) (fun _ => ⟨.tup [RG vL s.now, i64 2], [], 0⟩) := by
  have hn0 := hs.n0
  have hG := hR.g
  have hn : (s.n.toNat : Int) = s.n := by omega
  generalize s.n.toNat = n at hG hn
  refine hck_of_run Try.func46 rfl (fun B hB hK hpin => ?_)
  refine goT hB [(46, 16)] 400 rfl (by first | exact conj_nil | simp [conj]) ?_
  refine run_ff (by simp; omega) ?_
  refine goT hB [(46, 19)] 400 rfl (by first | exact conj_nil | simp [conj]) ?_
  refine run_ff (by simp; omega) ?_
  refine goT hB [(46, 23)] 400 rfl (by first | exact conj_nil | simp [conj]) ?_
  refine run_ff (by simp; omega) ?_
  refine goT hB [(46, 27)] 400 rfl (by first | exact conj_nil | simp [conj]) ?_
  refine run_ff (by simp; omega) ?_
  refine goR hB rfl rfl (by first | exact conj_nil | simp [conj]) ?_
  refine run_callC (atR_no vL s.now now ht) named hB [] rfl rfl rfl rfl (by first | exact conj_nil | simp [conj]) (by first | exact conj_nil | simp [conj]) ?_
  rintro ⟨⟩ _
  refine ⟨show 0 ≤ 0 by omega, _, _, _, rfl, rfl, rfl, ?_⟩
  refine goR hB rfl rfl (by first | exact conj_nil | simp [conj]) ?_
  refine run_tt rfl ?_
  refine goR hB rfl rfl (by first | exact conj_nil | simp [conj]) ?_
  exact run_retC hpin () trivial [] rfl rfl (by first | exact conj_nil | simp [conj]) rfl (by first | exact conj_nil | simp [conj])
theorem changeR_lo (K : Kn) (s : GS) (hs : GOk s) (l : List Int) (vL : Value) (V : Nat → Value) (hR : ROK K s l vL V) (now g to dur : Int) (hk : 1 ≤ to ∧ to ≤ 4) (hd : 0 ≤ dur ∧ dur ≤ 65536) (ht : 0 ≤ now ∧ now ≤ 1099511627776) (hg : g < 1) : HCK Try.prog K 46 [RG vL s.now, i64 now, i64 g, i64 to, i64 dur] [] [] 0 (fun _ : Unit => True) (fun _ => ⟨.tup [RG vL (max s.now now), i64 3], [], 0⟩) := by
  have hn0 := hs.n0
  have hG := hR.g
  have hn : (s.n.toNat : Int) = s.n := by omega
  generalize s.n.toNat = n at hG hn
  refine hck_of_run Try.func46 rfl (fun B hB hK hpin => ?_)
  refine goT hB [(46, 16)] 400 rfl (by first | exact conj_nil | simp [conj]) ?_
  refine run_ff (by simp; omega) ?_
  refine goT hB [(46, 19)] 400 rfl (by first | exact conj_nil | simp [conj]) ?_
  refine run_ff (by simp; omega) ?_
  refine goT hB [(46, 23)] 400 rfl (by first | exact conj_nil | simp [conj]) ?_
  refine run_ff (by simp; omega) ?_
  refine goT hB [(46, 27)] 400 rfl (by first | exact conj_nil | simp [conj]) ?_
  refine run_ff (by simp; omega) ?_
  refine goR hB rfl rfl (by first | exact conj_nil | simp [conj]) ?_
  refine run_callC (atR_hc vL s.now now ht) named hB [] rfl rfl rfl rfl (by first | exact conj_nil | simp [conj]) (by first | exact conj_nil | simp [conj]) ?_
  rintro ⟨⟩ _
  refine ⟨show 0 ≤ 0 by omega, _, _, _, rfl, rfl, rfl, ?_⟩
  refine goT hB [(46, 41)] 400 rfl (by first | exact conj_nil | simp [conj]) ?_
  refine run_tt (by simp; omega) ?_
  refine goR hB rfl rfl (by first | exact conj_nil | simp [conj]) ?_
  exact run_retC hpin () trivial [] rfl rfl (by first | exact conj_nil | simp [conj]) rfl (by first | exact conj_nil | simp [conj])
theorem changeR_hi (K : Kn) (s : GS) (hs : GOk s) (l : List Int) (vL : Value) (V : Nat → Value) (hR : ROK K s l vL V) (now g to dur : Int) (hk : 1 ≤ to ∧ to ≤ 4) (hd : 0 ≤ dur ∧ dur ≤ 65536) (ht : 0 ≤ now ∧ now ≤ 1099511627776) (hg : s.n < g) : HCK Try.prog K 46 [RG vL s.now, i64 now, i64 g, i64 to, i64 dur] [] [] 0 (fun _ : Unit => True) (fun _ => ⟨.tup [RG vL (max s.now now), i64 3], [], 0⟩) := by
  have hn0 := hs.n0
  have hG := hR.g
  have hn : (s.n.toNat : Int) = s.n := by omega
  generalize s.n.toNat = n at hG hn
  refine hck_of_run Try.func46 rfl (fun B hB hK hpin => ?_)
  refine goT hB [(46, 16)] 400 rfl (by first | exact conj_nil | simp [conj]) ?_
  refine run_ff (by simp; omega) ?_
  refine goT hB [(46, 19)] 400 rfl (by first | exact conj_nil | simp [conj]) ?_
  refine run_ff (by simp; omega) ?_
  refine goT hB [(46, 23)] 400 rfl (by first | exact conj_nil | simp [conj]) ?_
  refine run_ff (by simp; omega) ?_
  refine goT hB [(46, 27)] 400 rfl (by first | exact conj_nil | simp [conj]) ?_
  refine run_ff (by simp; omega) ?_
  refine goR hB rfl rfl (by first | exact conj_nil | simp [conj]) ?_
  refine run_callC (atR_hc vL s.now now ht) named hB [] rfl rfl rfl rfl (by first | exact conj_nil | simp [conj]) (by first | exact conj_nil | simp [conj]) ?_
  rintro ⟨⟩ _
  refine ⟨show 0 ≤ 0 by omega, _, _, _, rfl, rfl, rfl, ?_⟩
  refine goT hB [(46, 41)] 400 rfl (by first | exact conj_nil | simp [conj]) ?_
  refine run_ff (by simp; omega) ?_
  refine goR hB rfl rfl (by first | exact conj_nil | simp [conj]) ?_
  refine run_open hK 45 hG (by decide) rfl (fun off => ?_)
  refine goR hB rfl rfl (by first | exact conj_nil | simp [conj]) ?_
  refine run_tt (by simp; omega) ?_
  refine goR hB rfl rfl (by first | exact conj_nil | simp [conj]) ?_
  refine run_close (.inl rfl) ?_
  exact run_retC hpin () trivial [] rfl rfl (by first | exact conj_nil | simp [conj]) rfl (by first | exact conj_nil | simp [conj])
theorem changeR_lost (K : Kn) (s : GS) (hs : GOk s) (l : List Int) (vL : Value) (V : Nat → Value) (hR : ROK K s l vL V) (now g to dur : Int) (hk : 1 ≤ to ∧ to ≤ 4) (hd : 0 ≤ dur ∧ dur ≤ 65536) (ht : 0 ≤ now ∧ now ≤ 1099511627776) (hg : 1 ≤ g ∧ g ≤ s.n) (hst : stO (gAt s now) g = 4) : HCX Try.prog K M0 46 [RG vL s.now, i64 now, i64 g, i64 to, i64 dur] [] [] 0 (fun (_ : Unit) K' => K' = K) (fun _ => ⟨.tup [RG vL (max s.now now), i64 8], [], 0⟩) := by
  have hn0 := hs.n0
  have hn1 := hs.n1
  have hG := hR.g
  have hS := stR_int K (gAt s now) (hs.at ht) l vL V (hR.at now) g hg
  have hn : (s.n.toNat : Int) = s.n := by omega
  generalize s.n.toNat = n at hG hn
  generalize stO (gAt s now) g = r at hS hst
  subst hst
  refine hcx_of_run Try.func46 rfl (fun B hB hK hpin => ?_)
  refine goT hB [(46, 16)] 400 rfl (by first | exact conj_nil | simp [conj]) ?_
  refine run_ff (by simp; omega) ?_
  refine goT hB [(46, 19)] 400 rfl (by first | exact conj_nil | simp [conj]) ?_
  refine run_ff (by simp; omega) ?_
  refine goT hB [(46, 23)] 400 rfl (by first | exact conj_nil | simp [conj]) ?_
  refine run_ff (by simp; omega) ?_
  refine goT hB [(46, 27)] 400 rfl (by first | exact conj_nil | simp [conj]) ?_
  refine run_ff (by simp; omega) ?_
  refine goR hB rfl rfl (by first | exact conj_nil | simp [conj]) ?_
  refine run_callC (atR_hc vL s.now now ht) named hB [] rfl rfl rfl rfl (by first | exact conj_nil | simp [conj]) (by first | exact conj_nil | simp [conj]) ?_
  rintro ⟨⟩ _
  refine ⟨show 0 ≤ 0 by omega, _, _, _, rfl, rfl, rfl, ?_⟩
  refine goT hB [(46, 41)] 400 rfl (by first | exact conj_nil | simp [conj]) ?_
  refine run_ff (by simp; omega) ?_
  refine goR hB rfl rfl (by first | exact conj_nil | simp [conj]) ?_
  refine run_open hK 45 hG (by decide) rfl (fun off => ?_)
  refine goR hB rfl rfl (by first | exact conj_nil | simp [conj]) ?_
  refine run_ff (by simp; omega) ?_
  refine goR hB rfl rfl (by simp [conj, Fits_i64]; omega) ?_
  refine run_close (.inl rfl) ?_
  refine run_callX (hcx_of_hck (M := M0) hS) named hB hK (fun _ h => h.elim) (.inr fun _ h => h) [] rfl rfl rfl rfl (by first | exact conj_nil | simp [conj]) (by first | exact conj_nil | simp [conj]) ?_
  rintro ⟨⟩ B2 K2 ⟨_, rfl⟩ hF2 hp2
  have hB2 := hF2.ok
  refine ⟨show 0 ≤ 0 by omega, _, _, _, rfl, rfl, rfl, ?_⟩
  refine goR hB2 rfl rfl (by first | exact conj_nil | simp [conj]) ?_
  refine run_tt rfl ?_
  refine goR hB2 rfl rfl (by first | exact conj_nil | simp [conj]) ?_
  exact run_retF hF2 (hpin.fz hF2 hp2) () rfl [] rfl rfl (by first | exact conj_nil | simp [conj]) rfl (by first | exact conj_nil | simp [conj])
end Sx
end
section
/- The reference of chapter 44: Group. Conditions: as each theorem says. -/
namespace Sx
open Go Go.Proofs
set_option maxRecDepth 100000
set_option pp.deepTerms true
set_option pp.maxSteps 10000000
theorem NameR_pure (n : Int) (h0 : 0 ≤ n ∧ n ≤ 4294967295) : Pure Try.prog 64 [.int .u32 n] (.sb (nameOk n)) := by
  refine pure_of_run Try.func64 rfl (fun w' => ?_)
  refine goU (Base.all_ok _) (sumOk_nil _) rfl rfl (by simp [conj]) ?_
  refine fin rfl (by simp [conj]) rfl ?_
  simp only [nameOk]
  congr 1
  by_cases h1 : n = 0 <;> by_cases h2 : n = 4294967295 <;> simp [h1, h2] <;> omega
def FNameR : List SV → Option (List Prop × SV)
  | [.int .u32 n] => some ([0 ≤ n ∧ n ≤ 4294967295], .sb (nameOk n))
  | _ => none
theorem FNameR_ok : PureOk Try.prog 64 FNameR := by
  intro xs cs r h hc
  unfold FNameR at h
  split at h <;> first | exact (none_ne h).elim | skip
  simp only [Option.some.injEq, Prod.mk.injEq] at h; obtain ⟨rfl, rfl⟩ := h
  exact ⟨rfl, NameR_pure _ (hc _ (List.mem_singleton.2 rfl))⟩
def sN : SumL := [(64, FNameR)]
theorem sN_ok : SumOk Try.prog (sumOf sN) := sumOk_cons FNameR_ok (sumOk_nil _)
def modeN : Mode := { st := true, unr := false, inl := fun f => !hasN f cfR, sum := sumOf sN, keep := fun _ => none }
theorem goN {B : Base} (hB : B.ok) {ro : Hp} {f : FuncId} {R : Ending → World → Prop} {cs0 cs : List Prop} {c c0 c' : Cfg} (h0 : stepD Try.prog modeN ro c = some (cs0, c0)) (h : execG Try.prog modeN ro 400 cs0 c0 = (cs, c')) (hc : conj cs)
    (hr : Run Try.prog ro B f R c') : Run Try.prog ro B f R c := run_go mixed named hB sN_ok 400 h0 h hc hr
abbrev grO (s : GS) (nm : Int) : Int × Int := if nameOk nm = false then (0, 2) else if grp s nm = 0 then (0, 9) else (grp s nm, 0)
theorem groupR_hcx (K : Kn) (s : GS) (hs : GOk s) (l : List Int) (hk : KeysOf s.h l) (hl : l.length < 129) (vL : Value) (V : Nat → Value) (hR : ROK K s l vL V) (nm : Int) (h0 : 0 ≤ nm ∧ nm ≤ 4294967295) :
    HCX Try.prog K M0 45 [RG vL s.now, u32 nm] [] [] 0 (fun (_ : Unit) K' => K' = K) (fun _ => ⟨.tup [i64 (grO s nm).1, i64 (grO s nm).2], [], 0⟩) := by
  have hF := findR_hck K s hs l hk hl vL V hR nm
  refine hcx_of_run Try.func45 rfl (fun B hB hK hpin => ?_)
  have hF0 : Fz B K M0 B K := .refl hB hK
  unfold grO
  refine goN hB rfl rfl (by simp [conj]; omega) ?_
  by_cases hq : nameOk nm = false
  · rw [if_pos hq]
    refine run_tt (by simpa using hq) ?_
    refine goN hB rfl rfl (by first | exact conj_nil | simp [conj]) ?_
    exact run_retF hF0 hpin () rfl [] rfl rfl (by first | exact conj_nil | simp [conj]) rfl (by first | exact conj_nil | simp [conj])
  · rw [if_neg hq]
    refine run_ff (by simpa using hq) ?_
    refine goN hB rfl rfl (by first | exact conj_nil | simp [conj]) ?_
    refine run_callX (hcx_of_hck (M := M0) hF) named hB hK (fun _ h => h.elim) (.inr fun _ h => h) [] rfl rfl rfl rfl (by first | exact conj_nil | simp [conj]) (by first | exact conj_nil | simp [conj]) ?_
    rintro ⟨⟩ B2 K2 ⟨_, rfl⟩ hF2 hp2
    have hB2 := hF2.ok
    refine ⟨show 0 ≤ 0 by omega, _, _, _, rfl, rfl, rfl, ?_⟩
    generalize grp s nm = r
    refine goN hB2 rfl rfl (by first | exact conj_nil | simp [conj]) ?_
    by_cases hr : r = 0
    · rw [if_pos hr]
      refine run_tt (by simpa using hr) ?_
      refine goN hB2 rfl rfl (by first | exact conj_nil | simp [conj]) ?_
      exact run_retF hF2 (hpin.fz hF2 hp2) () rfl [] rfl rfl (by first | exact conj_nil | simp [conj]) rfl (by first | exact conj_nil | simp [conj])
    · rw [if_neg hr]
      refine run_ff (by simpa using hr) ?_
      refine goN hB2 rfl rfl (by first | exact conj_nil | simp [conj]) ?_
      exact run_retF hF2 (hpin.fz hF2 hp2) () rfl [] rfl rfl (by first | exact conj_nil | simp [conj]) rfl (by first | exact conj_nil | simp [conj])
end Sx
end
section
/- The reference of chapter 44: Status. Conditions: as each theorem says. -/
namespace Sx
open Go Go.Proofs
set_option maxRecDepth 100000
set_option pp.deepTerms true
set_option pp.maxSteps 10000000
theorem statusR_name (K : Kn) (s : GS) (hs : GOk s) (l : List Int) (hk : KeysOf s.h l) (hl : l.length < 129) (vL : Value) (V : Nat → Value) (hR : ROK K s l vL V) (now nm : Int) (h0 : 0 ≤ nm ∧ nm ≤ 4294967295) (ht : 0 ≤ now ∧ now ≤ 1099511627776) (hq : nameOk nm = false) :
    HCX Try.prog K M0 48 [RG vL s.now, i64 now, u32 nm] [] [] 0 (fun (_ : Unit) K' => K' = K) (fun _ => ⟨.tup [RG vL s.now, stS 0 0 .ff, i64 2], [], 0⟩) := by
  have hF := findR_hck K s hs l hk hl vL V hR nm
  have hF0 : ∀ B : Base, B.ok → (∀ b o, K b = some o → B.D b = some o) → Fz B K M0 B K := fun B hB hK => .refl hB hK
  refine hcx_of_run Try.func48 rfl (fun B hB hK hpin => ?_)
  refine goN hB rfl rfl (by first | exact conj_nil | simp [conj]) ?_
  refine run_callC (atR_hc vL s.now now ht) named hB [] rfl rfl rfl rfl (by first | exact conj_nil | simp [conj]) (by first | exact conj_nil | simp [conj]) ?_
  rintro ⟨⟩ _
  refine ⟨show 0 ≤ 0 by omega, _, _, _, rfl, rfl, rfl, ?_⟩
  refine goN hB rfl rfl (by simp [conj]; omega) ?_
  refine run_tt (by simpa using hq) ?_
  refine goN hB rfl rfl (by first | exact conj_nil | simp [conj]) ?_
  exact run_retF (hF0 B hB hK) (hpin) () rfl [] rfl rfl (by first | exact conj_nil | simp [conj]) rfl (by first | exact conj_nil | simp [conj])
theorem statusR_none (K : Kn) (s : GS) (hs : GOk s) (l : List Int) (hk : KeysOf s.h l) (hl : l.length < 129) (vL : Value) (V : Nat → Value) (hR : ROK K s l vL V) (now nm : Int) (h0 : 0 ≤ nm ∧ nm ≤ 4294967295) (ht : 0 ≤ now ∧ now ≤ 1099511627776) (hq : nameOk nm = true) (hg : grp s nm = 0) :
    HCX Try.prog K M0 48 [RG vL s.now, i64 now, u32 nm] [] [] 0 (fun (_ : Unit) K' => K' = K) (fun _ => ⟨.tup [RG vL (max s.now now), stS 0 11 .tt, i64 0], [], 0⟩) := by
  have hF := findR_hck K s hs l hk hl vL V hR nm
  have hF0 : ∀ B : Base, B.ok → (∀ b o, K b = some o → B.D b = some o) → Fz B K M0 B K := fun B hB hK => .refl hB hK
  rw [hg] at hF
  refine hcx_of_run Try.func48 rfl (fun B hB hK hpin => ?_)
  refine goN hB rfl rfl (by first | exact conj_nil | simp [conj]) ?_
  refine run_callC (atR_hc vL s.now now ht) named hB [] rfl rfl rfl rfl (by first | exact conj_nil | simp [conj]) (by first | exact conj_nil | simp [conj]) ?_
  rintro ⟨⟩ _
  refine ⟨show 0 ≤ 0 by omega, _, _, _, rfl, rfl, rfl, ?_⟩
  refine goN hB rfl rfl (by simp [conj]; omega) ?_
  refine run_ff (by simpa using hq) ?_
  refine goN hB rfl rfl (by first | exact conj_nil | simp [conj]) ?_
  refine run_callX (hcx_of_hck (M := M0) hF) named hB hK (fun _ h => h.elim) (.inr fun _ h => h) [] rfl rfl rfl rfl (by first | exact conj_nil | simp [conj]) (by first | exact conj_nil | simp [conj]) ?_
  rintro ⟨⟩ B2 K2 ⟨_, rfl⟩ hF2 hp2
  have hB2 := hF2.ok
  refine ⟨show 0 ≤ 0 by omega, _, _, _, rfl, rfl, rfl, ?_⟩
  refine goN hB2 rfl rfl (by first | exact conj_nil | simp [conj]) ?_
  refine run_tt rfl ?_
  refine goN hB2 rfl rfl (by first | exact conj_nil | simp [conj]) ?_
  exact run_retF hF2 (hpin.fz hF2 hp2) () rfl [] rfl rfl (by first | exact conj_nil | simp [conj]) rfl (by first | exact conj_nil | simp [conj])
theorem statusR_un (K : Kn) (s : GS) (hs : GOk s) (l : List Int) (hk : KeysOf s.h l) (hl : l.length < 129) (vL : Value) (V : Nat → Value) (hR : ROK K s l vL V) (now nm : Int) (h0 : 0 ≤ nm ∧ nm ≤ 4294967295) (ht : 0 ≤ now ∧ now ≤ 1099511627776) (hq : nameOk nm = true) (hr : 1 ≤ grp s nm ∧ grp s nm ≤ s.n) (hn1 : s.n ≤ 128) (hst : stO (gAt s now) (grp s nm) = 3) :
    HCX Try.prog K M0 48 [RG vL s.now, i64 now, u32 nm] [] [] 0 (fun (_ : Unit) K' => K' = K) (fun _ => ⟨.tup [RG vL (max s.now now), stS 3 2 .ff, i64 0], [], 0⟩) := by
  have hF := findR_hck K s hs l hk hl vL V hR nm
  have hF0 : ∀ B : Base, B.ok → (∀ b o, K b = some o → B.D b = some o) → Fz B K M0 B K := fun B hB hK => .refl hB hK
  have hS := stR_int K (gAt s now) (hs.at ht) l vL V (hR.at now) (grp s nm) hr
  rw [hst] at hS
  generalize grp s nm = r at hF hS hr
  refine hcx_of_run Try.func48 rfl (fun B hB hK hpin => ?_)
  refine goN hB rfl rfl (by first | exact conj_nil | simp [conj]) ?_
  refine run_callC (atR_hc vL s.now now ht) named hB [] rfl rfl rfl rfl (by first | exact conj_nil | simp [conj]) (by first | exact conj_nil | simp [conj]) ?_
  rintro ⟨⟩ _
  refine ⟨show 0 ≤ 0 by omega, _, _, _, rfl, rfl, rfl, ?_⟩
  refine goN hB rfl rfl (by simp [conj]; omega) ?_
  refine run_ff (by simpa using hq) ?_
  refine goN hB rfl rfl (by first | exact conj_nil | simp [conj]) ?_
  refine run_callX (hcx_of_hck (M := M0) hF) named hB hK (fun _ h => h.elim) (.inr fun _ h => h) [] rfl rfl rfl rfl (by first | exact conj_nil | simp [conj]) (by first | exact conj_nil | simp [conj]) ?_
  rintro ⟨⟩ B2 K2 ⟨_, rfl⟩ hF2 hp2
  have hB2 := hF2.ok
  refine ⟨show 0 ≤ 0 by omega, _, _, _, rfl, rfl, rfl, ?_⟩
  refine goN hB2 rfl rfl (by first | exact conj_nil | simp [conj]) ?_
  refine run_ff (by simp; omega) ?_
  refine goN hB2 rfl rfl (by simp [conj, Fits_i64]; omega) ?_
  refine run_callX (hcx_of_hck (M := M0) hS) named hB2 hF2.le (fun _ h => h.elim) (.inr fun _ h => h) [] rfl rfl rfl rfl (by first | exact conj_nil | simp [conj]) (by first | exact conj_nil | simp [conj]) ?_
  rintro ⟨⟩ B3 K3 ⟨_, e3⟩ hF3 hp3
  have hB3 := hF3.ok
  refine ⟨show 0 ≤ 0 by omega, _, _, _, rfl, rfl, rfl, ?_⟩
  subst e3
  refine goN hB3 rfl rfl (by first | exact conj_nil | simp [conj]) ?_
  refine run_tt rfl ?_
  refine goN hB3 rfl rfl (by first | exact conj_nil | simp [conj]) ?_
  exact run_retF (hF2.trans0 hF3 hK fun _ h => h.elim) ((hpin.fz hF2 hp2).fz hF3 hp3) () rfl [] rfl rfl (by first | exact conj_nil | simp [conj]) rfl (by first | exact conj_nil | simp [conj])
theorem statusR_lost (K : Kn) (s : GS) (hs : GOk s) (l : List Int) (hk : KeysOf s.h l) (hl : l.length < 129) (vL : Value) (V : Nat → Value) (hR : ROK K s l vL V) (now nm : Int) (h0 : 0 ≤ nm ∧ nm ≤ 4294967295) (ht : 0 ≤ now ∧ now ≤ 1099511627776) (hq : nameOk nm = true) (hr : 1 ≤ grp s nm ∧ grp s nm ≤ s.n) (hn1 : s.n ≤ 128) (hst : stO (gAt s now) (grp s nm) = 4) :
    HCX Try.prog K M0 48 [RG vL s.now, i64 now, u32 nm] [] [] 0 (fun (_ : Unit) K' => K' = K) (fun _ => ⟨.tup [RG vL (max s.now now), stS 3 1 .ff, i64 0], [], 0⟩) := by
  have hF := findR_hck K s hs l hk hl vL V hR nm
  have hF0 : ∀ B : Base, B.ok → (∀ b o, K b = some o → B.D b = some o) → Fz B K M0 B K := fun B hB hK => .refl hB hK
  have hS := stR_int K (gAt s now) (hs.at ht) l vL V (hR.at now) (grp s nm) hr
  rw [hst] at hS
  generalize grp s nm = r at hF hS hr
  refine hcx_of_run Try.func48 rfl (fun B hB hK hpin => ?_)
  refine goN hB rfl rfl (by first | exact conj_nil | simp [conj]) ?_
  refine run_callC (atR_hc vL s.now now ht) named hB [] rfl rfl rfl rfl (by first | exact conj_nil | simp [conj]) (by first | exact conj_nil | simp [conj]) ?_
  rintro ⟨⟩ _
  refine ⟨show 0 ≤ 0 by omega, _, _, _, rfl, rfl, rfl, ?_⟩
  refine goN hB rfl rfl (by simp [conj]; omega) ?_
  refine run_ff (by simpa using hq) ?_
  refine goN hB rfl rfl (by first | exact conj_nil | simp [conj]) ?_
  refine run_callX (hcx_of_hck (M := M0) hF) named hB hK (fun _ h => h.elim) (.inr fun _ h => h) [] rfl rfl rfl rfl (by first | exact conj_nil | simp [conj]) (by first | exact conj_nil | simp [conj]) ?_
  rintro ⟨⟩ B2 K2 ⟨_, rfl⟩ hF2 hp2
  have hB2 := hF2.ok
  refine ⟨show 0 ≤ 0 by omega, _, _, _, rfl, rfl, rfl, ?_⟩
  refine goN hB2 rfl rfl (by first | exact conj_nil | simp [conj]) ?_
  refine run_ff (by simp; omega) ?_
  refine goN hB2 rfl rfl (by simp [conj, Fits_i64]; omega) ?_
  refine run_callX (hcx_of_hck (M := M0) hS) named hB2 hF2.le (fun _ h => h.elim) (.inr fun _ h => h) [] rfl rfl rfl rfl (by first | exact conj_nil | simp [conj]) (by first | exact conj_nil | simp [conj]) ?_
  rintro ⟨⟩ B3 K3 ⟨_, e3⟩ hF3 hp3
  have hB3 := hF3.ok
  refine ⟨show 0 ≤ 0 by omega, _, _, _, rfl, rfl, rfl, ?_⟩
  subst e3
  refine goN hB3 rfl rfl (by first | exact conj_nil | simp [conj]) ?_
  refine run_ff rfl ?_
  refine goN hB3 rfl rfl (by first | exact conj_nil | simp [conj]) ?_
  refine run_tt rfl ?_
  refine goN hB3 rfl rfl (by first | exact conj_nil | simp [conj]) ?_
  exact run_retF (hF2.trans0 hF3 hK fun _ h => h.elim) ((hpin.fz hF2 hp2).fz hF3 hp3) () rfl [] rfl rfl (by first | exact conj_nil | simp [conj]) rfl (by first | exact conj_nil | simp [conj])
theorem statusR_chg (K : Kn) (s : GS) (hs : GOk s) (l : List Int) (hk : KeysOf s.h l) (hl : l.length < 129) (vL : Value) (V : Nat → Value) (hR : ROK K s l vL V) (now nm : Int) (h0 : 0 ≤ nm ∧ nm ≤ 4294967295) (ht : 0 ≤ now ∧ now ≤ 1099511627776) (hq : nameOk nm = true) (hr : 1 ≤ grp s nm ∧ grp s nm ≤ s.n) (hn1 : s.n ≤ 128) (hst : stO (gAt s now) (grp s nm) = 15) :
    HCX Try.prog K M0 48 [RG vL s.now, i64 now, u32 nm] [] [] 0 (fun (_ : Unit) K' => K' = K) (fun _ => ⟨.tup [RG vL (max s.now now), stS 3 3 .ff, i64 0], [], 0⟩) := by
  have hF := findR_hck K s hs l hk hl vL V hR nm
  have hF0 : ∀ B : Base, B.ok → (∀ b o, K b = some o → B.D b = some o) → Fz B K M0 B K := fun B hB hK => .refl hB hK
  have hS := stR_int K (gAt s now) (hs.at ht) l vL V (hR.at now) (grp s nm) hr
  rw [hst] at hS
  generalize grp s nm = r at hF hS hr
  refine hcx_of_run Try.func48 rfl (fun B hB hK hpin => ?_)
  refine goN hB rfl rfl (by first | exact conj_nil | simp [conj]) ?_
  refine run_callC (atR_hc vL s.now now ht) named hB [] rfl rfl rfl rfl (by first | exact conj_nil | simp [conj]) (by first | exact conj_nil | simp [conj]) ?_
  rintro ⟨⟩ _
  refine ⟨show 0 ≤ 0 by omega, _, _, _, rfl, rfl, rfl, ?_⟩
  refine goN hB rfl rfl (by simp [conj]; omega) ?_
  refine run_ff (by simpa using hq) ?_
  refine goN hB rfl rfl (by first | exact conj_nil | simp [conj]) ?_
  refine run_callX (hcx_of_hck (M := M0) hF) named hB hK (fun _ h => h.elim) (.inr fun _ h => h) [] rfl rfl rfl rfl (by first | exact conj_nil | simp [conj]) (by first | exact conj_nil | simp [conj]) ?_
  rintro ⟨⟩ B2 K2 ⟨_, rfl⟩ hF2 hp2
  have hB2 := hF2.ok
  refine ⟨show 0 ≤ 0 by omega, _, _, _, rfl, rfl, rfl, ?_⟩
  refine goN hB2 rfl rfl (by first | exact conj_nil | simp [conj]) ?_
  refine run_ff (by simp; omega) ?_
  refine goN hB2 rfl rfl (by simp [conj, Fits_i64]; omega) ?_
  refine run_callX (hcx_of_hck (M := M0) hS) named hB2 hF2.le (fun _ h => h.elim) (.inr fun _ h => h) [] rfl rfl rfl rfl (by first | exact conj_nil | simp [conj]) (by first | exact conj_nil | simp [conj]) ?_
  rintro ⟨⟩ B3 K3 ⟨_, e3⟩ hF3 hp3
  have hB3 := hF3.ok
  refine ⟨show 0 ≤ 0 by omega, _, _, _, rfl, rfl, rfl, ?_⟩
  subst e3
  refine goN hB3 rfl rfl (by first | exact conj_nil | simp [conj]) ?_
  refine run_ff rfl ?_
  refine goN hB3 rfl rfl (by first | exact conj_nil | simp [conj]) ?_
  refine run_ff rfl ?_
  refine goN hB3 rfl rfl (by first | exact conj_nil | simp [conj]) ?_
  refine run_tt rfl ?_
  refine goN hB3 rfl rfl (by first | exact conj_nil | simp [conj]) ?_
  exact run_retF (hF2.trans0 hF3 hK fun _ h => h.elim) ((hpin.fz hF2 hp2).fz hF3 hp3) () rfl [] rfl rfl (by first | exact conj_nil | simp [conj]) rfl (by first | exact conj_nil | simp [conj])
theorem statusR_ok (K : Kn) (s : GS) (hs : GOk s) (l : List Int) (hk : KeysOf s.h l) (hl : l.length < 129) (vL : Value) (V : Nat → Value) (hR : ROK K s l vL V) (now nm : Int) (h0 : 0 ≤ nm ∧ nm ≤ 4294967295) (ht : 0 ≤ now ∧ now ≤ 1099511627776) (hq : nameOk nm = true) (hr : 1 ≤ grp s nm ∧ grp s nm ≤ s.n) (hn1 : s.n ≤ 128) (h3 : stO (gAt s now) (grp s nm) ≠ 3) (h4 : stO (gAt s now) (grp s nm) ≠ 4) (h5 : stO (gAt s now) (grp s nm) ≠ 15) :
    HCX Try.prog K M0 48 [RG vL s.now, i64 now, u32 nm] [] [] 0 (fun (_ : Unit) K' => K' = K) (fun _ => ⟨.tup [RG vL (max s.now now), stS 0 0 .ff, i64 0], [], 0⟩) := by
  have hF := findR_hck K s hs l hk hl vL V hR nm
  have hF0 : ∀ B : Base, B.ok → (∀ b o, K b = some o → B.D b = some o) → Fz B K M0 B K := fun B hB hK => .refl hB hK
  have hS := stR_int K (gAt s now) (hs.at ht) l vL V (hR.at now) (grp s nm) hr
  generalize stO (gAt s now) (grp s nm) = st at hS h3 h4 h5
  generalize grp s nm = r at hF hS hr
  refine hcx_of_run Try.func48 rfl (fun B hB hK hpin => ?_)
  refine goN hB rfl rfl (by first | exact conj_nil | simp [conj]) ?_
  refine run_callC (atR_hc vL s.now now ht) named hB [] rfl rfl rfl rfl (by first | exact conj_nil | simp [conj]) (by first | exact conj_nil | simp [conj]) ?_
  rintro ⟨⟩ _
  refine ⟨show 0 ≤ 0 by omega, _, _, _, rfl, rfl, rfl, ?_⟩
  refine goN hB rfl rfl (by simp [conj]; omega) ?_
  refine run_ff (by simpa using hq) ?_
  refine goN hB rfl rfl (by first | exact conj_nil | simp [conj]) ?_
  refine run_callX (hcx_of_hck (M := M0) hF) named hB hK (fun _ h => h.elim) (.inr fun _ h => h) [] rfl rfl rfl rfl (by first | exact conj_nil | simp [conj]) (by first | exact conj_nil | simp [conj]) ?_
  rintro ⟨⟩ B2 K2 ⟨_, rfl⟩ hF2 hp2
  have hB2 := hF2.ok
  refine ⟨show 0 ≤ 0 by omega, _, _, _, rfl, rfl, rfl, ?_⟩
  refine goN hB2 rfl rfl (by first | exact conj_nil | simp [conj]) ?_
  refine run_ff (by simp; omega) ?_
  refine goN hB2 rfl rfl (by simp [conj, Fits_i64]; omega) ?_
  refine run_callX (hcx_of_hck (M := M0) hS) named hB2 hF2.le (fun _ h => h.elim) (.inr fun _ h => h) [] rfl rfl rfl rfl (by first | exact conj_nil | simp [conj]) (by first | exact conj_nil | simp [conj]) ?_
  rintro ⟨⟩ B3 K3 ⟨_, e3⟩ hF3 hp3
  have hB3 := hF3.ok
  refine ⟨show 0 ≤ 0 by omega, _, _, _, rfl, rfl, rfl, ?_⟩
  subst e3
  refine goN hB3 rfl rfl (by first | exact conj_nil | simp [conj]) ?_
  refine run_ff (by simpa using h3) ?_
  refine goN hB3 rfl rfl (by first | exact conj_nil | simp [conj]) ?_
  refine run_ff (by simpa using h4) ?_
  refine goN hB3 rfl rfl (by first | exact conj_nil | simp [conj]) ?_
  refine run_ff (by simpa using h5) ?_
  refine goN hB3 rfl rfl (by first | exact conj_nil | simp [conj]) ?_
  exact run_retF (hF2.trans0 hF3 hK fun _ h => h.elim) ((hpin.fz hF2 hp2).fz hF3 hp3) () rfl [] rfl rfl (by first | exact conj_nil | simp [conj]) rfl (by first | exact conj_nil | simp [conj])
theorem statusR_time (K : Kn) (s : GS) (hs : GOk s) (l : List Int) (hk : KeysOf s.h l) (hl : l.length < 129) (vL : Value) (V : Nat → Value) (hR : ROK K s l vL V) (now nm : Int) (h0 : 0 ≤ nm ∧ nm ≤ 4294967295) (ht : ¬ (0 ≤ now ∧ now ≤ 1099511627776))  :
    HCX Try.prog K M0 48 [RG vL s.now, i64 now, u32 nm] [] [] 0 (fun (_ : Unit) K' => K' = K) (fun _ => ⟨.tup [RG vL s.now, stS 0 0 .ff, i64 2], [], 0⟩) := by
  have hF := findR_hck K s hs l hk hl vL V hR nm
  have hF0 : ∀ B : Base, B.ok → (∀ b o, K b = some o → B.D b = some o) → Fz B K M0 B K := fun B hB hK => .refl hB hK
  refine hcx_of_run Try.func48 rfl (fun B hB hK hpin => ?_)
  refine goN hB rfl rfl (by first | exact conj_nil | simp [conj]) ?_
  refine run_callC (atR_no vL s.now now ht) named hB [] rfl rfl rfl rfl (by first | exact conj_nil | simp [conj]) (by first | exact conj_nil | simp [conj]) ?_
  rintro ⟨⟩ _
  refine ⟨show 0 ≤ 0 by omega, _, _, _, rfl, rfl, rfl, ?_⟩
  refine goN hB rfl rfl (by first | exact conj_nil | simp [conj]) ?_
  refine run_tt rfl ?_
  refine goN hB rfl rfl (by first | exact conj_nil | simp [conj]) ?_
  exact run_retF (hF0 B hB hK) (hpin) () rfl [] rfl rfl (by first | exact conj_nil | simp [conj]) rfl (by first | exact conj_nil | simp [conj])
end Sx
end
