/- Texts of this law, joined: what the functions do. Conditions: as each theorem says. -/
import Derived.Test.YtmnlmghchegjaaaOwnX3
import Derived.Test.YtmnlmghchegjaaaOwnX1
import Derived.Test.YtmnlmghchegjaaaEngX4
import Derived.Test.YtmnlmghchegjaaaEngX5
set_option linter.unusedSimpArgs false
set_option linter.unusedVariables false
section
/- slices.Sort and slices.Sorted(maps.Keys(m)) at keys of at most 128. Conditions: as each theorem says. -/
namespace Sx
open Go Go.Proofs
set_option maxRecDepth 100000
def lsD (l : List Int) : Dt := fun i => l.getD i 0
theorem lsD_map (l : List Int) : (List.range l.length).map (lsD l) = l := by
  refine List.ext_getElem (by simp) fun i h1 h2 => ?_
  simp [lsD, h2]
theorem lsD_inj {l : List Int} (h : l.Nodup) : Inj 0 l.length (lsD l) := fun i j _ hi _ hj he => by
  have e1 : lsD l i = l[i] := by simp [lsD, hi]
  have e2 : lsD l j = l[j] := by simp [lsD, hj]
  rw [e1, e2] at he
  exact (List.getElem_inj h).1 he
theorem rowL_lsD (l : List Int) (i : Nat) : rowL .u64 l i 0 = fnr (lsD l) i 0 := rfl
abbrev mSort (l : List Int) : List Int := l.mergeSort fun x y => decide (x ≤ y)
theorem srt_merge {l : List Int} {e : Dt} (hs : SW 0 l.length (lsD l) e) (hg : Srt 0 l.length e) : (List.range l.length).map e = mSort l := by
  have hp : ((List.range l.length).map e).Perm l := by
    have := hs.perm (Nat.le_refl l.length)
    rwa [lsD_map] at this
  refine List.Perm.eq_of_pairwise (le := fun a b : Int => a ≤ b) (fun a b _ _ h1 h2 => by omega) ?_ ?_ (hp.trans (List.mergeSort_perm _ _).symm)
  · rw [List.pairwise_map]
    refine List.pairwise_lt_range.imp_of_mem fun {i j} hi hj hij => ?_
    exact hg i j (Nat.zero_le _) hij (List.mem_range.1 hj)
  · have := List.pairwise_mergeSort (le := fun x y : Int => decide (x ≤ y)) (by intro a b c h1 h2; simp at h1 h2 ⊢; omega) (by intro a b; simp; omega) l
    exact this.imp fun {a b} h => by simpa using h
theorem sortN_hc (l : List Int) (cap : Nat) (hnd : l.Nodup) (hl : l.length < 129) :
    HC Try.prog 85 [.sq 0 0 0 1 l.length .no] [(0, .row 0 l.length cap 1 (rowL .u64 l) 23)] [] 1 (fun _ : Unit => True) (fun _ => ⟨.tup [], [(0, .row 0 l.length cap 1 (rowL .u64 (mSort l)) 23)], 1⟩) := by
  refine hc_of_run Try.func85 rfl (fun B hB hpin => ?_)
  refine goS hB rfl rfl (by simp [conj]) ?_
  have hw : IntKind.u64.wrap (l.length : Int) = l.length := by rw [wrapU]; omega
  rw [hw]
  refine run_callC (len_hc l.length hl) named hB [] rfl rfl rfl rfl (by simp [conj]) (by simp [conj]) ?_
  rintro k ⟨k1, k2, k3⟩
  refine ⟨show 0 ≤ 0 by omega, _, _, _, rfl, rfl, rfl, ?_⟩
  refine run_callC (pdq_hc l.length cap hl (l.length + 1) 0 l.length k (lsD l) (by omega) (Nat.zero_le _) (Nat.le_refl _) (by omega) (lsD_inj hnd) (fun h => absurd h (Nat.lt_irrefl 0))) named hB [0] rfl rfl rfl rfl (by simp [conj]) (by
    simp [conj, less_rfl, ren_fnr]
    exact fun i _ => Less.of (rowL_lsD l i).symm) ?_
  rintro e ⟨e1, e2⟩
  refine ⟨show 1 ≤ 1 by omega, _, _, _, rfl, rfl, rfl, ?_⟩
  have hm := srt_merge e1 e2
  refine goS hB rfl rfl (by simp [conj]) ?_
  refine run_endC hpin () trivial [0] rfl rfl (by simp [conj]) rfl ?_
  simp [conj, less_rfl, ren_rowL, renR_fnr]
  intro i hi
  refine Less.of ?_
  rw [rowL_lsD]
  simp only [fnr]
  have : lsD (mSort l) i = e i := by
    unfold lsD
    rw [← hm]
    simp [hi]
  rw [this]
theorem sortedN_hc (h : Int → Bool) (v : Int → Int) (l : List Int) (hk : KeysOf h l) (hl : l.length < 129) :
    HC Try.prog 81 [.clo (.func 86) [] [.ptr 0 0]] [(0, .cells [.mp 1] 44), (1, .map .u64 h (.ints .u64 v))] [] 2 (fun _ : Unit => True)
      (fun _ => ⟨.sq 2 0 0 1 l.length .own, [(0, .cells [.mp 1] 44), (1, .map .u64 h (.ints .u64 v)), (2, .row 0 l.length l.length 1 (rowL .u64 l) 23)], 3⟩) := by
  refine hc_of_run Try.func81 rfl (fun B hB hpin => ?_)
  refine goK hB rfl rfl (by simp [conj]) ?_
  refine run_callC (collect_hc h v l hk (by omega)) named hB [0, 1] rfl rfl rfl rfl (by simp [conj]) (by simp [conj, less_rfl]) ?_
  rintro zs ⟨hN, hM⟩
  have hp := perm_of hk hN hM
  have hn : zs.length = l.length := hp.length_eq
  have he : mSort zs = l := by
    refine List.Perm.eq_of_pairwise (le := fun a b : Int => a ≤ b) (fun a b _ _ h1 h2 => by omega) ?_ (hk.1.imp fun {a b} h => by omega) ((List.mergeSort_perm _ _).trans hp)
    have := List.pairwise_mergeSort (le := fun x y : Int => decide (x ≤ y)) (by intro a b c h1 h2; simp at h1 h2 ⊢; omega) (by intro a b; simp; omega) zs
    exact this.imp fun {a b} h => by simpa using h
  refine ⟨show 2 ≤ 3 by omega, _, _, _, rfl, rfl, rfl, ?_⟩
  refine goK hB rfl rfl (by simp [conj]) ?_
  refine run_callC (sortN_hc zs zs.length hN (by omega)) named hB [2] rfl rfl rfl rfl (by simp [conj]) (by simp [conj, less_rfl, ren_rowL, renR_rowL]) ?_
  rintro ⟨⟩ _
  refine ⟨show 1 ≤ 1 by omega, _, _, _, rfl, rfl, rfl, ?_⟩
  rw [he, hn]
  refine goK hB rfl rfl (by simp [conj]) ?_
  exact run_retC hpin () trivial [0, 1, 2] rfl rfl (by simp [conj]) rfl (by simp [conj, less_rfl, ren_rowL, renR_rowL])
end Sx
end
section
/- wire.Put and wire.Get, put and get of package reserve. Conditions: as each theorem says. -/
namespace Sx
open Go Go.Proofs
set_option maxRecDepth 100000
def modeB : Mode := { st := true, unr := false, inl := fun f => !hasN f [37, 38, 81, 87, 85, 24, 26, 53, 55, 57, 58, 59, 60, 73, 78, 79, 80, 83], sum := sumOf [], keep := fun _ => none }
def byteOf (v : Int) (i : Nat) : Int := v / 2 ^ (8 * i) % 256
def byR (v : Int) : Nat → Nat → SV := fun i _ => .int .u8 (byteOf v i)
/-- The first k bytes, then zeros. -/
def byTo (v : Int) (k : Nat) : Nat → Nat → SV := fun i _ => .int .u8 (if i < k then byteOf v i else 0)
/-- A row of bytes. -/
def byt (g : Nat → Int) : Nat → Nat → SV := fun i _ => .int .u8 (g i)
def cpyI (g : Nat → Int) (s n : Nat) (v : Int) : Nat → Int := fun i => if s ≤ i ∧ i < s + n then byteOf v (i - s) else g i
end Sx
end
section
/- valid of package reserve. Conditions: as each theorem says. -/
namespace Sx
open Go Go.Proofs
set_option maxRecDepth 100000
abbrev Reg := Int × Int × Bool
def regD (R : List Reg) (i : Nat) : Reg := R.getD i (0, 0, false)
/-- Registrations. -/
def regR (R : List Reg) : Nat → Nat → SV := fun i k => match k with
  | 0 => u64 (regD R i).1
  | 1 => u64 (regD R i).2.1
  | _ => .sb (regD R i).2.2
abbrev repL (G T : Int) (p : Bool) (r n : Nat) (ap : Ap) (off : Nat := 0) : List SV := [.int .u32 G, i64 T, .sb p, .sq r off 0 3 n ap]
abbrev rep (G T : Int) (p : Bool) (r n : Nat) (ap : Ap) (off : Nat := 0) : SV := .agg (repL G T p r n ap off)
def lastR (R : List Reg) (i : Nat) : Int := match i with
  | 0 => 0
  | j + 1 => (regD R j).1
def cntH (R : List Reg) (i : Nat) : Nat := (List.range i).countP fun j => (regD R j).2.2
/-- A report is valid. -/
structure VOk (T : Int) (R : List Reg) : Prop where
  up : ∀ i, i < R.length → lastR R i < (regD R i).1 ∧ (regD R i).2.1 ≠ 0
  len : R.length ≤ 128
  t0 : 0 ≤ T
  t6 : T ≤ 6
  all : 5 ≤ T → 0 < R.length ∧ cntH R R.length = R.length
  one : T < 5 → (cntH R R.length : Int) = min 1 T
end Sx
end
section
/- encode of package reserve. Conditions: as each theorem says. -/
namespace Sx
open Go Go.Proofs
set_option maxRecDepth 100000
def flagI (b : Bool) : Int := if b = true then 1 else 0
def rcFlag (b : Bool) : RC := ⟨79, [.sb b], [], [], 0, .int .u8 (flagI b), [], 0, []⟩
def hdI (G T : Int) (p : Bool) (n : Nat) (i : Nat) : Int := if i < 4 then byteOf G i else if i = 4 then T % 256 else if i = 9 then flagI p else if 5 ≤ i ∧ i < 7 then byteOf n (i - 5) else 0
def entI (x : Reg) (b : Nat) : Int := if b < 2 then 255 else if b = 2 then flagI x.2.2 else if 8 ≤ b ∧ b < 16 then byteOf x.1 (b - 8) else if 16 ≤ b then byteOf x.2.1 (b - 16) else 0
/-- The encoding's bytes. -/
def encI (G T : Int) (p : Bool) (R : List Reg) (i : Nat) : Int := if i < 24 then hdI G T p R.length i else entI (regD R (i / 24 - 1)) (i % 24)
def encTo (G T : Int) (p : Bool) (R : List Reg) (k : Nat) (i : Nat) : Int := if i < 24 * (1 + k) then encI G T p R i else 0
/-- A report in range. -/
structure ROk (G T : Int) (R : List Reg) : Prop where
  g0 : 0 ≤ G
  g1 : G < 4294967296
  len : R.length < 65536
  k : ∀ i, i < R.length → 0 ≤ (regD R i).1 ∧ (regD R i).1 < 18446744073709551616 ∧ 0 ≤ (regD R i).2.1 ∧ (regD R i).2.1 < 18446744073709551616
def sbI (g : Nat → Int) (j : Nat) (x : Int) : Nat → Int := fun i => if i = j then x else g i
end Sx
end
section
/- slices.Equal on bytes, Decode of an encoding. Conditions: as each theorem says. -/
namespace Sx
open Go Go.Proofs
set_option maxRecDepth 100000
def rcGet (g : Nat → Int) (N cap s n : Nat) (v : Int) : RC := ⟨59, [.sq 0 0 s 1 n .no], [], [(0, .row 0 N cap 1 (byt g) anyTy)], 1, u64 v, [], 1, [0]⟩
def rcG (g : Nat → Int) (N cap s n : Nat) (v : Int) : RC := rcGet g N cap s n v
end Sx
end
section
/- others and Report at a reservation that nobody holds. Conditions: as each theorem says. -/
namespace Sx
open Go Go.Proofs
set_option maxRecDepth 100000
def modeR : Mode := { st := true, unr := false, inl := fun f => !hasN f [37, 38, 81, 87, 85, 53], sum := sumOf [], keep := fun _ => none }
def rcH0 (h : Int → Bool) (v : Int → Int) (a : Int) (i j : Nat) : RC := ⟨55, [.ptr 0 0, u64 a], [], [(0, .cells [.und, .mp 1, i64 0, .und, .und, .und] 46), (1, .map .u64 h (.ints .u64 v))], 2, .ff, [], 2, [i, j]⟩
abbrev regL (v : Int → Int) (l : List Int) : List Reg := l.map fun a => (a, v a, false)
theorem lsD_mem (l : List Int) (i : Nat) (hi : i < l.length) : lsD l i ∈ l := by
  have e1 : lsD l i = l[i] := by simp [lsD, hi]
  rw [e1]; exact List.getElem_mem hi
end Sx
end
section
/- Package reserve: the notices. Conditions: as each theorem says. -/
namespace Sx
open Go Go.Proofs
set_option maxRecDepth 100000
set_option pp.deepTerms true
set_option pp.maxSteps 10000000
/-- Kinds of notices. -/
def kdr (l : List Int) : Nat → Nat → SV := fun i _ => .int .i64 (lsD l i)
theorem ren_kdr (nx : Nat) (sg : List Nat) (l : List Int) (i k : Nat) : ren nx sg (kdr l i k) = kdr l i k := by simp only [kdr, ren, renF, id]
theorem renR_kdr (nx : Nat) (sg : List Nat) (l : List Int) : renR nx sg (kdr l) = kdr l := by funext i k; exact ren_kdr nx sg l i k
abbrev nmap (h : Int → Bool) (V : Int → Value) : SO := .map .u64 h (.vals V)
/-- The notices: V's slices hold the queues N. -/
structure NOK (K : Kn) (h : Int → Bool) (V : Int → Value) (N : Int → List Int) : Prop where
  z : ∀ a, h a = false → V a = .slice none 0 0
  f : ∀ a, Froz K (V a) (N a).length 1 (kdr (N a))
theorem NOK.mono {K K' : Kn} {h : Int → Bool} {V : Int → Value} {N : Int → List Int} (q : NOK K h V N) (g : ∀ b o, K b = some o → K' b = some o) : NOK K' h V N := ⟨q.z, fun a => (q.f a).mono g⟩
theorem NOK.fz {B B' : Base} {K K' : Kn} {h : Int → Bool} {V : Int → Value} {N : Int → List Int} (q : NOK K h V N) (g : Fz B K M0 B' K') : NOK K' h V N := q.mono fun b o e => g.old b o e (fun h => h)
theorem NOK.v {K : Kn} {h : Int → Bool} {V : Int → Value} {N : Int → List Int} (q : NOK K h V N) (a : Int) : (bif h a then V a else .slice none 0 0) = V a := by
  cases ha : h a with
  | true => rfl
  | false => exact (q.z a ha).symm
structure NSt where
  h : Int → Bool
  V : Int → Value
/-- A notice more for a host. -/
def add1 (N : Int → List Int) (k : Int) (x : Int) : Int → List Int := fun a => bif ieq a x && Nat.blt (N a).length 16 then N a ++ [k] else N a
def addL (N : Int → List Int) (k : Int) (l : List Int) : Int → List Int := l.foldl (fun N x => add1 N k x) N
theorem addL_take (N : Int → List Int) (k : Int) (l : List Int) (i : Nat) (hi : i < l.length) : addL N k (l.take (i + 1)) = add1 (addL N k (l.take i)) k (lsD l i) := by
  have e : l.take (i + 1) = l.take i ++ [lsD l i] := by
    rw [List.take_succ_eq_append_getElem hi]
    simp [lsD, hi]
  rw [e, addL, List.foldl_append]
  rfl
theorem add1_len (N : Int → List Int) (k x : Int) (h : ∀ a, (N a).length ≤ 16) (a : Int) : (add1 N k x a).length ≤ 16 := by
  unfold add1
  have := h a
  cases hb : (ieq a x && Nat.blt (N a).length 16) with
  | false => rw [cond_false]; exact this
  | true =>
    rw [Bool.and_eq_true, Nat.blt_eq] at hb
    rw [cond_true, List.length_append, List.length_singleton]
    omega
theorem addL_len (N : Int → List Int) (k : Int) (l : List Int) (h : ∀ a, (N a).length ≤ 16) (a : Int) : (addL N k l a).length ≤ 16 := by
  unfold addL
  induction l generalizing N with
  | nil => exact h a
  | cons x l ih => exact ih _ (add1_len N k x h)
theorem add1_full (N : Int → List Int) (k x : Int) (h : 16 ≤ (N x).length) : add1 N k x = N := by
  funext a
  unfold add1
  by_cases e : a = x
  · subst e
    have : Nat.blt (N a).length 16 = false := by
      cases hq : Nat.blt (N a).length 16 with
      | false => rfl
      | true => rw [Nat.blt_eq] at hq; omega
    rw [this, Bool.and_false]; rfl
  · simp [ieq, e]
theorem NOK.add1 {K : Kn} {h : Int → Bool} {V : Int → Value} {N : Int → List Int} (q : NOK K h V N) (k x : Int) (hx : (N x).length < 16) {v : Value} (hv : Froz K v ((N x).length + 1) 1 (kdr (N x ++ [k]))) :
    NOK K (fun a => ieq a x || h a) (fun a => bif ieq a x then v else V a) (add1 N k x) := by
  refine ⟨fun a ha => ?_, fun a => ?_⟩
  · rw [Bool.or_eq_false_iff] at ha
    rw [ha.1]; exact q.z a ha.2
  · unfold Sx.add1
    by_cases e : a = x
    · subst e
      have : Nat.blt (N a).length 16 = true := by rw [Nat.blt_eq]; exact hx
      rw [this]
      simpa [ieq] using hv
    · simpa [ieq, e] using q.f a
theorem app_kdr (nx : Nat) (sg : List Nat) (L : List Int) (k : Int) (i : Nat) (hi : i < L.length + 1) : appF (renR nx sg (kdr L)) L.length (fun i k_2 => [SV.int IntKind.i64 k].getD ((0 + i) * 1 + k_2) SV.und) i 0 = kdr (L ++ [k]) i 0 := by
  rw [renR_kdr]
  unfold appF
  by_cases h : i < L.length
  · have hb : Nat.blt i L.length = true := by simpa [Nat.blt_eq] using h
    rw [hb, cond_true]
    simp [kdr, lsD, List.getElem?_append_left h]
  · have : i = L.length := by omega
    subst this
    have hb : Nat.blt L.length L.length = false := by
      cases hq : Nat.blt L.length L.length with
      | false => rfl
      | true => rw [Nat.blt_eq] at hq; omega
    rw [hb, cond_false]
    simp [kdr, lsD]
theorem ren_val (nx : Nat) (sg : List Nat) (v : Value) : ren nx sg (.val v) = .val v := by simp only [ren, renF, id]
theorem cloneV_hc (h : Int → Bool) (V : Int → Value) : HC Try.prog 37 [.mp 0] [(0, nmap h V)] [] 1 (fun _ : Unit => True) (fun _ => ⟨.mp 1, [(0, nmap h V), (1, nmap h V)], 2⟩) := by
  refine hc_of_run Try.func37 rfl (fun B hB hpin => ?_)
  refine goK hB rfl rfl (by simp [conj, isMp43]) ?_
  refine run_condF rfl rfl ?_
  refine goK hB rfl rfl (by simp [conj, isMp43]) ?_
  refine run_mclone hB isClone rfl rfl (by simp [conj]) rfl rfl ?_
  refine goK hB rfl rfl (by simp [conj]) ?_
  refine run_retC hpin () trivial [0, 1] rfl rfl (by simp [conj]) rfl ?_
  simp [conj, less_rfl, ren_val]
def rcV (h : Int → Bool) (V : Int → Value) (a : Nat) : RC := ⟨37, [.mp 0], [(0, nmap h V)], [], 1, .mp 1, [(0, nmap h V), (1, nmap h V)], 2, [a]⟩
theorem rcV_ok (h : Int → Bool) (V : Int → Value) (a : Nat) : RcOk Try.prog (rcV h V a) := ⟨cloneV_hc h V, rfl, by show 1 ≤ 2; omega⟩
/-- slices.Clone of a queue. -/
theorem sclone_hcx (K : Kn) (v : Value) (l : List Int) (hl : l.length < 1000000) (hF : Froz K v l.length 1 (kdr l)) :
    HCX Try.prog K M0 76 [.val v] [] [] 0 (fun (_ : Unit) K' => K' = K) (fun _ => ⟨.sq 0 0 0 1 l.length .own, [(0, .row 0 l.length l.length 1 (kdr l) 38)], 1⟩) := by
  refine hcx_of_run Try.func76 rfl (fun B hB hK hpin => ?_)
  have hFz : Fz B K M0 B K := .refl hB hK
  refine goK hB rfl rfl (by simp [conj]) ?_
  obtain ⟨base, room, rfl, e2, e3⟩ := id hF
  refine run_vnil isSl92.choose_spec rfl rfl rfl conj_nil (fun hb => ⟨?_, e2 hb⟩) rfl ?_
  · rcases Nat.eq_zero_or_pos l.length with h | h
    · exact h
    · obtain ⟨_, b, o, _, _, _, h5, _⟩ := e3 h
      rw [hb] at h5; cases h5
  refine goK hB rfl rfl (by simp [conj]) ?_
  refine run_cond rfl (fun hb => ?_) (fun hb => ?_)
  · have h0 : l.length = 0 := by
      rcases Nat.eq_zero_or_pos l.length with h | h
      · exact h
      · obtain ⟨_, b, o, _, _, _, h5, _⟩ := e3 h
        rw [h5] at hb; cases hb
    have hl0 : l = [] := List.eq_nil_of_length_eq_zero h0
    subst hl0
    refine goK hB rfl rfl (by simp [conj]) ?_
    exact run_retF hFz hpin () rfl [5] rfl rfl (by simp [conj]) rfl (by simp [conj])
  · refine goK hB rfl rfl (by simp [conj]) ?_
    refine run_open hK 6 hF (by decide) rfl (fun off => ?_)
    refine goK hB rfl rfl (by simp [conj]; exact ⟨by omega, by omega, fun i _ => rfl⟩) ?_
    refine run_close (.inl rfl) ?_
    refine run_retF hFz hpin () rfl [2] rfl rfl (by simp [conj]) rfl ?_
    simp [conj, less_rfl, ren_kdr]
    exact fun i _ => (Less.rfl : Less (kdr l i 0) (kdr l i 0))
abbrev cfN : List Nat := [37, 38, 81, 87, 85, 52, 53, 55, 56, 73, 75, 76]
def modeN : Mode := { st := true, unr := false, inl := fun f => !hasN f cfN, sum := sumOf [], keep := fun _ => none }
theorem goN {B : Base} (hB : B.ok) {ro : Hp} {f : FuncId} {R : Ending → World → Prop} {cs0 cs : List Prop} {c c0 c' : Cfg} (h0 : stepD Try.prog modeN ro c = some (cs0, c0)) (h : execG Try.prog modeN ro 400 cs0 c0 = (cs, c')) (hc : conj cs)
    (hr : Run Try.prog ro B f R c') : Run Try.prog ro B f R c := run_go mixed named hB (sumOk_nil _) 400 h0 h hc hr
theorem add_hcx (K : Kn) (h : Int → Bool) (V : Int → Value) (N : Int → List Int) (hN : NOK K h V N) (hN16 : ∀ a, (N a).length ≤ 16) (k : Int) (l : List Int) (hl : l.length < 1000000) :
    HCX Try.prog K M0 52 [.mp 0, i64 k, .sq 1 0 0 1 l.length .no] [(0, nmap h V)] [(1, .row 0 l.length l.length 1 (fnr (lsD l)) anyTy)] 2 (fun (z : NSt) K' => NOK K' z.h z.V (addL N k l)) (fun z => ⟨.tup [], [(0, nmap z.h z.V)], 2⟩) := by
  refine hcx_of_run Try.func52 rfl (fun B hB hK hpin => ?_)
  have hF0 : Fz B K M0 B K := .refl hB hK
  refine goN hB rfl rfl (by simp [conj]) ?_
  refine run_loop ?_
  refine run_to hpin (sl' := [(10, i64 (0 : Nat)), (9, i64 l.length), (8, .sq 1 0 0 1 l.length .no), (0, .mp 0), (1, i64 k)]) (rest' := []) (hp' := [(0, nmap h V)]) (nx' := 2) [0, 1] rfl rfl (by simp [conj, less_rfl, ren_fnr, ren_val]) ?_
  refine run_invX hF0 hpin (ι := Nat × NSt) (fun z K' => z.1 ≤ l.length ∧ NOK K' z.2.h z.2.V (addL N k (l.take z.1))) (fun z => l.length - z.1) (fun z => [(10, i64 z.1), (9, i64 l.length), (8, .sq 1 0 0 1 l.length .no), (0, .mp 0), (1, i64 k)]) (fun _ => []) (fun z => [(0, nmap z.2.h z.2.V)]) (0, ⟨h, V⟩) ⟨Nat.zero_le _, by simpa [addL] using hN⟩ ?_
  rintro ⟨i, h', V'⟩ B' K' hF hp' ⟨hi, hN'⟩ ih
  dsimp only at hi hN' ⊢
  have hB' := hF.ok
  have hK' := hF.le
  refine goN hB' rfl rfl (by simp [conj]) ?_
  refine run_cond rfl (fun hh => ?_) (fun hh => ?_)
  · have hi1 : i < l.length := by simpa using hh
    have e0 : 0 + ((i : Nat) : Int).toNat = i := by omega
    have e1 := addL_take N k l i hi1
    have hlen := addL_len N k (l.take i) hN16 (lsD l i)
    generalize hN2 : addL N k (l.take i) = N2 at hN' e1 hlen
    refine goN hB' rfl rfl (by simp [conj]; try omega) ?_
    rw [hN'.v, e0]
    refine run_open hK' 16 (hN'.f _) (by decide) rfl (fun off => ?_)
    refine goN hB' rfl rfl (by simp [conj]) ?_
    refine run_close (.inl rfl) ?_
    refine run_cond rfl (fun hq => ?_) (fun hq => ?_)
    · have hq' : (N2 (lsD l i)).length < 16 := by simp at hq; omega
      refine goN hB' rfl rfl (by simp [conj]) ?_
      rw [hN'.v]
      refine run_callX (sclone_hcx K' (V' (lsD l i)) (N2 (lsD l i)) (by omega) (hN'.f _)) named hB' hK' (fun _ h => h.elim) (.inr fun _ h => h) [] rfl rfl rfl rfl (by simp [conj]) (by simp [conj]) ?_
      rintro ⟨⟩ B2 K2 rfl hF2 hp2
      refine ⟨show 0 ≤ 1 by omega, _, _, _, rfl, rfl, rfl, ?_⟩
      have hB2 := hF2.ok
      have hK2 := hF2.le
      refine goN hB2 rfl rfl (by simp [conj]; omega) ?_
      refine run_freeze hB2 hK2 27 rfl rfl (Nat.le_refl _) ?_ rfl (fun v B3 K3 hFr hF3 hp3 => ?_)
      · intro j c hj hc
        obtain rfl : c = 0 := by omega
        rw [app_kdr _ _ _ _ _ hj]
        rfl
      have hB3 := hF3.ok
      have hFr := hFr.congr (g := kdr (N2 (lsD l i) ++ [k])) (fun j c hj hc => by
        obtain rfl : c = 0 := by omega
        exact (app_kdr _ _ _ _ _ hj).symm)
      have hF3' := hF2.trans0 hF3 hK' (fun _ h => h.elim)
      have hFz := hF.trans0 hF3' hK (fun _ h => h.elim)
      have hN3 := (hN'.fz hF3').add1 k (lsD l i) hq' hFr
      refine goN hB3 rfl rfl (by simp [conj, Fits_i64]; omega) ?_
      refine run_back ?_
      refine run_to ((hp'.fz hF2 hp2).fz hF3 hp3) [0, 1] rfl rfl ?_ (ih (i + 1, ⟨_, _⟩) B3 K3 hFz ((hp'.fz hF2 hp2).fz hF3 hp3) ⟨hi1, by dsimp only; rw [e1]; exact hN3⟩ (by dsimp only; omega))
      clear ih
      simp [conj, less_rfl, ren_fnr, ren_val]
    · refine goN hB' rfl rfl (by simp [conj, Fits_i64]; omega) ?_
      refine run_back ?_
      refine run_to hp' [0, 1] rfl rfl ?_ (ih (i + 1, ⟨h', V'⟩) B' K' hF hp' ⟨hi1, ?_⟩ (by dsimp only; omega))
      · clear ih
        simp [conj, less_rfl, ren_fnr, ren_val]
      · dsimp only
        rw [e1, add1_full _ _ _ (by simp at hq; omega)]
        exact hN'
  · clear ih
    have hil : i = l.length := by simp at hh; omega
    refine goN hB' rfl rfl (by simp [conj, Fits_i64]) ?_
    rw [hil, List.take_length] at hN'
    refine run_endF (ψ := fun (z : NSt) K' => NOK K' z.h z.V (addL N k l)) (out := fun z => ⟨.tup [], [(0, nmap z.h z.V)], 2⟩) hF hp' ⟨h', V'⟩ hN' [0, 1] rfl rfl (by simp [conj]) rfl ?_
    simp [conj, less_rfl, ren_fnr]
end Sx
end
section
/- Package reserve: others, holds, Report at any reservation. Conditions: as each theorem says. -/
namespace Sx
open Go Go.Proofs
set_option maxRecDepth 100000
set_option pp.deepTerms true
set_option pp.maxSteps 10000000
/-- All but one. -/
def fl (a : Int) (l : List Int) : List Int := l.filter fun x => !decide (x = a)
theorem fl_take (p : Int → Bool) (l : List Int) (i : Nat) (hi : i < l.length) : (l.take (i + 1)).filter p = if p (lsD l i) = true then (l.take i).filter p ++ [lsD l i] else (l.take i).filter p := by
  have e : l.take (i + 1) = l.take i ++ [lsD l i] := by
    rw [List.take_succ_eq_append_getElem hi]
    simp [lsD, hi]
  rw [e, List.filter_append]
  by_cases h : p (lsD l i) = true <;> simp [List.filter_cons, h]
theorem app_fnr (nx : Nat) (sg : List Nat) (L : List Int) (k : Int) (i : Nat) (hi : i < L.length + 1) : appF (renR nx sg (fnr (lsD L))) L.length (fun i k_2 => [SV.int IntKind.u64 k].getD ((0 + i) * 1 + k_2) SV.und) i 0 = fnr (lsD (L ++ [k])) i 0 := by
  rw [renR_fnr]
  unfold appF
  by_cases h : i < L.length
  · have hb : Nat.blt i L.length = true := by simpa [Nat.blt_eq] using h
    rw [hb, cond_true]
    simp [fnr, lsD, List.getElem?_append_left h]
  · have : i = L.length := by omega
    subst this
    have hb : Nat.blt L.length L.length = false := by
      cases hq : Nat.blt L.length L.length with
      | false => rfl
      | true => rw [Nat.blt_eq] at hq; omega
    rw [hb, cond_false]
    simp [fnr, lsD]
theorem app_fnr2 (L : List Int) (k : Int) (i : Nat) (hi : i < L.length + 1) : appF (fnr (lsD L)) L.length (fun i_2 j => [SV.int IntKind.u64 k][i_2 + j]?.getD SV.und) i 0 = fnr (lsD (L ++ [k])) i 0 := by
  have := app_fnr 0 [] L k i hi
  rw [renR_fnr] at this
  rw [← this]
  unfold appF
  simp
theorem len_filter (p : Int → Bool) (l : List Int) (i : Nat) : ((l.take i).filter p).length ≤ l.length := Nat.le_trans (List.length_filter_le _ _) (by rw [List.length_take]; omega)
theorem others_hc (h : Int → Bool) (v : Int → Int) (l : List Int) (hk : KeysOf h l) (hl : l.length < 129) (a : Int) :
    HC Try.prog 53 [.ptr 0 0, u64 a] [(1, .map .u64 h (.ints .u64 v))] [(0, .cells [.und, .mp 1, .und, .und, .und, .und] 46)] 2 (fun _ : Unit => True)
      (fun _ => ⟨.sq 2 0 0 1 (fl a l).length .own, [(1, .map .u64 h (.ints .u64 v)), (2, .row 0 (fl a l).length (fl a l).length 1 (fnr (lsD (fl a l))) 23)], 3⟩) := by
  refine hc_of_run Try.func53 rfl (fun B hB hpin => ?_)
  refine goK hB rfl rfl (by simp [conj, isPt25]) ?_
  refine run_callC (sortedN_hc h v l hk hl) named hB [3, 1] rfl rfl rfl rfl (by simp [conj]) (by simp [conj, less_rfl]) ?_
  rintro ⟨⟩ _
  refine ⟨show 2 ≤ 3 by omega, _, _, _, rfl, rfl, rfl, ?_⟩
  refine goK hB rfl rfl (by simp [conj]) ?_
  refine run_loop ?_
  have hfl : fl a l = (l.take l.length).filter fun x => !decide (x = a) := by rw [List.take_length]; rfl
  rw [hfl]
  generalize hp : (fun x : Int => !decide (x = a)) = p
  have hpx : ∀ x, p x = !decide (x = a) := fun x => by rw [← hp]
  refine run_invK (ι := Nat) hpin (fun i => i ≤ l.length) (fun i => l.length - i) (fun i => [(11, i64 i), (10, i64 l.length), (9, .sq 3 0 0 1 l.length .own), (4, .sq 4 0 0 1 ((l.take i).filter p).length .own), (1, .clo (.func 77) [] [.ptr 2 0])]) (fun _ => [[]]) [] (fun i => [(1, .map .u64 h (.ints .u64 v)), (2, .cells [u64 a] 23), (3, .row 0 l.length l.length 1 (fnr (lsD l)) 23), (4, .row 0 ((l.take i).filter p).length ((l.take i).filter p).length 1 (fnr (lsD ((l.take i).filter p))) 23)]) 5 0 (Nat.zero_le _)
    [0, 1, 2, 4, 5] rfl rfl (by
      simp [conj, less_rfl, ren_rowL, ren_fnr]
      exact fun i _ => Less.of (rowL_lsD l i)) ?_
  intro i hi ih
  refine goK hB rfl rfl (by simp [conj]) ?_
  refine run_cond rfl (fun hh => ?_) (fun hh => ?_)
  · have hi1 : i < l.length := by simpa using hh
    have ih := ih (i + 1) (by omega) (by omega)
    have e1 := fl_take p l i hi1
    have hlen := len_filter p l i
    have e0 : 0 + ((i : Nat) : Int).toNat = i := by omega
    generalize (l.take i).filter p = L at e1 hlen ⊢
    refine goK hB rfl rfl (by simp [conj]; omega) ?_
    rw [e0]
    refine run_cond rfl (fun hq => ?_) (fun hq => ?_)
    · have hq' : p (lsD l i) = true := by rw [hpx]; exact hq
      rw [if_pos hq'] at e1
      rw [e1] at ih
      refine goK hB rfl rfl (by simp [conj, Fits_i64]; try omega) ?_
      refine run_back ?_
      refine run_toK hpin _ [[]] _ [0, 1, 2, 3, 6] rfl rfl ?_ ih
      clear ih
      simp [conj, less_rfl, ren_fnr]
      exact fun j hj => Less.of (app_fnr2 _ _ _ hj).symm
    · have hq' : ¬ p (lsD l i) = true := by
        rw [hpx]
        intro h'
        rw [show (!decide (lsD l i = a)) = true from h'] at hq
        cases hq
      rw [if_neg hq'] at e1
      rw [e1] at ih
      refine goK hB rfl rfl (by simp [conj, Fits_i64]; try omega) ?_
      refine run_back ?_
      refine run_toK hpin _ [[]] _ [0, 1, 2, 3, 4] rfl rfl ?_ ih
      clear ih
      simp [conj, less_rfl, ren_fnr]
  · clear ih
    have : i = l.length := by simp at hh; omega
    subst this
    refine goK hB rfl rfl (by simp [conj]) ?_
    refine run_retC hpin () trivial [0, 1, 4] rfl rfl (by simp [conj]) rfl ?_
    simp [conj, less_rfl, ren_fnr]
/-- Who holds. -/
def hld (h : Int → Bool) (T H a : Int) : Bool := h a && (decide (0 < T) && (decide (5 ≤ T) || decide (H = a)))
theorem holds_hc (h : Int → Bool) (v : Int → Int) (T H a : Int) : HC Try.prog 55 [.ptr 0 0, u64 a] [] [(0, .cells [.und, .mp 1, i64 T, u64 H, .und, .und] 46), (1, .map .u64 h (.ints .u64 v))] 2 (fun _ : Unit => True) (fun _ => ⟨.sb (hld h T H a), [], 2⟩) := by
  refine hc_of_run Try.func55 rfl (fun B hB hpin => ?_)
  refine goK hB rfl rfl (by simp [conj, isPt25, isMp44, isBo4]) ?_
  refine run_split 24 rfl (fun h1 => ?_) (fun h1 => ?_)
  · have h1' : h a = true ∧ 0 < T := by simpa using h1
    refine goK hB rfl rfl (by simp [conj, isPt25, isMp44, isBo4]; try exact h1') ?_
    refine run_retC hpin () trivial [0, 1] rfl rfl (by simp [conj]; try exact h1') rfl ?_
    simp [conj, less_rfl, hld, h1'.1, h1'.2]
  · refine goK hB rfl rfl (by simp [conj, isPt25, isMp44, isBo4]) ?_
    refine run_retC hpin () trivial [0, 1] rfl rfl (by simp [conj]) rfl ?_
    have e : hld h T H a = false := by
      unfold hld
      rw [← Bool.and_assoc, h1, Bool.false_and]
    simp [conj, less_rfl, e]
def rcH (h : Int → Bool) (v : Int → Int) (T H a : Int) (i j : Nat) : RC := ⟨55, [.ptr 0 0, u64 a], [], [(0, .cells [.und, .mp 1, i64 T, u64 H, .und, .und] 46), (1, .map .u64 h (.ints .u64 v))], 2, .sb (hld h T H a), [], 2, [i, j]⟩
/-- The registrations. -/
abbrev regS (h : Int → Bool) (v : Int → Int) (T H : Int) (l : List Int) : List Reg := l.map fun a => (a, v a, hld h T H a)
end Sx
end
section
/- Package reserve: release, remove, the victims. Conditions: as each theorem says. -/
namespace Sx
open Go Go.Proofs
set_option maxRecDepth 100000
set_option pp.deepTerms true
set_option pp.maxSteps 10000000
/-- A reservation's own cells; the keys. -/
abbrev rC0 (n k : Nat) (T H G : Int) (p : Bool) : SO := .cells [.mp n, .mp k, i64 T, u64 H, .int .u32 G, .sb p] 46
abbrev kmap (h : Int → Bool) (v : Int → Int) : SO := .map .u64 h (.ints .u64 v)
def relN (N : Int → List Int) (T a : Int) (l : List Int) : Int → List Int := if 3 ≤ T then addL N 2 (fl a l) else N
def rcO (h : Int → Bool) (v : Int → Int) (a : Int) (l : List Int) (i j : Nat) : RC := ⟨53, [.ptr 0 0, u64 a], [(1, kmap h v)], [(0, .cells [.und, .mp 1, .und, .und, .und, .und] 46)], 2, .sq 2 0 0 1 (fl a l).length .own, [(1, kmap h v), (2, .row 0 (fl a l).length (fl a l).length 1 (fnr (lsD (fl a l))) 23)], 3, [i, j]⟩
theorem rcO_ok (h : Int → Bool) (v : Int → Int) (l : List Int) (hk : KeysOf h l) (hl : l.length < 129) (a : Int) (i j : Nat) : RcOk Try.prog (rcO h v a l i j) := ⟨others_hc h v l hk hl a, rfl, by show 2 ≤ 3; omega⟩
theorem fl_len (a : Int) (l : List Int) : (fl a l).length ≤ l.length := List.length_filter_le _ _
set_option maxHeartbeats 4000000 in
theorem release_hcx (K : Kn) (hN : Int → Bool) (V : Int → Value) (N : Int → List Int) (hNK : NOK K hN V N) (hN16 : ∀ a, (N a).length ≤ 16) (h : Int → Bool) (v : Int → Int) (l : List Int) (hk : KeysOf h l) (hl : l.length < 129) (T H G : Int) (p : Bool) (a : Int) :
    HCX Try.prog K M0 56 [.ptr 0 0, u64 a] [(0, rC0 1 2 T H G p), (1, nmap hN V), (2, kmap h v)] [] 3 (fun (z : NSt) K' => NOK K' z.h z.V (relN N T a l)) (fun z => ⟨.tup [], [(0, rC0 1 2 0 0 G p), (1, nmap z.h z.V), (2, kmap h v)], 3⟩) := by
  refine hcx_of_run Try.func56 rfl (fun B hB hK hpin => ?_)
  have hF0 : Fz B K M0 B K := .refl hB hK
  refine goN hB rfl rfl (by simp [conj, isPt25]) ?_
  refine run_cond rfl (fun hq => ?_) (fun hq => ?_)
  · have hT : 3 ≤ T := by simpa using hq
    refine run_draw0 mixed (fun t => ?_)
    refine run_drawC (M := modeN) 1 7 rfl named hB (sumOk_nil _) [(9, rcO h v a l 0 2)] ⟨rcO_ok h v l hk hl a 0 2, trivial⟩ rfl rfl rfl rfl rfl rfl ?_ (fun t => ?_)
    · simp [conj, less_rfl, SO.Live, isPt25]
    refine run_chain rfl rfl ?_
    refine run_callX (add_hcx K hN V N hNK hN16 2 (fl a l) (by have := fl_len a l; omega)) named hB hK (fun _ h => h.elim) (.inr fun _ h => h) [1, 9] rfl rfl rfl rfl (by simp [conj]) (by simp [conj, less_rfl, ren_fnr, renR_fnr]) ?_
    rintro ⟨h2, V2⟩ B2 K2 hN2 hF2 hp2
    refine ⟨show 2 ≤ 2 by omega, _, _, _, rfl, rfl, rfl, ?_⟩
    have hB2 := hF2.ok
    refine goN hB2 rfl rfl (by simp [conj, isPt25]) ?_
    refine run_endF (ψ := fun (z : NSt) K' => NOK K' z.h z.V (relN N T a l)) (out := fun z => ⟨.tup [], [(0, rC0 1 2 0 0 G p), (1, nmap z.h z.V), (2, kmap h v)], 3⟩) hF2 (hpin.fz hF2 hp2) ⟨h2, V2⟩ (by rw [relN, if_pos hT]; exact hN2) [0, 1, 2] rfl rfl (by simp [conj]) rfl ?_
    simp [conj, less_rfl, ren_val]
  · have hT : ¬ 3 ≤ T := by simpa using hq
    refine goN hB rfl rfl (by simp [conj, isPt25]) ?_
    refine run_endF (ψ := fun (z : NSt) K' => NOK K' z.h z.V (relN N T a l)) (out := fun z => ⟨.tup [], [(0, rC0 1 2 0 0 G p), (1, nmap z.h z.V), (2, kmap h v)], 3⟩) hF0 hpin ⟨hN, V⟩ (by rw [relN, if_neg hT]; exact hNK) [0, 1, 2] rfl rfl (by simp [conj]) rfl ?_
    simp [conj, less_rfl, ren_val]
/-- Whether a removal ends the reservation. -/
def rmE (h : Int → Bool) (T H : Int) (l : List Int) (a : Int) : Bool := hld h T H a && (decide (T < 5) || decide (l.length = 1))
abbrev hDel (h : Int → Bool) (a : Int) : Int → Bool := fun x => h x && !ieq x a
set_option maxHeartbeats 4000000 in
theorem remove_hcx (K : Kn) (hN : Int → Bool) (V : Int → Value) (N : Int → List Int) (hNK : NOK K hN V N) (hN16 : ∀ a, (N a).length ≤ 16) (h : Int → Bool) (v : Int → Int) (l : List Int) (hk : KeysOf h l) (hl : l.length < 129) (T H G : Int) (p : Bool) (a by' : Int) :
    HCX Try.prog K M0 75 [.ptr 0 0, u64 a, u64 by'] [(0, rC0 1 2 T H G p), (1, nmap hN V), (2, kmap h v)] [] 3 (fun (z : NSt) K' => NOK K' z.h z.V (if rmE h T H l a = true then relN N T by' l else N))
      (fun z => ⟨.tup [], [(0, rC0 1 2 (if rmE h T H l a = true then 0 else T) (if rmE h T H l a = true then 0 else H) G p), (1, nmap z.h z.V), (2, kmap (hDel h a) v)], 3⟩) := by
  refine hcx_of_run Try.func75 rfl (fun B hB hK hpin => ?_)
  have hF0 : Fz B K M0 B K := .refl hB hK
  refine goN hB rfl rfl (by simp [conj, isPt25]) ?_
  refine run_callC (holds_hc h v T H a) named hB [0, 2] rfl rfl rfl rfl (by simp [conj]) (by simp [conj, less_rfl]) ?_
  rintro ⟨⟩ _
  refine ⟨show 2 ≤ 2 by omega, _, _, _, rfl, rfl, rfl, ?_⟩
  -- the arm that ends the reservation, the arm that does not
  cases hc : hld h T H a with
  | false =>
    have hE : rmE h T H l a = false := by unfold rmE; rw [hc]; rfl
    refine run_ff rfl ?_
    refine goN hB rfl rfl (by simp [conj, isPt25, hc]) ?_
    refine run_mdel rfl rfl (by simp [conj]) rfl rfl rfl ?_
    refine goN hB rfl rfl (by simp [conj, isPt25]) ?_
    refine run_endF (ψ := fun (z : NSt) K' => NOK K' z.h z.V (if rmE h T H l a = true then relN N T by' l else N)) (out := fun z => ⟨.tup [], [(0, rC0 1 2 (if rmE h T H l a = true then 0 else T) (if rmE h T H l a = true then 0 else H) G p), (1, nmap z.h z.V), (2, kmap (hDel h a) v)], 3⟩) hF0 hpin ⟨hN, V⟩ (by rw [hE]; exact hNK) [0, 1, 2] rfl rfl (by simp [conj]) rfl ?_
    simp [conj, less_rfl, ren_val, hE]
  | true =>
    refine run_tt rfl ?_
    refine goN hB rfl rfl (by simp [conj, isPt25]) ?_
    refine run_split 13 rfl (fun h1 => ?_) (fun h1 => ?_)
    · have hT : T < 5 := by simpa using h1
      have hE : rmE h T H l a = true := by unfold rmE; rw [hc]; simp [hT]
      refine goN hB rfl rfl (by simp [conj, isPt25, hc]) ?_
      refine run_callX (release_hcx K hN V N hNK hN16 h v l hk hl T H G p by') named hB hK (fun _ h => h.elim) (.inr fun _ h => h) [0, 1, 2] rfl rfl rfl rfl (by simp [conj]) (by simp [conj, less_rfl, ren_val]) ?_
      rintro ⟨h2, V2⟩ B2 K2 hN2 hF2 hp2
      refine ⟨show 3 ≤ 3 by omega, _, _, _, rfl, rfl, rfl, ?_⟩
      have hB2 := hF2.ok
      refine goN hB2 rfl rfl (by simp [conj, isPt25]) ?_
      refine run_mdel rfl rfl (by simp [conj]) rfl rfl rfl ?_
      refine goN hB2 rfl rfl (by simp [conj, isPt25]) ?_
      refine run_endF (ψ := fun (z : NSt) K' => NOK K' z.h z.V (if rmE h T H l a = true then relN N T by' l else N)) (out := fun z => ⟨.tup [], [(0, rC0 1 2 (if rmE h T H l a = true then 0 else T) (if rmE h T H l a = true then 0 else H) G p), (1, nmap z.h z.V), (2, kmap (hDel h a) v)], 3⟩) hF2 (hpin.fz hF2 hp2) ⟨h2, V2⟩ (by rw [if_pos hE]; exact hN2) [0, 1, 2] rfl rfl (by simp [conj]) rfl ?_
      simp [conj, less_rfl, ren_val, hE]
    · have hT : 5 ≤ T := by simpa using h1
      refine run_mlenN l l.length rfl (hk.1.imp fun {x y} q => by omega) (fun x => (hk.2 x).symm) rfl rfl (by simp [conj, hT]) rfl rfl ?_
      refine goN hB rfl rfl (by simp [conj, isPt25]) ?_
      refine run_cond rfl (fun h2 => ?_) (fun h2 => ?_)
      · have hE : rmE h T H l a = true := by
          have h3 : l.length = 1 := by simp at h2; omega
          unfold rmE; rw [hc]; simp [h3]
        refine goN hB rfl rfl (by simp [conj, isPt25, hc]) ?_
        refine run_callX (release_hcx K hN V N hNK hN16 h v l hk hl T H G p by') named hB hK (fun _ h => h.elim) (.inr fun _ h => h) [0, 1, 2] rfl rfl rfl rfl (by simp [conj]) (by simp [conj, less_rfl, ren_val]) ?_
        rintro ⟨h2, V2⟩ B2 K2 hN2 hF2 hp2
        refine ⟨show 3 ≤ 3 by omega, _, _, _, rfl, rfl, rfl, ?_⟩
        have hB2 := hF2.ok
        refine goN hB2 rfl rfl (by simp [conj, isPt25]) ?_
        refine run_mdel rfl rfl (by simp [conj]) rfl rfl rfl ?_
        refine goN hB2 rfl rfl (by simp [conj, isPt25]) ?_
        refine run_endF (ψ := fun (z : NSt) K' => NOK K' z.h z.V (if rmE h T H l a = true then relN N T by' l else N)) (out := fun z => ⟨.tup [], [(0, rC0 1 2 (if rmE h T H l a = true then 0 else T) (if rmE h T H l a = true then 0 else H) G p), (1, nmap z.h z.V), (2, kmap (hDel h a) v)], 3⟩) hF2 (hpin.fz hF2 hp2) ⟨h2, V2⟩ (by rw [if_pos hE]; exact hN2) [0, 1, 2] rfl rfl (by simp [conj]) rfl ?_
        simp [conj, less_rfl, ren_val, hE]
      · have hE : rmE h T H l a = false := by
          have h3 : ¬ l.length = 1 := by simp at h2; omega
          unfold rmE; rw [hc]; simp [h3]; omega
        refine goN hB rfl rfl (by simp [conj, isPt25, hc]) ?_
        refine run_mdel rfl rfl (by simp [conj]) rfl rfl rfl ?_
        refine goN hB rfl rfl (by simp [conj, isPt25]) ?_
        refine run_endF (ψ := fun (z : NSt) K' => NOK K' z.h z.V (if rmE h T H l a = true then relN N T by' l else N)) (out := fun z => ⟨.tup [], [(0, rC0 1 2 (if rmE h T H l a = true then 0 else T) (if rmE h T H l a = true then 0 else H) G p), (1, nmap z.h z.V), (2, kmap (hDel h a) v)], 3⟩) hF0 hpin ⟨hN, V⟩ (by rw [hE]; exact hNK) [0, 1, 2] rfl rfl (by simp [conj]) rfl ?_
        simp [conj, less_rfl, ren_val, hE]
end Sx
end
section
/- Package reserve: the victims of a preemption. Conditions: as each theorem says. -/
namespace Sx
open Go Go.Proofs
set_option maxRecDepth 100000
set_option pp.deepTerms true
set_option pp.maxSteps 10000000
def vicP (v : Int → Int) (host other : Int) (all : Bool) (x : Int) : Bool := !decide (x = host) && (all || decide (v x = other))
def vic (v : Int → Int) (host other : Int) (all : Bool) (l : List Int) : List Int := l.filter (vicP v host other all)
theorem victims_hc (h : Int → Bool) (v : Int → Int) (l : List Int) (hk : KeysOf h l) (hl : l.length < 129) (host other : Int) (all : Bool) :
    HC Try.prog 73 [.mp 0, .clo (.func 74) [] [.ptr 1 0, .ptr 2 0, .ptr 3 0, .ptr 5 0]] [(0, kmap h v)] [(1, .cells [u64 host] 23), (2, .cells [.sb all] 4), (3, .cells [.ptr 4 0] 25), (4, .cells [.und, .mp 0, .und, .und, .und, .und] 46), (5, .cells [u64 other] 23)] 6 (fun _ : Unit => True)
      (fun _ => ⟨.sq 6 0 0 1 (vic v host other all l).length .own, [(0, kmap h v), (6, .row 0 (vic v host other all l).length (vic v host other all l).length 1 (fnr (lsD (vic v host other all l))) 23)], 7⟩) := by
  refine hc_of_run Try.func73 rfl (fun B hB hpin => ?_)
  refine goK hB rfl rfl (by simp [conj, isPt25]) ?_
  refine run_callC (sortedN_hc h v l hk hl) named hB [6, 0] rfl rfl rfl rfl (by simp [conj]) (by simp [conj, less_rfl]) ?_
  rintro ⟨⟩ _
  refine ⟨show 2 ≤ 3 by omega, _, _, _, rfl, rfl, rfl, ?_⟩
  refine goK hB rfl rfl (by simp [conj]) ?_
  refine run_loop ?_
  have hfl : vic v host other all l = (l.take l.length).filter (vicP v host other all) := by rw [List.take_length]; rfl
  rw [hfl]
  generalize hp : vicP v host other all = p
  refine run_inv (ι := Nat) hpin (fun i => i ≤ l.length) (fun i => l.length - i) (fun i => [(11, i64 i), (10, i64 l.length), (9, .sq 6 0 0 1 l.length .own), (4, .sq 7 0 0 1 ((l.take i).filter p).length .own), (1, .clo (.func 74) [] [.ptr 1 0, .ptr 2 0, .ptr 3 0, .ptr 5 0])]) (fun _ => []) (fun i => [(0, kmap h v), (6, .row 0 l.length l.length 1 (fnr (lsD l)) 23), (7, .row 0 ((l.take i).filter p).length ((l.take i).filter p).length 1 (fnr (lsD ((l.take i).filter p))) 23)]) 8 0 (Nat.zero_le _)
    [0, 1, 2, 3, 4, 5, 7, 8] rfl rfl (by
      simp [conj, less_rfl, ren_rowL, ren_fnr]
      exact fun i _ => Less.of (rowL_lsD l i)) ?_
  intro i hi ih
  refine goK hB rfl rfl (by simp [conj]) ?_
  refine run_cond rfl (fun hh => ?_) (fun hh => ?_)
  · have hi1 : i < l.length := by simpa using hh
    have ih := ih (i + 1) (by omega) (by omega)
    have e1 := fl_take p l i hi1
    have hm : h (lsD l i) = true := (hk.2 _).1 (lsD_mem l i hi1)
    have hlen := len_filter p l i
    have e0 : 0 + ((i : Nat) : Int).toNat = i := by omega
    generalize (l.take i).filter p = L at e1 hlen ⊢
    refine goK hB rfl rfl (by simp [conj, isPt25, isMp44, isBo4]; exact ⟨fun a b => ⟨a, b⟩, hi1⟩) ?_
    rw [e0, hm]
    have hpx : p (lsD l i) = (!decide (lsD l i = host) && (all || decide (v (lsD l i) = other))) := by rw [← hp]; rfl
    refine run_cond rfl (fun hq => ?_) (fun hq => ?_)
    · have hq' : p (lsD l i) = true := hpx.trans hq
      rw [if_pos hq'] at e1
      rw [e1] at ih
      refine goK hB rfl rfl (by simp [conj, Fits_i64]; try omega) ?_
      refine run_back ?_
      refine run_to hpin [0, 1, 2, 3, 4, 5, 6, 26] rfl rfl ?_ ih
      clear ih
      simp [conj, less_rfl, ren_fnr]
      exact fun j hj => Less.of (app_fnr2 _ _ _ hj).symm
    · have hq' : ¬ p (lsD l i) = true := by
        rw [hpx]
        intro h'
        rw [show (!decide (lsD l i = host) && (all || decide (v (lsD l i) = other))) = false from hq] at h'
        cases h'
      rw [if_neg hq'] at e1
      rw [e1] at ih
      refine goK hB rfl rfl (by simp [conj, Fits_i64]; try omega) ?_
      refine run_back ?_
      refine run_to hpin [0, 1, 2, 3, 4, 5, 6, 7] rfl rfl ?_ ih
      clear ih
      simp [conj, less_rfl, ren_fnr]
  · clear ih
    have : i = l.length := by simp at hh; omega
    subst this
    refine goK hB rfl rfl (by simp [conj]) ?_
    refine run_retC hpin () trivial [0, 1, 2, 3, 4, 5, 7] rfl rfl (by simp [conj]) rfl ?_
    simp [conj, less_rfl, ren_fnr]
end Sx
end
