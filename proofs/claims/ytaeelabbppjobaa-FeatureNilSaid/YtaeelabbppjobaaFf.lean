/- (*Features).Set. Conditions: as the theorem says. -/
import Derived.Test.YtaeelabbppjobaaFe
set_option linter.unusedSimpArgs false
set_option linter.unusedVariables false
namespace Sx
open Go Go.Proofs
set_option maxRecDepth 100000
/-- What the queues' feature makes of a value. -/
def w7 (q v : Int) : Int := min (v % 65536) (q - 1) + 65536 * min (v / 65536) (q - 1)
structure SR where
  r : Int
  t : Int
  c : Int
  x : FSt
def FSt.put (x : FSt) (id w : Int) (save : Bool) : FSt := ⟨fun a => bif ieq a id then w else x.vc a, fun a => (save && ieq a id) || x.hs a, fun a => bif save && ieq a id then w else x.vs a, x.host⟩
def wOf (q id v : Int) : Int := if id = 7 then w7 q v else v
def FSt.set (q s : Int) (x : FSt) (id v : Int) (save : Bool) : SR :=
  bif !isId id then ⟨0, 0, 2, x⟩ else bif save && !savOf (idxOf id) then ⟨0, 1, 13, x⟩ else bif !alw s (idxOf id) v then ⟨0, 0, 2, x⟩ else ⟨wOf q id v, 0, 0, x.put id (wOf q id v) save⟩
def setOut (q s : Int) (R : SR) : Out := ⟨.tup [u32 R.r, stV R.t R.c], objH q s R.x, 3⟩
theorem nat_of {v : Int} (hv : 0 ≤ v ∧ v < 4294967296) : ∃ n : Nat, v = n ∧ n < 2 ^ 32 := ⟨v.toNat, by omega, by omega⟩
theorem al_1 {s v : Int} (hv : 0 ≤ v ∧ v < 4294967296) : decide (andn v 4294967047 = 0) = alw s (idxOf 1) v := by
  obtain ⟨n, rfl, hn⟩ := nat_of hv
  show decide _ = decide _
  rw [decide_eq_decide]; exact msk1 n hn
theorem al_low {k : Nat} {m : Int} {v : Int} (hv : 0 ≤ v ∧ v < 4294967296) (hm : m = ((2 ^ k - 1 : Nat) : Int)) (hk : k ≤ 32) : decide (andn v m = 0) = decide (v < (2 ^ k : Nat)) := by
  obtain ⟨n, rfl, hn⟩ := nat_of hv
  subst hm
  rw [decide_eq_decide, low_mask n k hn hk]; omega
theorem al_4 {s v : Int} (hv : 0 ≤ v ∧ v < 4294967296) : decide (andn v 4194303 = 0) = alw s (idxOf 4) v := al_low (k := 22) hv rfl (by omega)
theorem al_5 {s v : Int} (hv : 0 ≤ v ∧ v < 4294967296) : decide (andn v 131071 = 0) = alw s (idxOf 5) v := al_low (k := 17) hv rfl (by omega)
theorem al_6 {s v : Int} (hv : 0 ≤ v ∧ v < 4294967296) : decide (andn v 1 = 0) = alw s (idxOf 6) v := al_low (k := 1) hv rfl (by omega)
theorem al_8 {s v : Int} (hv : 0 ≤ v ∧ v < 4294967296) : decide (andn v 65535 = 0) = alw s (idxOf 8) v := al_low (k := 16) hv rfl (by omega)
theorem al_10 {s v : Int} (hv : 0 ≤ v ∧ v < 4294967296) : decide (andn v 1 = 0) = alw s (idxOf 10) v := al_low (k := 1) hv rfl (by omega)
theorem al_11 {s v : Int} (hv : 0 ≤ v ∧ v < 4294967296) : decide (andn v 2281704447 = 0) = alw s (idxOf 11) v := by
  obtain ⟨n, rfl, hn⟩ := nat_of hv
  show decide _ = no8 _
  rw [Bool.eq_iff_iff, decide_eq_true_eq]; exact msk8 n hn
theorem al_15 {s v : Int} (hv : 0 ≤ v ∧ v < 4294967296) : decide (andn v 4294967295 = 0) = alw s (idxOf 15) v := by
  obtain ⟨n, rfl, hn⟩ := nat_of hv
  show decide _ = true
  rw [decide_eq_true_eq]; exact mskAll n hn
theorem al_130 {s v : Int} (hv : 0 ≤ v ∧ v < 4294967296) : decide (andn v 14 = 0) = alw s (idxOf 130) v := by
  obtain ⟨n, rfl, hn⟩ := nat_of hv
  show decide _ = (decide _ && decide _)
  rw [Bool.eq_iff_iff]; simp only [decide_eq_true_eq, Bool.and_eq_true]; exact msk14 n hn
theorem al_131 {s v : Int} (hv : 0 ≤ v ∧ v < 4294967296) : decide (andn v 1 = 0) = alw s (idxOf 131) v := al_low (k := 1) hv rfl (by omega)
theorem set_id {q s : Int} {x : FSt} {id v : Int} (h : isId id = false) (save : Bool) : x.set q s id v save = ⟨0, 0, 2, x⟩ := by simp [FSt.set, h]
theorem set_ns {q s : Int} {x : FSt} {id v : Int} (h : isId id = true) (h2 : savOf (idxOf id) = false) : x.set q s id v true = ⟨0, 1, 13, x⟩ := by simp [FSt.set, h, h2]
theorem set_no {q s : Int} {x : FSt} {id v : Int} {save b : Bool} (h : isId id = true) (h2 : (save && !savOf (idxOf id)) = false) (h4 : b = alw s (idxOf id) v) (h3 : (!b) = true) : x.set q s id v save = ⟨0, 0, 2, x⟩ := by
  have : alw s (idxOf id) v = false := by rw [← h4]; simpa using h3
  simp only [FSt.set, h, h2, this]; rfl
theorem set_ok {q s : Int} {x : FSt} {id v : Int} {save b : Bool} (h : isId id = true) (h2 : (save && !savOf (idxOf id)) = false) (h4 : b = alw s (idxOf id) v) (h3 : (!b) = false) : x.set q s id v save = ⟨wOf q id v, 0, 0, x.put id (wOf q id v) save⟩ := by
  have : alw s (idxOf id) v = true := by rw [← h4]; simpa using h3
  simp only [FSt.set, h, h2, this]; rfl
theorem ieq_eq {a b : Int} (h : ieq a b = true) : a = b := by simpa [ieq] using h
theorem al_2 {s v : Int} (hs : 1 ≤ s ∧ s ≤ 32) : decide (v < IntKind.u32.wrap s) = alw s (idxOf 2) v := by
  have : IntKind.u32.wrap s = s := by
    simp [IntKind.wrap, IntKind.signed, IntKind.bits]
    omega
  rw [this]; rfl
theorem or_val (a b : Int) (ha : 0 ≤ a ∧ a < 65536) (hb : 0 ≤ b ∧ b < 65536) : (BitVec.ofInt 32 a ||| BitVec.ofInt 32 (IntKind.u32.wrap (b * 65536))).toNat = (a + 65536 * b).toNat := by
  have e1 : IntKind.u32.wrap (b * 65536) = b * 65536 := by
    simp [IntKind.wrap, IntKind.signed, IntKind.bits]
    omega
  rw [e1, BitVec.toNat_or, BitVec.toNat_ofInt, BitVec.toNat_ofInt]
  obtain ⟨n, rfl⟩ := Int.eq_ofNat_of_zero_le ha.1
  obtain ⟨k, rfl⟩ := Int.eq_ofNat_of_zero_le hb.1
  have f1 : ((n : Int) % ((2 ^ 32 : Nat) : Int)).toNat = n := by omega
  have f2 : ((k : Int) * 65536 % ((2 ^ 32 : Nat) : Int)).toNat = k * 65536 := by omega
  rw [f1, f2]
  have := Nat.shiftLeft_add_eq_or_of_lt (a := k) (b := n) (i := 16) (by omega)
  rw [Nat.shiftLeft_eq] at this
  rw [Nat.or_comm, ← this]
  omega
theorem w7_or {q v : Int} (h : 1 ≤ q ∧ q ≤ 65535) (hv : 0 ≤ v ∧ v < 4294967296) :
    IntKind.u32.wrap ↑(BitVec.ofInt IntKind.u32.bits (min (v % 65536) (mostV q)) ||| BitVec.ofInt IntKind.u32.bits (IntKind.u32.wrap (min (v / 65536) (mostV q) * 2 ^ min (Int.toNat 16) IntKind.u32.bits))).toNat = w7 q v := by
  have hm : mostV q = q - 1 := by
    simp [mostV, IntKind.wrap, IntKind.signed, IntKind.bits]
    omega
  show IntKind.u32.wrap ((BitVec.ofInt 32 (min (v % 65536) (mostV q)) ||| BitVec.ofInt 32 (IntKind.u32.wrap (min (v / 65536) (mostV q) * 65536))).toNat : Int) = _
  rw [or_val _ _ (by omega) (by omega), hm]
  unfold w7
  generalize hx : min (v % 65536) (q - 1) = x
  generalize hy : min (v / 65536) (q - 1) = y
  simp [IntKind.wrap, IntKind.signed, IntKind.bits]
  omega
theorem al_7 {s v : Int} : al5 v = alw s (idxOf 7) v := rfl
theorem isId_or {id : Int} (h : isId id = true) (a : Int) : isId a = (ieq a id || isId a) := by
  cases e : ieq a id with
  | false => rfl
  | true =>
    have : a = id := by simpa [ieq] using e
    rw [this, h]; rfl
set_option maxHeartbeats 4000000 in
theorem set_hc (q s : Int) (h : 1 ≤ q ∧ q ≤ 65535) (hs : 1 ≤ s ∧ s ≤ 32) (x : FSt) (hhs : ∀ a, x.hs a = true → isId a = true) (id v : Int) (hv : 0 ≤ v ∧ v < 4294967296) (save : Bool) :
    HC Try.prog 16 [.ptr 0 0, u8 id, u32 v, .sb save] (objH q s x) [] 3 (fun _ : Unit => True) (fun _ => setOut q s (x.set q s id v save)) := by
  refine hc_of_run Try.func16 rfl (fun B hB hpin => ?_)
  refine goK hB s2_ok rfl rfl (by simp [conj, isPt25, isMp64]) ?_
  refine run_condF rfl rfl ?_
  refine goK hB s2_ok rfl rfl (by simp [conj]) ?_
  refine run_callC (list_hc q s h) named hB [] rfl rfl rfl rfl (by simp [conj]) (by simp [conj, less_rfl]) ?_
  rintro ⟨⟩ _
  refine ⟨show 0 ≤ 13 by omega, _, _, _, rfl, rfl, rfl, ?_⟩
  cases hid : isId id with
  | false =>
    refine goS 0 hB s2_ok rfl rfl (by simp [conj]) ?_
    refine run_mnone rfl rfl rfl conj_nil rfl conj_nil rfl rfl rfl hid rfl ?_
    refine goK hB s2_ok rfl rfl (by simp [conj]) ?_
    refine run_condT rfl (by decide) ?_
    refine goK hB s2_ok rfl rfl (by simp [conj]) ?_
    rw [set_id hid]
    exact run_retC hpin () trivial [0, 1, 2] rfl rfl (by simp [conj]) rfl (by simp [conj, less_rfl])
  | true =>
    rcases isId_cases hid with e | e | e | e | e | e | e | e | e | e | e | e
    · subst e
      refine goK hB s2_ok rfl rfl (by simp [conj, hv]) ?_
      refine run_condF rfl rfl ?_
      refine goK hB s2_ok rfl rfl (by simp [conj, hv]) ?_
      cases save with
      | true =>
        refine run_condF rfl rfl ?_
        refine goK hB s2_ok rfl rfl (by simp [conj, hv]) ?_
        refine run_cond rfl (fun h1 : (!decide (andn v 4294967047 = 0)) = true => ?_) (fun h1 : (!decide (andn v 4294967047 = 0)) = false => ?_)
        · refine goK hB s2_ok rfl rfl (by simp [conj, hv]) ?_
          rw [set_no hid rfl (al_1 hv) h1]
          exact run_retC hpin () trivial [0, 1, 2] rfl rfl (by simp [conj]) rfl (by simp [conj, less_rfl])
        · refine goK hB s2_ok rfl rfl (by simp [conj, hv]) ?_
          refine run_condT rfl rfl ?_
          refine goK hB s2_ok rfl rfl (by simp [conj, hv]) ?_
          rw [set_ok hid rfl (al_1 hv) h1]
          exact run_retC hpin () trivial [0, 1, 2] rfl rfl (by simp [conj]) rfl (by
            clear h1
            simp [conj, less_rfl, FSt.put, wOf]
            exact fun a ha => by rw [ieq_eq ha]; exact hid)
      | false =>
        refine run_condF rfl rfl ?_
        refine goK hB s2_ok rfl rfl (by simp [conj, hv]) ?_
        refine run_cond rfl (fun h1 : (!decide (andn v 4294967047 = 0)) = true => ?_) (fun h1 : (!decide (andn v 4294967047 = 0)) = false => ?_)
        · refine goK hB s2_ok rfl rfl (by simp [conj, hv]) ?_
          rw [set_no hid rfl (al_1 hv) h1]
          exact run_retC hpin () trivial [0, 1, 2] rfl rfl (by simp [conj]) rfl (by simp [conj, less_rfl])
        · refine goK hB s2_ok rfl rfl (by simp [conj, hv]) ?_
          refine run_condF rfl rfl ?_
          refine goK hB s2_ok rfl rfl (by simp [conj, hv]) ?_
          rw [set_ok hid rfl (al_1 hv) h1]
          exact run_retC hpin () trivial [0, 1, 2] rfl rfl (by simp [conj]) rfl (by
            clear h1
            simp [conj, less_rfl, FSt.put, wOf]
            exact fun a ha => by rw [ieq_eq ha]; exact hid)
    · subst e
      refine goK hB s2_ok rfl rfl (by simp [conj, hv]) ?_
      refine run_condF rfl rfl ?_
      refine goK hB s2_ok rfl rfl (by simp [conj, hv]) ?_
      cases save with
      | true =>
        refine run_condF rfl rfl ?_
        refine goK hB s2_ok rfl rfl (by simp [conj, hv]) ?_
        refine run_cond rfl (fun h1 : (!decide (v < IntKind.u32.wrap s)) = true => ?_) (fun h1 : (!decide (v < IntKind.u32.wrap s)) = false => ?_)
        · refine goK hB s2_ok rfl rfl (by simp [conj, hv]) ?_
          rw [set_no hid rfl (al_2 hs) h1]
          exact run_retC hpin () trivial [0, 1, 2] rfl rfl (by simp [conj]) rfl (by simp [conj, less_rfl])
        · refine goK hB s2_ok rfl rfl (by simp [conj, hv]) ?_
          refine run_condT rfl rfl ?_
          refine goK hB s2_ok rfl rfl (by simp [conj, hv]) ?_
          rw [set_ok hid rfl (al_2 hs) h1]
          exact run_retC hpin () trivial [0, 1, 2] rfl rfl (by simp [conj]) rfl (by
            clear h1
            simp [conj, less_rfl, FSt.put, wOf]
            exact fun a ha => by rw [ieq_eq ha]; exact hid)
      | false =>
        refine run_condF rfl rfl ?_
        refine goK hB s2_ok rfl rfl (by simp [conj, hv]) ?_
        refine run_cond rfl (fun h1 : (!decide (v < IntKind.u32.wrap s)) = true => ?_) (fun h1 : (!decide (v < IntKind.u32.wrap s)) = false => ?_)
        · refine goK hB s2_ok rfl rfl (by simp [conj, hv]) ?_
          rw [set_no hid rfl (al_2 hs) h1]
          exact run_retC hpin () trivial [0, 1, 2] rfl rfl (by simp [conj]) rfl (by simp [conj, less_rfl])
        · refine goK hB s2_ok rfl rfl (by simp [conj, hv]) ?_
          refine run_condF rfl rfl ?_
          refine goK hB s2_ok rfl rfl (by simp [conj, hv]) ?_
          rw [set_ok hid rfl (al_2 hs) h1]
          exact run_retC hpin () trivial [0, 1, 2] rfl rfl (by simp [conj]) rfl (by
            clear h1
            simp [conj, less_rfl, FSt.put, wOf]
            exact fun a ha => by rw [ieq_eq ha]; exact hid)
    · subst e
      refine goK hB s2_ok rfl rfl (by simp [conj, hv]) ?_
      refine run_condF rfl rfl ?_
      refine goK hB s2_ok rfl rfl (by simp [conj, hv]) ?_
      cases save with
      | true =>
        refine run_condF rfl rfl ?_
        refine goK hB s2_ok rfl rfl (by simp [conj, hv]) ?_
        refine run_cond rfl (fun h1 : (!decide (andn v 4194303 = 0)) = true => ?_) (fun h1 : (!decide (andn v 4194303 = 0)) = false => ?_)
        · refine goK hB s2_ok rfl rfl (by simp [conj, hv]) ?_
          rw [set_no hid rfl (al_4 hv) h1]
          exact run_retC hpin () trivial [0, 1, 2] rfl rfl (by simp [conj]) rfl (by simp [conj, less_rfl])
        · refine goK hB s2_ok rfl rfl (by simp [conj, hv]) ?_
          refine run_condT rfl rfl ?_
          refine goK hB s2_ok rfl rfl (by simp [conj, hv]) ?_
          rw [set_ok hid rfl (al_4 hv) h1]
          exact run_retC hpin () trivial [0, 1, 2] rfl rfl (by simp [conj]) rfl (by
            clear h1
            simp [conj, less_rfl, FSt.put, wOf]
            exact fun a ha => by rw [ieq_eq ha]; exact hid)
      | false =>
        refine run_condF rfl rfl ?_
        refine goK hB s2_ok rfl rfl (by simp [conj, hv]) ?_
        refine run_cond rfl (fun h1 : (!decide (andn v 4194303 = 0)) = true => ?_) (fun h1 : (!decide (andn v 4194303 = 0)) = false => ?_)
        · refine goK hB s2_ok rfl rfl (by simp [conj, hv]) ?_
          rw [set_no hid rfl (al_4 hv) h1]
          exact run_retC hpin () trivial [0, 1, 2] rfl rfl (by simp [conj]) rfl (by simp [conj, less_rfl])
        · refine goK hB s2_ok rfl rfl (by simp [conj, hv]) ?_
          refine run_condF rfl rfl ?_
          refine goK hB s2_ok rfl rfl (by simp [conj, hv]) ?_
          rw [set_ok hid rfl (al_4 hv) h1]
          exact run_retC hpin () trivial [0, 1, 2] rfl rfl (by simp [conj]) rfl (by
            clear h1
            simp [conj, less_rfl, FSt.put, wOf]
            exact fun a ha => by rw [ieq_eq ha]; exact hid)
    · subst e
      refine goK hB s2_ok rfl rfl (by simp [conj, hv]) ?_
      refine run_condF rfl rfl ?_
      refine goK hB s2_ok rfl rfl (by simp [conj, hv]) ?_
      cases save with
      | true =>
        refine run_condF rfl rfl ?_
        refine goK hB s2_ok rfl rfl (by simp [conj, hv]) ?_
        refine run_cond rfl (fun h1 : (!decide (andn v 131071 = 0)) = true => ?_) (fun h1 : (!decide (andn v 131071 = 0)) = false => ?_)
        · refine goK hB s2_ok rfl rfl (by simp [conj, hv]) ?_
          rw [set_no hid rfl (al_5 hv) h1]
          exact run_retC hpin () trivial [0, 1, 2] rfl rfl (by simp [conj]) rfl (by simp [conj, less_rfl])
        · refine goK hB s2_ok rfl rfl (by simp [conj, hv]) ?_
          refine run_condT rfl rfl ?_
          refine goK hB s2_ok rfl rfl (by simp [conj, hv]) ?_
          rw [set_ok hid rfl (al_5 hv) h1]
          exact run_retC hpin () trivial [0, 1, 2] rfl rfl (by simp [conj]) rfl (by
            clear h1
            simp [conj, less_rfl, FSt.put, wOf]
            exact fun a ha => by rw [ieq_eq ha]; exact hid)
      | false =>
        refine run_condF rfl rfl ?_
        refine goK hB s2_ok rfl rfl (by simp [conj, hv]) ?_
        refine run_cond rfl (fun h1 : (!decide (andn v 131071 = 0)) = true => ?_) (fun h1 : (!decide (andn v 131071 = 0)) = false => ?_)
        · refine goK hB s2_ok rfl rfl (by simp [conj, hv]) ?_
          rw [set_no hid rfl (al_5 hv) h1]
          exact run_retC hpin () trivial [0, 1, 2] rfl rfl (by simp [conj]) rfl (by simp [conj, less_rfl])
        · refine goK hB s2_ok rfl rfl (by simp [conj, hv]) ?_
          refine run_condF rfl rfl ?_
          refine goK hB s2_ok rfl rfl (by simp [conj, hv]) ?_
          rw [set_ok hid rfl (al_5 hv) h1]
          exact run_retC hpin () trivial [0, 1, 2] rfl rfl (by simp [conj]) rfl (by
            clear h1
            simp [conj, less_rfl, FSt.put, wOf]
            exact fun a ha => by rw [ieq_eq ha]; exact hid)
    · subst e
      refine goK hB s2_ok rfl rfl (by simp [conj, hv]) ?_
      refine run_condF rfl rfl ?_
      refine goK hB s2_ok rfl rfl (by simp [conj, hv]) ?_
      cases save with
      | true =>
        refine run_condF rfl rfl ?_
        refine goK hB s2_ok rfl rfl (by simp [conj, hv]) ?_
        refine run_cond rfl (fun h1 : (!decide (andn v 1 = 0)) = true => ?_) (fun h1 : (!decide (andn v 1 = 0)) = false => ?_)
        · refine goK hB s2_ok rfl rfl (by simp [conj, hv]) ?_
          rw [set_no hid rfl (al_6 hv) h1]
          exact run_retC hpin () trivial [0, 1, 2] rfl rfl (by simp [conj]) rfl (by simp [conj, less_rfl])
        · refine goK hB s2_ok rfl rfl (by simp [conj, hv]) ?_
          refine run_condT rfl rfl ?_
          refine goK hB s2_ok rfl rfl (by simp [conj, hv]) ?_
          rw [set_ok hid rfl (al_6 hv) h1]
          exact run_retC hpin () trivial [0, 1, 2] rfl rfl (by simp [conj]) rfl (by
            clear h1
            simp [conj, less_rfl, FSt.put, wOf]
            exact fun a ha => by rw [ieq_eq ha]; exact hid)
      | false =>
        refine run_condF rfl rfl ?_
        refine goK hB s2_ok rfl rfl (by simp [conj, hv]) ?_
        refine run_cond rfl (fun h1 : (!decide (andn v 1 = 0)) = true => ?_) (fun h1 : (!decide (andn v 1 = 0)) = false => ?_)
        · refine goK hB s2_ok rfl rfl (by simp [conj, hv]) ?_
          rw [set_no hid rfl (al_6 hv) h1]
          exact run_retC hpin () trivial [0, 1, 2] rfl rfl (by simp [conj]) rfl (by simp [conj, less_rfl])
        · refine goK hB s2_ok rfl rfl (by simp [conj, hv]) ?_
          refine run_condF rfl rfl ?_
          refine goK hB s2_ok rfl rfl (by simp [conj, hv]) ?_
          rw [set_ok hid rfl (al_6 hv) h1]
          exact run_retC hpin () trivial [0, 1, 2] rfl rfl (by simp [conj]) rfl (by
            clear h1
            simp [conj, less_rfl, FSt.put, wOf]
            exact fun a ha => by rw [ieq_eq ha]; exact hid)
    · subst e
      refine goK hB s2_ok rfl rfl (by simp [conj, hv]) ?_
      refine run_condF rfl rfl ?_
      refine goK hB s2_ok rfl rfl (by simp [conj, hv]) ?_
      cases save with
      | true =>
        refine run_condT rfl rfl ?_
        refine goK hB s2_ok rfl rfl (by simp [conj, hv]) ?_
        rw [set_ns hid rfl]
        exact run_retC hpin () trivial [0, 1, 2] rfl rfl (by simp [conj]) rfl (by simp [conj, less_rfl])
      | false =>
        refine run_condF rfl rfl ?_
        refine goK hB s2_ok rfl rfl (by simp [conj, hv]) ?_
        refine run_cond rfl (fun h1 : (!al5 v) = true => ?_) (fun h1 : (!al5 v) = false => ?_)
        · refine goK hB s2_ok rfl rfl (by simp [conj, hv]) ?_
          rw [set_no hid rfl al_7 h1]
          exact run_retC hpin () trivial [0, 1, 2] rfl rfl (by simp [conj]) rfl (by simp [conj, less_rfl])
        · refine goK hB s2_ok rfl rfl (by simp [conj, hv]) ?_
          refine run_condF rfl rfl ?_
          refine goK hB s2_ok rfl rfl (by simp [conj, hv]) ?_
          rw [set_ok hid rfl al_7 h1]
          exact run_retC hpin () trivial [0, 1, 2] rfl rfl (by simp [conj]) rfl (by
            clear h1
            simp [conj, less_rfl, FSt.put, wOf]
            have e7 := w7_or h hv
            simp at e7
            rw [e7]
            simp
            exact fun a ha => by rw [ieq_eq ha]; exact hid)
    · subst e
      refine goK hB s2_ok rfl rfl (by simp [conj, hv]) ?_
      refine run_condF rfl rfl ?_
      refine goK hB s2_ok rfl rfl (by simp [conj, hv]) ?_
      cases save with
      | true =>
        refine run_condF rfl rfl ?_
        refine goK hB s2_ok rfl rfl (by simp [conj, hv]) ?_
        refine run_cond rfl (fun h1 : (!decide (andn v 65535 = 0)) = true => ?_) (fun h1 : (!decide (andn v 65535 = 0)) = false => ?_)
        · refine goK hB s2_ok rfl rfl (by simp [conj, hv]) ?_
          rw [set_no hid rfl (al_8 hv) h1]
          exact run_retC hpin () trivial [0, 1, 2] rfl rfl (by simp [conj]) rfl (by simp [conj, less_rfl])
        · refine goK hB s2_ok rfl rfl (by simp [conj, hv]) ?_
          refine run_condT rfl rfl ?_
          refine goK hB s2_ok rfl rfl (by simp [conj, hv]) ?_
          rw [set_ok hid rfl (al_8 hv) h1]
          exact run_retC hpin () trivial [0, 1, 2] rfl rfl (by simp [conj]) rfl (by
            clear h1
            simp [conj, less_rfl, FSt.put, wOf]
            exact fun a ha => by rw [ieq_eq ha]; exact hid)
      | false =>
        refine run_condF rfl rfl ?_
        refine goK hB s2_ok rfl rfl (by simp [conj, hv]) ?_
        refine run_cond rfl (fun h1 : (!decide (andn v 65535 = 0)) = true => ?_) (fun h1 : (!decide (andn v 65535 = 0)) = false => ?_)
        · refine goK hB s2_ok rfl rfl (by simp [conj, hv]) ?_
          rw [set_no hid rfl (al_8 hv) h1]
          exact run_retC hpin () trivial [0, 1, 2] rfl rfl (by simp [conj]) rfl (by simp [conj, less_rfl])
        · refine goK hB s2_ok rfl rfl (by simp [conj, hv]) ?_
          refine run_condF rfl rfl ?_
          refine goK hB s2_ok rfl rfl (by simp [conj, hv]) ?_
          rw [set_ok hid rfl (al_8 hv) h1]
          exact run_retC hpin () trivial [0, 1, 2] rfl rfl (by simp [conj]) rfl (by
            clear h1
            simp [conj, less_rfl, FSt.put, wOf]
            exact fun a ha => by rw [ieq_eq ha]; exact hid)
    · subst e
      refine goK hB s2_ok rfl rfl (by simp [conj, hv]) ?_
      refine run_condF rfl rfl ?_
      refine goK hB s2_ok rfl rfl (by simp [conj, hv]) ?_
      cases save with
      | true =>
        refine run_condF rfl rfl ?_
        refine goK hB s2_ok rfl rfl (by simp [conj, hv]) ?_
        refine run_cond rfl (fun h1 : (!decide (andn v 1 = 0)) = true => ?_) (fun h1 : (!decide (andn v 1 = 0)) = false => ?_)
        · refine goK hB s2_ok rfl rfl (by simp [conj, hv]) ?_
          rw [set_no hid rfl (al_10 hv) h1]
          exact run_retC hpin () trivial [0, 1, 2] rfl rfl (by simp [conj]) rfl (by simp [conj, less_rfl])
        · refine goK hB s2_ok rfl rfl (by simp [conj, hv]) ?_
          refine run_condT rfl rfl ?_
          refine goK hB s2_ok rfl rfl (by simp [conj, hv]) ?_
          rw [set_ok hid rfl (al_10 hv) h1]
          exact run_retC hpin () trivial [0, 1, 2] rfl rfl (by simp [conj]) rfl (by
            clear h1
            simp [conj, less_rfl, FSt.put, wOf]
            exact fun a ha => by rw [ieq_eq ha]; exact hid)
      | false =>
        refine run_condF rfl rfl ?_
        refine goK hB s2_ok rfl rfl (by simp [conj, hv]) ?_
        refine run_cond rfl (fun h1 : (!decide (andn v 1 = 0)) = true => ?_) (fun h1 : (!decide (andn v 1 = 0)) = false => ?_)
        · refine goK hB s2_ok rfl rfl (by simp [conj, hv]) ?_
          rw [set_no hid rfl (al_10 hv) h1]
          exact run_retC hpin () trivial [0, 1, 2] rfl rfl (by simp [conj]) rfl (by simp [conj, less_rfl])
        · refine goK hB s2_ok rfl rfl (by simp [conj, hv]) ?_
          refine run_condF rfl rfl ?_
          refine goK hB s2_ok rfl rfl (by simp [conj, hv]) ?_
          rw [set_ok hid rfl (al_10 hv) h1]
          exact run_retC hpin () trivial [0, 1, 2] rfl rfl (by simp [conj]) rfl (by
            clear h1
            simp [conj, less_rfl, FSt.put, wOf]
            exact fun a ha => by rw [ieq_eq ha]; exact hid)
    · subst e
      refine goK hB s2_ok rfl rfl (by simp [conj, hv]) ?_
      refine run_condF rfl rfl ?_
      refine goK hB s2_ok rfl rfl (by simp [conj, hv]) ?_
      cases save with
      | true =>
        refine run_condF rfl rfl ?_
        refine goK hB s2_ok rfl rfl (by simp [conj, hv]) ?_
        refine run_cond rfl (fun h1 : (!decide (andn v 2281704447 = 0)) = true => ?_) (fun h1 : (!decide (andn v 2281704447 = 0)) = false => ?_)
        · refine goK hB s2_ok rfl rfl (by simp [conj, hv]) ?_
          rw [set_no hid rfl (al_11 hv) h1]
          exact run_retC hpin () trivial [0, 1, 2] rfl rfl (by simp [conj]) rfl (by simp [conj, less_rfl])
        · refine goK hB s2_ok rfl rfl (by simp [conj, hv]) ?_
          refine run_condT rfl rfl ?_
          refine goK hB s2_ok rfl rfl (by simp [conj, hv]) ?_
          rw [set_ok hid rfl (al_11 hv) h1]
          exact run_retC hpin () trivial [0, 1, 2] rfl rfl (by simp [conj]) rfl (by
            clear h1
            simp [conj, less_rfl, FSt.put, wOf]
            exact fun a ha => by rw [ieq_eq ha]; exact hid)
      | false =>
        refine run_condF rfl rfl ?_
        refine goK hB s2_ok rfl rfl (by simp [conj, hv]) ?_
        refine run_cond rfl (fun h1 : (!decide (andn v 2281704447 = 0)) = true => ?_) (fun h1 : (!decide (andn v 2281704447 = 0)) = false => ?_)
        · refine goK hB s2_ok rfl rfl (by simp [conj, hv]) ?_
          rw [set_no hid rfl (al_11 hv) h1]
          exact run_retC hpin () trivial [0, 1, 2] rfl rfl (by simp [conj]) rfl (by simp [conj, less_rfl])
        · refine goK hB s2_ok rfl rfl (by simp [conj, hv]) ?_
          refine run_condF rfl rfl ?_
          refine goK hB s2_ok rfl rfl (by simp [conj, hv]) ?_
          rw [set_ok hid rfl (al_11 hv) h1]
          exact run_retC hpin () trivial [0, 1, 2] rfl rfl (by simp [conj]) rfl (by
            clear h1
            simp [conj, less_rfl, FSt.put, wOf]
            exact fun a ha => by rw [ieq_eq ha]; exact hid)
    · subst e
      refine goK hB s2_ok rfl rfl (by simp [conj, hv]) ?_
      refine run_condF rfl rfl ?_
      refine goK hB s2_ok rfl rfl (by simp [conj, hv]) ?_
      cases save with
      | true =>
        refine run_condT rfl rfl ?_
        refine goK hB s2_ok rfl rfl (by simp [conj, hv]) ?_
        rw [set_ns hid rfl]
        exact run_retC hpin () trivial [0, 1, 2] rfl rfl (by simp [conj]) rfl (by simp [conj, less_rfl])
      | false =>
        refine run_condF rfl rfl ?_
        refine goK hB s2_ok rfl rfl (by simp [conj, hv]) ?_
        refine run_cond rfl (fun h1 : (!decide (andn v 4294967295 = 0)) = true => ?_) (fun h1 : (!decide (andn v 4294967295 = 0)) = false => ?_)
        · refine goK hB s2_ok rfl rfl (by simp [conj, hv]) ?_
          rw [set_no hid rfl (al_15 hv) h1]
          exact run_retC hpin () trivial [0, 1, 2] rfl rfl (by simp [conj]) rfl (by simp [conj, less_rfl])
        · refine goK hB s2_ok rfl rfl (by simp [conj, hv]) ?_
          refine run_condF rfl rfl ?_
          refine goK hB s2_ok rfl rfl (by simp [conj, hv]) ?_
          rw [set_ok hid rfl (al_15 hv) h1]
          exact run_retC hpin () trivial [0, 1, 2] rfl rfl (by simp [conj]) rfl (by
            clear h1
            simp [conj, less_rfl, FSt.put, wOf]
            exact fun a ha => by rw [ieq_eq ha]; exact hid)
    · subst e
      refine goK hB s2_ok rfl rfl (by simp [conj, hv]) ?_
      refine run_condF rfl rfl ?_
      refine goK hB s2_ok rfl rfl (by simp [conj, hv]) ?_
      cases save with
      | true =>
        refine run_condT rfl rfl ?_
        refine goK hB s2_ok rfl rfl (by simp [conj, hv]) ?_
        rw [set_ns hid rfl]
        exact run_retC hpin () trivial [0, 1, 2] rfl rfl (by simp [conj]) rfl (by simp [conj, less_rfl])
      | false =>
        refine run_condF rfl rfl ?_
        refine goK hB s2_ok rfl rfl (by simp [conj, hv]) ?_
        refine run_cond rfl (fun h1 : (!decide (andn v 14 = 0)) = true => ?_) (fun h1 : (!decide (andn v 14 = 0)) = false => ?_)
        · refine goK hB s2_ok rfl rfl (by simp [conj, hv]) ?_
          rw [set_no hid rfl (al_130 hv) h1]
          exact run_retC hpin () trivial [0, 1, 2] rfl rfl (by simp [conj]) rfl (by simp [conj, less_rfl])
        · refine goK hB s2_ok rfl rfl (by simp [conj, hv]) ?_
          refine run_condF rfl rfl ?_
          refine goK hB s2_ok rfl rfl (by simp [conj, hv]) ?_
          rw [set_ok hid rfl (al_130 hv) h1]
          exact run_retC hpin () trivial [0, 1, 2] rfl rfl (by simp [conj]) rfl (by
            clear h1
            simp [conj, less_rfl, FSt.put, wOf]
            exact fun a ha => by rw [ieq_eq ha]; exact hid)
    · subst e
      refine goK hB s2_ok rfl rfl (by simp [conj, hv]) ?_
      refine run_condF rfl rfl ?_
      refine goK hB s2_ok rfl rfl (by simp [conj, hv]) ?_
      cases save with
      | true =>
        refine run_condF rfl rfl ?_
        refine goK hB s2_ok rfl rfl (by simp [conj, hv]) ?_
        refine run_cond rfl (fun h1 : (!decide (andn v 1 = 0)) = true => ?_) (fun h1 : (!decide (andn v 1 = 0)) = false => ?_)
        · refine goK hB s2_ok rfl rfl (by simp [conj, hv]) ?_
          rw [set_no hid rfl (al_131 hv) h1]
          exact run_retC hpin () trivial [0, 1, 2] rfl rfl (by simp [conj]) rfl (by simp [conj, less_rfl])
        · refine goK hB s2_ok rfl rfl (by simp [conj, hv]) ?_
          refine run_condT rfl rfl ?_
          refine goK hB s2_ok rfl rfl (by simp [conj, hv]) ?_
          rw [set_ok hid rfl (al_131 hv) h1]
          exact run_retC hpin () trivial [0, 1, 2] rfl rfl (by simp [conj]) rfl (by
            clear h1
            simp [conj, less_rfl, FSt.put, wOf]
            exact fun a ha => by rw [ieq_eq ha]; exact hid)
      | false =>
        refine run_condF rfl rfl ?_
        refine goK hB s2_ok rfl rfl (by simp [conj, hv]) ?_
        refine run_cond rfl (fun h1 : (!decide (andn v 1 = 0)) = true => ?_) (fun h1 : (!decide (andn v 1 = 0)) = false => ?_)
        · refine goK hB s2_ok rfl rfl (by simp [conj, hv]) ?_
          rw [set_no hid rfl (al_131 hv) h1]
          exact run_retC hpin () trivial [0, 1, 2] rfl rfl (by simp [conj]) rfl (by simp [conj, less_rfl])
        · refine goK hB s2_ok rfl rfl (by simp [conj, hv]) ?_
          refine run_condF rfl rfl ?_
          refine goK hB s2_ok rfl rfl (by simp [conj, hv]) ?_
          rw [set_ok hid rfl (al_131 hv) h1]
          exact run_retC hpin () trivial [0, 1, 2] rfl rfl (by simp [conj]) rfl (by
            clear h1
            simp [conj, less_rfl, FSt.put, wOf]
            exact fun a ha => by rw [ieq_eq ha]; exact hid)
end Sx
