/- A region that draws its order: the rules. No condition but the callees' own words. -/
import Derived.Test.YtpjabkjacldgcaaEng17
import Derived.Orders
namespace Sx
open Go

def listedTo (n m : Nat) : Array Bool := (Array.range n).map (fun i => decide (i < m))
/-- What is left of an order when the first m operations are done. -/
def goF (ops : Array Oper) (m t : Nat) : List Nat := Region.linearise.go .any ops (ops.size - m) t (listedTo ops.size m) []
def cntL (n : Nat) (l : Array Bool) : Nat := (List.range n).countP (fun i => !l.getD i true)

theorem countP_one {f g : Nat → Bool} {i : Nat} (hf : f i = true) (hg : g i = false) (hs : ∀ j, j ≠ i → f j = g j) : ∀ {l : List Nat}, l.Nodup → i ∈ l → l.countP g + 1 = l.countP f
  | [], _, h => by cases h
  | a :: l, hn, h => by
    simp only [List.nodup_cons] at hn
    simp only [List.countP_cons]
    by_cases e : a = i
    · subst e
      have : l.countP g = l.countP f := by
        apply List.countP_congr
        intro x hx
        have : x ≠ a := by intro e; subst e; exact hn.1 hx
        rw [hs x this]
      rw [hf, hg, this]; simp
    · have hm : i ∈ l := by
        cases h with
        | head => exact absurd rfl e
        | tail _ hm => exact hm
      have := countP_one hf hg hs hn.2 hm
      rw [hs a e]; omega
theorem cnt_set {n i : Nat} {l : Array Bool} (hi : i < n) (hl : l.size = n) (h : l.getD i true = false) : cntL n (l.setIfInBounds i true) + 1 = cntL n l := by
  unfold cntL
  refine countP_one (i := i) (by simp [h]) ?_ (fun j hj => ?_) List.nodup_range (List.mem_range.2 hi)
  · simp [Array.getD_eq_getD_getElem?, Array.getElem?_setIfInBounds, hl, hi]
  · rw [getD_set_ne true (Ne.symm hj)]
theorem listedTo_get (n m i : Nat) (d : Bool) : (listedTo n m).getD i d = if i < n then decide (i < m) else d := by
  simp only [listedTo, Array.getD_eq_getD_getElem?, Array.getElem?_map, Array.getElem?_range]
  split <;> simp
theorem cnt_to (n m : Nat) (h : m ≤ n) : cntL n (listedTo n m) = n - m := by
  unfold cntL
  have : ∀ k, k ≤ n → (List.range k).countP (fun i => !(listedTo n m).getD i true) = k - m := by
    intro k
    induction k with
    | zero => intro _; simp
    | succ k ih =>
      intro hk
      rw [List.range_succ, List.countP_append, ih (by omega)]
      simp only [List.countP_cons, List.countP_nil, listedTo_get]
      rw [if_pos (show k < n by omega)]
      by_cases hm : k < m
      · simp [hm]; omega
      · simp [hm]; omega
  exact this n (Nat.le_refl _)
theorem go_succ (ops : Array Oper) (fuel t : Nat) (listed : Array Bool) (h : Region.ready .any ops listed ≠ []) :
    ∃ i t', i ∈ Region.ready .any ops listed ∧ Region.linearise.go .any ops (fuel + 1) t listed [] = i :: Region.linearise.go .any ops fuel t' (listed.setIfInBounds i true) [] ∧
      (Region.ready .any ops listed = [i] → t' = t) := by
  have hpos : 0 < (Region.ready .any ops listed).length := List.length_pos_iff.2 h
  have hlt : t % (Region.ready .any ops listed).length < (Region.ready .any ops listed).length := Nat.mod_lt _ hpos
  refine ⟨(Region.ready .any ops listed)[t % (Region.ready .any ops listed).length], t / (Region.ready .any ops listed).length, List.getElem_mem _, ?_, ?_⟩
  · have hget : (Region.ready .any ops listed)[t % (Region.ready .any ops listed).length]? = some (Region.ready .any ops listed)[t % (Region.ready .any ops listed).length] := List.getElem?_eq_getElem hlt
    have e : Region.linearise.go .any ops (fuel + 1) t listed [] = match (Region.ready .any ops listed)[t % (Region.ready .any ops listed).length]? with
      | some i => Region.linearise.go .any ops fuel (t / (Region.ready .any ops listed).length) (listed.setIfInBounds i true) [i]
      | none => [] := rfl
    rw [e, hget]
    simp only
    rw [linearise_go_acc]; rfl
  · intro h1; rw [h1]; simp

section
variable {P : Program} {M : Mode} {ro : Hp} {ops : Array Oper} {T : List (List Nat)} {n nx m b : Nat} {Sl : Nat → Slots} {Hs : Nat → Hp} {dr : Nat → DR} {B : Base}

/-- The set that is listed holds what its members wait for. -/
theorem wait_closed (hT : TOk ops T) {L : Nat → Prop} (hd : ∀ j o, L j → ops[j]? = some o → ∀ p ∈ predsOf o.after.toList, L p) : ∀ (N j : Nat), j ≤ N → L j → ∀ i, inT T i j = true → (∃ o, ops[j]? = some o) → L i
  | N, j, hj, hL, i, hi, ⟨o, ho⟩ => by
    obtain ⟨l, h1, h2, h3⟩ := hT.row j o ho
    obtain ⟨l', g1, g2⟩ := inT_spec.1 hi
    rw [h1] at g1; injection g1 with g1; subst g1
    rcases h3 i g2 with h | ⟨p, h4, q, h5, h6⟩
    · exact hd j o hL ho i h
    · cases N with
      | zero => have := h2 p h4; omega
      | succ N =>
        have hlt := h2 p h4
        have hjs : j < ops.size := (Array.getElem?_eq_some_iff.1 ho).1
        exact wait_closed hT hd N p (by omega) (hd j o hL ho p h4) i (inT_spec.2 ⟨q, h5, h6⟩) ⟨ops[p], Array.getElem?_eq_getElem (by omega)⟩
theorem wait_ready (hT : TOk ops T) {L : Nat → Prop} (hd : ∀ j o, L j → ops[j]? = some o → ∀ p ∈ predsOf o.after.toList, L p) {j : Nat} {o : Oper} (ho : ops[j]? = some o) (hr : ∀ p ∈ predsOf o.after.toList, L p) {i : Nat}
    (hi : inT T i j = true) : L i := by
  obtain ⟨l, h1, h2, h3⟩ := hT.row j o ho
  obtain ⟨l', g1, g2⟩ := inT_spec.1 hi
  rw [h1] at g1; injection g1 with g1; subst g1
  rcases h3 i g2 with h | ⟨p, h4, q, h5, h6⟩
  · exact hr i h
  · have hlt := h2 p h4
    have hjs : j < ops.size := (Array.getElem?_eq_some_iff.1 ho).1
    exact wait_closed hT hd p p (Nat.le_refl _) (hr p h4) i (inT_spec.2 ⟨q, h5, h6⟩) ⟨ops[p], Array.getElem?_eq_getElem (by omega)⟩

theorem barRow_spec {T : List (List Nat)} {j : Nat} : ∀ {i c : Nat}, barRow T j i c = true → ∀ x, i ≤ x → x < i + c → inT T x j = true
  | i, 0, h, x, h1, h2 => by omega
  | i, c + 1, h, x, h1, h2 => by
    simp only [barRow, Bool.and_eq_true] at h
    by_cases e : x = i
    · subst e; exact h.1
    · exact barRow_spec h.2 x (by omega) (by omega)
theorem barAll_spec {T : List (List Nat)} {m b : Nat} : ∀ {j c : Nat}, barAll T m b j c = true → ∀ y, j ≤ y → y < j + c → ∀ i, i < b → inT T (m + i) y = true
  | j, 0, h, y, h1, h2 => by omega
  | j, c + 1, h, y, h1, h2 => by
    simp only [barAll, Bool.and_eq_true] at h
    intro i hi
    by_cases e : y = j
    · subst e; exact barRow_spec h.1 (m + i) (by omega) (by omega)
    · exact barAll_spec h.2 y (by omega) (by omega) i hi
theorem indepRow_spec {T : List (List Nat)} {i : Nat} {a : DR} : ∀ {j : Nat} {l : List DR}, indepRow T i a j l = true → ∀ (k : Nat) (d : DR), l[k]? = some d → inT T i (j + k) = true ∨ indep a d = true
  | j, [], h, k, d, hk => by simp at hk
  | j, x :: l, h, k, d, hk => by
    simp only [indepRow, Bool.and_eq_true, Bool.or_eq_true] at h
    cases k with
    | zero => simp at hk; subst hk; exact h.1
    | succ k =>
      have := indepRow_spec h.2 k d (by simpa using hk)
      rw [show j + (k + 1) = j + 1 + k by omega]; exact this
theorem indepAll_spec {T : List (List Nat)} : ∀ {i : Nat} {l : List DR}, indepAll T i l = true → ∀ (a b : Nat) (x y : DR), a < b → l[a]? = some x → l[b]? = some y → inT T (i + a) (i + b) = true ∨ indep x y = true
  | i, [], h, a, b, x, y, hab, ha, hb => by simp at ha
  | i, z :: l, h, a, b, x, y, hab, ha, hb => by
    simp only [indepAll, Bool.and_eq_true] at h
    cases a with
    | zero =>
      simp at ha; subst ha
      cases b with
      | zero => omega
      | succ b =>
        have := indepRow_spec h.1 b y (by simpa using hb)
        rw [Nat.add_zero, show i + (b + 1) = i + 1 + b by omega]; exact this
    | succ a =>
      cases b with
      | zero => omega
      | succ b =>
        have := indepAll_spec h.2 a b x y (by omega) (by simpa using ha) (by simpa using hb)
        rw [show i + (a + 1) = i + 1 + a by omega, show i + (b + 1) = i + 1 + b by omega]; exact this

theorem blk_any {dd : List Deferred} (hB : B.ok) (hP : Named P) (hM : SumOk P M.sum) (hT : TOk ops T) (hch : Chain P M ro ops n nx m b Sl Hs dr) (hin : Indeps T m b dr) (h0 : ∀ t v, look t (Sl 0) = some v → t < n)
    (hle : m + b ≤ ops.size) (hbar : ∀ y, m + b ≤ y → y < ops.size → ∀ i, i < b → inT T (m + i) y = true) (fb : Frame) (k : List Item) (fs : List Frame) :
    ∀ (fuel t : Nat) (listed : Array Bool) (β : Env) (tmps : Array Value) (w : World), listed.size = ops.size → cntL ops.size listed = fuel → (∀ i, i < m → listed.getD i false = true) →
      (∀ i, m + b ≤ i → listed.getD i false = false) → (∀ j o, listed.getD j false = true → ops[j]? = some o → ∀ p ∈ predsOf o.after.toList, listed.getD p false = true) →
      Inv b nx Sl Hs dr ro B (fun i => i < b ∧ listed.getD (m + i) false = true) β tmps w → tmps.size = n →
      ∃ t' β' tmps' w', Steps P (lone (fb.atR ⟨tmps, dd⟩ (.inRegion ops (Region.linearise.go .any ops fuel t listed []) :: k)) fs w) (lone (fb.atR ⟨tmps', dd⟩ (.inRegion ops (goF ops (m + b) t') :: k)) fs w') ∧
        Inv b nx Sl Hs dr ro B (fun i => i < b) β' tmps' w' ∧ tmps'.size = n ∧ β.le β' := by
  intro fuel
  induction fuel with
  | zero =>
    intro t listed β tmps w hls hcnt hlo hhi hdn hI hsz
    have hall : ∀ i, i < b → listed.getD (m + i) false = true := by
      intro i hi
      cases hg : listed.getD (m + i) false with
      | true => rfl
      | false =>
        exfalso
        have hlt : m + i < ops.size := by omega
        have hgt : listed.getD (m + i) true = false := by
          rw [Array.getD_eq_getD_getElem?, Array.getElem?_eq_getElem (by omega)] at hg ⊢
          simpa using hg
        have := cnt_set hlt hls hgt
        omega
    have hlist : listed = listedTo ops.size (m + b) := by
      apply Array.ext (by simp [listedTo, hls])
      intro i h1 h2
      have e1 : listed.getD i false = listed[i] := by rw [Array.getD_eq_getD_getElem?, Array.getElem?_eq_getElem h1]; rfl
      have e2 : (listedTo ops.size (m + b)).getD i false = (listedTo ops.size (m + b))[i] := by rw [Array.getD_eq_getD_getElem?, Array.getElem?_eq_getElem h2]; rfl
      rw [← e1, ← e2, listedTo_get, if_pos (by omega)]
      by_cases hib : i < m + b
      · simp only [hib, decide_true]
        by_cases him : i < m
        · exact hlo i him
        · have := hall (i - m) (by omega); rw [show m + (i - m) = i by omega] at this; exact this
      · simp only [hib, decide_false]; exact hhi i (by omega)
    have hfu : 0 = ops.size - (m + b) := by rw [← cnt_to ops.size (m + b) hle, ← hlist]; exact hcnt.symm
    refine ⟨t, β, tmps, w, ?_, ?_, hsz, Env.le_refl _⟩
    · unfold goF; rw [← hfu, ← hlist]; exact .refl _ _
    · have : (fun i => i < b ∧ listed.getD (m + i) false = true) = (fun i => i < b) := by funext i; apply propext; exact ⟨fun h => h.1, fun h => ⟨h, hall i h⟩⟩
      rw [this] at hI; exact hI
  | succ fuel ih =>
    intro t listed β tmps w hls hcnt hlo hhi hdn hI hsz
    by_cases hall : ∀ i, i < b → listed.getD (m + i) false = true
    · have hlist : listed = listedTo ops.size (m + b) := by
        apply Array.ext (by simp [listedTo, hls])
        intro i h1 h2
        have e1 : listed.getD i false = listed[i] := by rw [Array.getD_eq_getD_getElem?, Array.getElem?_eq_getElem h1]; rfl
        have e2 : (listedTo ops.size (m + b)).getD i false = (listedTo ops.size (m + b))[i] := by rw [Array.getD_eq_getD_getElem?, Array.getElem?_eq_getElem h2]; rfl
        rw [← e1, ← e2, listedTo_get, if_pos (by omega)]
        by_cases hib : i < m + b
        · simp only [hib, decide_true]
          by_cases him : i < m
          · exact hlo i him
          · have := hall (i - m) (by omega); rw [show m + (i - m) = i by omega] at this; exact this
        · simp only [hib, decide_false]; exact hhi i (by omega)
      have hfu : fuel + 1 = ops.size - (m + b) := by rw [← cnt_to ops.size (m + b) hle, ← hlist]; exact hcnt.symm
      refine ⟨t, β, tmps, w, ?_, ?_, hsz, Env.le_refl _⟩
      · unfold goF; rw [← hfu, ← hlist]; exact .refl _ _
      · have : (fun i => i < b ∧ listed.getD (m + i) false = true) = (fun i => i < b) := by funext i; apply propext; exact ⟨fun h => h.1, fun h => ⟨h, hall i h⟩⟩
        rw [this] at hI; exact hI
    · -- the first that is not listed is ready
      have hex : ∃ i0, i0 < b ∧ listed.getD (m + i0) false = false ∧ ∀ i, i < i0 → listed.getD (m + i) false = true := by
        have : ∀ N, (∃ i, i < N ∧ i < b ∧ listed.getD (m + i) false = false) → ∃ i0, i0 < b ∧ listed.getD (m + i0) false = false ∧ ∀ i, i < i0 → listed.getD (m + i) false = true := by
          intro N
          induction N with
          | zero => rintro ⟨i, h, _⟩; omega
          | succ N ihN =>
            rintro ⟨i, h1, h2, h3⟩
            by_cases hsm : ∃ i, i < N ∧ i < b ∧ listed.getD (m + i) false = false
            · exact ihN hsm
            · have hiN : i = N := by
                rcases Nat.lt_or_ge i N with g | g
                · exact absurd ⟨i, g, h2, h3⟩ hsm
                · omega
              subst hiN
              refine ⟨i, h2, h3, fun i' hi' => ?_⟩
              cases hg : listed.getD (m + i') false with
              | true => rfl
              | false => exact absurd ⟨i', hi', by omega, hg⟩ hsm
        refine this b ?_
        apply Classical.byContradiction
        intro hno
        apply hall
        intro i hi
        cases hg : listed.getD (m + i) false with
        | true => rfl
        | false => exact absurd ⟨i, hi, hi, hg⟩ hno
      obtain ⟨i0, i1, i2, i3⟩ := hex
      have toTrue : ∀ i, i < ops.size → listed.getD i true = listed.getD i false := by
        intro i hi
        rw [Array.getD_eq_getD_getElem?, Array.getD_eq_getD_getElem?, Array.getElem?_eq_getElem (by omega)]; rfl
      have hr0 : m + i0 ∈ Region.ready .any ops listed := by
        rw [mem_ready]
        have hlt : m + i0 < ops.size := by omega
        refine ⟨by rw [toTrue _ hlt]; exact i2, ops[m + i0], Array.getElem?_eq_getElem hlt, fun e he hb => ?_⟩
        obtain ⟨l, _, g2, _⟩ := hT.row (m + i0) ops[m + i0] (Array.getElem?_eq_getElem hlt)
        have hp : e.on ∈ predsOf (ops[m + i0]).after.toList := predsOf_mem.2 ⟨e, by simpa using he, hb, rfl⟩
        have hlt2 := g2 e.on hp
        by_cases hm : e.on < m
        · exact hlo _ hm
        · have := i3 (e.on - m) (by omega)
          rw [show m + (e.on - m) = e.on by omega] at this; exact this
      obtain ⟨i, t', q1, q2, _⟩ := go_succ ops fuel t listed (fun e => by rw [e] at hr0; cases hr0)
      rw [mem_ready] at q1
      obtain ⟨q3, o, q4, q5⟩ := q1
      have hilt : i < ops.size := (Array.getElem?_eq_some_iff.1 q4).1
      have hnl : listed.getD i false = false := by rw [← toTrue i hilt]; exact q3
      have him : m ≤ i := by
        rcases Nat.lt_or_ge i m with g | g
        · rw [hlo i g] at hnl; cases hnl
        · exact g
      have hpr : ∀ p ∈ predsOf o.after.toList, listed.getD p false = true := by
        intro p hp
        obtain ⟨e, e1, e2, e3⟩ := predsOf_mem.1 hp
        rw [← e3]; exact q5 e (by simpa using e1) e2
      have hib : i < m + b := by
        rcases Nat.lt_or_ge i (m + b) with g | g
        · exact g
        · have := wait_ready hT (L := fun i => listed.getD i false = true) hdn q4 hpr (hbar i g hilt i0 i1)
          rw [i2] at this; cases this
      obtain ⟨j, rfl⟩ : ∃ j, i = m + j := ⟨i - m, by omega⟩
      have hj : j < b := by omega
      have hX : Closed T m b (fun i => i < b ∧ listed.getD (m + i) false = true) := by
        refine ⟨fun i h => h.1, fun i j' h hi hTT => ⟨hi, ?_⟩⟩
        exact wait_closed hT (L := fun i => listed.getD i false = true) hdn (m + j') (m + j') (Nat.le_refl _) h.2 (m + i) hTT ⟨ops[m + j'], Array.getElem?_eq_getElem (by have := h.1; omega)⟩
      have hjX : ¬ (fun i => i < b ∧ listed.getD (m + i) false = true) j := by
        rintro ⟨_, h⟩; rw [hnl] at h; cases h
      have hpre : ∀ i, i < b → inT T (m + i) (m + j) = true → (fun i => i < b ∧ listed.getD (m + i) false = true) i := by
        intro i hi hTT
        exact ⟨hi, wait_ready hT (L := fun i => listed.getD i false = true) hdn q4 hpr hTT⟩
      obtain ⟨β1, w1, v, d1, d2, d4⟩ := op_did hP hM hch hin h0 hX hj hjX hpre hI hsz fb k fs (Region.linearise.go .any ops fuel t' (listed.setIfInBounds (m + j) true) [])
      have hI1 := inv_step (dd := dd) hB hch hin hX hj hjX hpre hI hsz d1 d2
      have hset : ∀ x, (listed.setIfInBounds (m + j) true).getD x false = if x = m + j then true else listed.getD x false := by
        intro x
        by_cases e : x = m + j
        · subst e; simp [Array.getD_eq_getD_getElem?, Array.getElem?_setIfInBounds, hls, hilt]
        · rw [if_neg e, getD_set_ne false (Ne.symm e)]
      have hXeq : (fun i => (i < b ∧ listed.getD (m + i) false = true) ∨ i = j) = (fun i => i < b ∧ (listed.setIfInBounds (m + j) true).getD (m + i) false = true) := by
        funext x; apply propext
        rw [hset]
        constructor
        · rintro (⟨h1, h2⟩ | rfl)
          · refine ⟨h1, ?_⟩; split
            · rfl
            · exact h2
          · exact ⟨hj, by simp⟩
        · rintro ⟨h1, h2⟩
          split at h2
          · exact .inr (by omega)
          · exact .inl ⟨h1, h2⟩
      rw [hXeq] at hI1
      have hsz1 : (Act.put ⟨tmps, dd⟩ (dr j).dst v).tmps.size = n := by cases (dr j).dst <;> simp [Act.put, hsz]
      obtain ⟨t2, β2, tmps2, w2, s1, s2, s3, s4⟩ := ih t' (listed.setIfInBounds (m + j) true) β1 (Act.put ⟨tmps, dd⟩ (dr j).dst v).tmps w1 (by simp [hls]) (by have := cnt_set hilt hls q3; omega)
        (fun x hx => by rw [hset]; split <;> first | rfl | exact hlo x hx) (fun x hx => by rw [hset, if_neg (by omega)]; exact hhi x hx)
        (fun x o' hx ho p hp => by
          rw [hset] at hx ⊢
          split
          · rfl
          · split at hx
            · rename_i e; subst e
              rw [q4] at ho; injection ho with ho; subst ho
              exact hpr p hp
            · exact hdn x o' hx ho p hp) hI1 hsz1
      refine ⟨t2, β2, tmps2, w2, ?_, s2, s3, Env.le_trans d1.le s4⟩
      rw [q2]
      refine Steps.trans d4 ?_
      rw [put_eq]; exact s1
end

section
variable {P : Program} {M : Mode} {ro : Hp} {B : Base} {f : FuncId} {R : Ending → World → Prop}

/-- The region begins. -/
theorem run_draw0 (hmix : P.follows .mixedOrders = true) {fn : FId} {n id : Nat} {sl : Slots} {ops : Array Oper} {k : List SI} {rest : List SFr} {hp : Hp} {nx : Nat}
    (h : ∀ t, Run P ro B f R ⟨⟨fn, n, sl, .reg ops 0 [] (some (goF ops 0 t)) :: k⟩, rest, hp, nx⟩) : Run P ro B f R ⟨⟨fn, n, sl, .code (.region id ops true) :: k⟩, rest, hp, nx⟩ := by
  intro β w fr frs cs hf hfs hs
  have hst := stepR_region_draw (P := P) (b := fr) (a := ⟨fr.tmps, dfr fn.dfs⟩) (k := k.map SI.item) (cs := frs ++ cs) (w := w) (ops := ops) (id := id)
  have hsched : Region.schedule (P.follows .mixedOrders) ops (w.tape w.drawn (.order fr.fn id)) = goF ops 0 (w.tape w.drawn (.order fr.fn id)) := by
    unfold Region.schedule goF
    rw [hmix]
    simp only [Bool.true_or, if_true, Region.linearise, Nat.sub_zero]
    congr 1
    apply Array.ext (by simp [listedTo])
    intro i h1 h2
    simp [listedTo]
  rw [hsched] at hst
  have key := h (w.tape w.drawn (.order fr.fn id)) β { w with drawn := w.drawn + 1 } (fr.atR ⟨fr.tmps, dfr fn.dfs⟩ ((SI.reg ops 0 [] (some (goF ops 0 (w.tape w.drawn (.order fr.fn id)))) :: k).map SI.item)) frs cs
    (FrRel.of hf.fn hf.rnd hf.kind hf.size hf.slot hf.lt (fun y hy => by
      cases hy with
      | head => intro i hi; simp at hi
      | tail _ hm => exact hf.ok y (List.mem_cons_of_mem _ hm))) hfs ⟨⟨hs.own, hs.apart, hs.read, hs.old, hs.os, hs.tape, hs.output, hs.size, hs.pin⟩, hs.fresh⟩
  obtain ⟨e, w2, fr2, hR, hc, r⟩ := key
  refine ⟨e, w2, fr2, hR, .of_steps (.one ?_) hc, r⟩
  have := hf.at
  rw [this]
  exact hst

/-- A block of b operations from the m-th on, in whatever order. -/
theorem run_draw (b : Nat) (hP : Named P) (hB : B.ok) (hM : SumOk P M.sum) {fn : FId} {n : Nat} {sl sl' : Slots} {ops : Array Oper} {m t : Nat} {k : List SI} {rest : List SFr} {hp hp' : Hp} {nx : Nat} {T : List (List Nat)} {cs : List Prop} {l : List DR}
    (hT : closeGo [] ops.toList = some T) (hb : dblk P M ro ops n ((ops.toList.drop m).take b) nx sl hp [] = some (cs, sl', hp', l)) (hle : Nat.ble (m + b) ops.size = true) (hi : indepAll T m l = true)
    (hbar : barAll T m b (m + b) (ops.size - (m + b)) = true) (hc : conj cs)
    (h : ∀ t, Run P ro B f R ⟨⟨fn, n, sl', .reg ops (m + b) [] (some (goF ops (m + b) t)) :: k⟩, rest, hp', nx + b⟩) : Run P ro B f R ⟨⟨fn, n, sl, .reg ops m [] (some (goF ops m t)) :: k⟩, rest, hp, nx⟩ := by
  have hle := ble_nat hle
  have hlen : ((ops.toList.drop m).take b).length = b := by simp; omega
  obtain ⟨_, Sl, Hs, dr, c1, c2, c3, c4, hch, c5⟩ := dblk_chain (m := m) hb (all_conj hc) (fun i hi => by
    rw [hlen] at hi
    rw [List.getElem?_take, if_pos hi, List.getElem?_drop]; simp)
  rw [hlen] at c3 c4 hch c5
  have hin : Indeps T m b dr := fun i j hij hj hT0 => by
    rcases indepAll_spec hi i j (dr i) (dr j) hij (c5 i (by omega)) (c5 j hj) with h | h
    · rw [h] at hT0; cases hT0
    · exact h
  have hbar' : ∀ y, m + b ≤ y → y < ops.size → ∀ i, i < b → inT T (m + i) y = true := fun y h1 h2 i hi => barAll_spec hbar y h1 (by omega) i hi
  intro β w fr frs cs' hf hfs hs
  have last0S : ∀ t k, LastS b dr (fun i => i < b ∧ (listedTo ops.size m).getD (m + i) false = true) t k → k = 0 := by
    rintro t k ⟨_, h2 | ⟨⟨h3, h4⟩, _⟩, _⟩
    · exact h2
    · rw [listedTo_get] at h4; split at h4 <;> simp at h4 <;> omega
  have last0H : ∀ t k, LastH b dr (fun i => i < b ∧ (listedTo ops.size m).getD (m + i) false = true) t k → k = 0 := by
    rintro t k ⟨_, h2 | ⟨⟨h3, h4⟩, _⟩, _⟩
    · exact h2
    · rw [listedTo_get] at h4; split at h4 <;> simp at h4 <;> omega
  have hI : Inv b nx Sl Hs dr ro B (fun i => i < b ∧ (listedTo ops.size m).getD (m + i) false = true) β fr.tmps w := by
    refine ⟨?_, ?_, ?_, ?_, hs.read, hs.old, hs.os, hs.tape, hs.output, hs.size, hs.pin⟩
    · intro t k v hL hl
      have := last0S t k hL; subst this
      rw [c1] at hl; exact hf.slot t v hl
    · intro t k s hL hl
      have := last0H t k hL; subst this
      rw [c2] at hl; exact hs.own t s hl
    · intro t k s t' k' s' hL hl hL' hl' ls ls' hne
      have := last0H t k hL; subst this
      have := last0H t' k' hL'; subst this
      rw [c2] at hl hl'; exact hs.apart t t' s s' hl hl' ls ls' hne
    · intro i bl hb
      left
      rcases Nat.lt_or_ge i nx with g | g
      · exact g
      · rw [hs.fresh i g] at hb; cases hb
  obtain ⟨t', β', tmps', w', s1, s2, s3, s4⟩ := blk_any (dd := dfr fn.dfs) hB hP hM (tok_of hT) hch hin (by rw [c1]; exact hf.lt) hle hbar' fr (k.map SI.item) (frs ++ cs') (ops.size - m) t (listedTo ops.size m) β fr.tmps w (by simp [listedTo])
    (cnt_to _ _ (by omega)) (fun i hi => by rw [listedTo_get, if_pos (by omega)]; simp [hi]) (fun i hi => by rw [listedTo_get]; split <;> simp; omega)
    (fun j o hj ho p hp' => by
      rw [listedTo_get] at hj ⊢
      split at hj
      · simp at hj
        obtain ⟨_, _, g2, _⟩ := (tok_of hT).row j o ho
        have := g2 p hp'
        rw [if_pos (by omega)]; simp; omega
      · cases hj) hI hf.size
  have lastAll : ∀ t, ∃ kk, LastS b dr (fun i => i < b) t kk ∧ look t (Sl kk) = look t sl' := by
    intro t
    obtain ⟨kk, h1, h2, h3⟩ := last_before (fun i => (dr i).dst = some t) b
    refine ⟨kk, ⟨h1, ?_, ?_⟩, ?_⟩
    · by_cases hk : kk = 0
      · exact .inl hk
      · exact .inr ⟨by omega, h2.resolve_left hk⟩
    · intro i hi hd
      rcases Nat.lt_or_ge i kk with g | g
      · exact g
      · exact absurd hd (h3 i g hi)
    · have := keep_look hch t (b - kk) kk (by omega) (fun i g1 g2 => h3 i g1 (by omega))
      rw [show kk + (b - kk) = b by omega, c3] at this; exact this.symm
  have lastAllH : ∀ t, ∃ kk, LastH b dr (fun i => i < b) t kk ∧ hget t (Hs kk) = hget t hp' := by
    intro t
    obtain ⟨kk, h1, h2, h3⟩ := last_before (fun i => t ∈ (dr i).mod) b
    refine ⟨kk, ⟨h1, ?_, ?_⟩, ?_⟩
    · by_cases hk : kk = 0
      · exact .inl hk
      · exact .inr ⟨by omega, h2.resolve_left hk⟩
    · intro i hi hd
      rcases Nat.lt_or_ge i kk with g | g
      · exact g
      · exact absurd hd (h3 i g hi)
    · have := keep_hget hch t (b - kk) kk (by omega) (fun i g1 g2 => h3 i g1 (by omega))
      rw [show kk + (b - kk) = b by omega, c4] at this; exact this.symm
  have hmem : Sat β' hp' ro B (nx + b) w' := by
    refine ⟨⟨?_, ?_, s2.read, s2.old, s2.os, s2.tape, s2.output, s2.size, s2.pin⟩, ?_⟩
    · intro t s ht
      obtain ⟨kk, k1, k2⟩ := lastAllH t
      exact s2.H t kk s k1 (by rw [k2]; exact ht)
    · intro t u s s' ht hu hne
      obtain ⟨kk, k1, k2⟩ := lastAllH t
      obtain ⟨kk', k1', k2'⟩ := lastAllH u
      exact s2.A t kk s u kk' s' k1 (by rw [k2]; exact ht) k1' (by rw [k2']; exact hu) hne
    · intro i hi
      cases hb' : β' i with
      | none => rfl
      | some bl =>
        rcases s2.F i bl hb' with h | ⟨j, h1, h2⟩
        · omega
        · omega
  have hlt : ∀ t v, look t sl' = some v → t < n := by rw [← c3]; exact chain_lt hch (by rw [c1]; exact hf.lt) b (Nat.le_refl _)
  have key := h t' β' w' (fr.atR ⟨tmps', dfr fn.dfs⟩ ((SI.reg ops (m + b) [] (some (goF ops (m + b) t')) :: k).map SI.item)) frs cs' (FrRel.of hf.fn hf.rnd hf.kind s3 (fun t v ht => by
      obtain ⟨kk, k1, k2⟩ := lastAll t
      exact s2.S t kk v k1 (by rw [k2]; exact ht)) hlt (fun y hy => by
      cases hy with
      | head => intro i hi; simp at hi
      | tail _ hm => exact hf.ok y (List.mem_cons_of_mem _ hm))) (hfs.mono s4) hmem
  obtain ⟨e, w2, fr2, hR, hcm, r⟩ := key
  refine ⟨e, w2, fr2, hR, .of_steps ?_ hcm, r⟩
  have := hf.at
  rw [this]
  exact s1

/-- One operation for which all later ones wait: it is the next. -/
theorem goF_one {ops : Array Oper} {m t : Nat} {T : List (List Nat)} (hT : TOk ops T) (hm : m < ops.size) (hbar : ∀ y, m + 1 ≤ y → y < ops.size → inT T m y = true) : goF ops m t = m :: goF ops (m + 1) t := by
  have hr : Region.ready .any ops (listedTo ops.size m) = [m] := by
    have hmem : ∀ i, i ∈ Region.ready .any ops (listedTo ops.size m) ↔ i = m := by
      intro i
      rw [mem_ready]
      constructor
      · rintro ⟨h1, o, h2, h3⟩
        have hi : i < ops.size := (Array.getElem?_eq_some_iff.1 h2).1
        rw [listedTo_get, if_pos hi] at h1
        simp at h1
        rcases Nat.eq_or_lt_of_le h1 with g | g
        · exact g.symm
        · exfalso
          have hw := wait_ready hT (L := fun i => (listedTo ops.size m).getD i false = true) (fun j o hj ho p hp => by
            rw [listedTo_get] at hj ⊢
            split at hj
            · simp at hj
              obtain ⟨_, _, g2, _⟩ := hT.row j o ho
              have := g2 p hp
              rw [if_pos (by omega)]; simp; omega
            · cases hj) h2 (fun p hp => by
              obtain ⟨e, e1, e2, e3⟩ := predsOf_mem.1 hp
              rw [← e3]; exact h3 e (by simpa using e1) e2) (hbar i (by omega) hi)
          rw [listedTo_get, if_pos hm] at hw; simp at hw
      · rintro rfl
        refine ⟨by rw [listedTo_get, if_pos hm]; simp, ops[i], Array.getElem?_eq_getElem hm, fun e he hb => ?_⟩
        obtain ⟨l, _, g2, _⟩ := hT.row i ops[i] (Array.getElem?_eq_getElem hm)
        have := g2 e.on (predsOf_mem.2 ⟨e, by simpa using he, hb, rfl⟩)
        rw [listedTo_get, if_pos (by omega)]; simp; omega
    have hnd : (Region.ready .any ops (listedTo ops.size m)).Nodup := by unfold Region.ready; exact List.nodup_range.sublist List.filter_sublist
    generalize Region.ready .any ops (listedTo ops.size m) = l at hmem hnd
    match l, hmem, hnd with
    | [], hmem, _ => have := (hmem m).2 rfl; cases this
    | [a], hmem, _ => have := (hmem a).1 (List.mem_cons_self ..); rw [this]
    | a :: c :: l, hmem, hnd =>
      have h1 := (hmem a).1 (List.mem_cons_self ..)
      have h2 := (hmem c).1 (List.mem_cons_of_mem _ (List.mem_cons_self ..))
      subst h1; subst h2; simp at hnd
  obtain ⟨i, t', q1, q2, q3⟩ := go_succ ops (ops.size - m - 1) t (listedTo ops.size m) (by rw [hr]; simp)
  rw [hr] at q1
  simp at q1; subst q1
  have q3 := q3 hr; subst q3
  unfold goF
  rw [show ops.size - i = ops.size - i - 1 + 1 by omega, q2, show ops.size - (i + 1) = ops.size - i - 1 by omega]
  congr 2
  apply Array.ext (by simp [listedTo])
  intro x h1 h2
  simp only [listedTo, Array.size_map, Array.size_range] at h2
  by_cases e : x = i
  · subst e; simp [listedTo]
  · have e2 : (x < i) = (x < i + 1) := by apply propext; omega
    rw [Array.getElem_setIfInBounds, if_neg (Ne.symm e)]
    · simp [listedTo, e2]
    · simpa [listedTo] using h2

theorem run_draw1 {fn : FId} {n : Nat} {sl : Slots} {ops : Array Oper} {m t : Nat} {o : Oper} {k : List SI} {rest : List SFr} {hp : Hp} {nx : Nat} {T : List (List Nat)}
    (hT : closeGo [] ops.toList = some T) (ho : ops[m]? = some o) (hbar : barRow T 0 0 0 && barAll T m 1 (m + 1) (ops.size - (m + 1)) = true)
    (h : Run P ro B f R ⟨⟨fn, n, sl, .reg ops m [o] (some (goF ops (m + 1) t)) :: k⟩, rest, hp, nx⟩) : Run P ro B f R ⟨⟨fn, n, sl, .reg ops m [] (some (goF ops m t)) :: k⟩, rest, hp, nx⟩ := by
  have hm : m < ops.size := (Array.getElem?_eq_some_iff.1 ho).1
  have hg := goF_one (t := t) (tok_of hT) hm (fun y h1 h2 => by
    have := barAll_spec (by simpa [barRow] using hbar) y h1 (by omega) 0 (by omega)
    simpa using this)
  intro β w fr frs cs hf hfs hs
  refine h β w fr frs cs { hf with todo := ?_, ok := ?_ } hfs hs
  · rw [hf.todo]; simp [SI.item, hg]
  · intro y hy
    cases hy with
    | head => intro i hi; simp at hi; subst hi; simpa using ho
    | tail _ hm => exact hf.ok y (List.mem_cons_of_mem _ hm)

/-- The region's end. -/
theorem run_drawE {fn : FId} {n : Nat} {sl : Slots} {ops : Array Oper} {m t : Nat} {k : List SI} {rest : List SFr} {hp : Hp} {nx : Nat} (hm : Nat.beq m ops.size = true)
    (h : Run P ro B f R ⟨⟨fn, n, sl, .reg ops m [] none :: k⟩, rest, hp, nx⟩) : Run P ro B f R ⟨⟨fn, n, sl, .reg ops m [] (some (goF ops m t)) :: k⟩, rest, hp, nx⟩ := by
  have hm := beq_nat hm
  have hg : goF ops m t = [] := by unfold goF; rw [hm]; simp [Region.linearise.go]
  rw [hg]
  intro β w fr frs cs hf hfs hs
  refine h β w fr frs cs { hf with todo := hf.todo, ok := ?_ } hfs hs
  intro y hy
  cases hy with
  | head => intro i hi; simp at hi
  | tail _ hm => exact hf.ok y (List.mem_cons_of_mem _ hm)
end
end Sx
