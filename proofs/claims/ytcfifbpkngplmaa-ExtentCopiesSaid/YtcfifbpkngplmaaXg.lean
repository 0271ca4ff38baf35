/- slices.Insert at []int as a call over blocks. Conditions: as each theorem says. -/
import Derived.Test.YtcfifbpkngplmaaXf
import Derived.Test.YtcfifbpkngplmaaEngX5
set_option linter.unusedSimpArgs false
set_option linter.unusedVariables false
namespace Sx
open Go Go.Proofs
set_option maxRecDepth 100000
def nrow (L : List Int) : Nat → Nat → SV := fun i _ => i64 (L.getD i 0)
theorem ren_nrow (nx : Nat) (sg : List Nat) (L : List Int) (i k : Nat) : ren nx sg (nrow L i k) = nrow L i k := by simp only [nrow, ren, renF, id]
theorem renR_nrow (nx : Nat) (sg : List Nat) (L : List Int) : renR nx sg (nrow L) = nrow L := by funext i k; exact ren_nrow nx sg L i k
def insAt (L : List Int) (i : Nat) (u : Int) : List Int := L.take i ++ u :: L.drop i
theorem insAt_len (L : List Int) (i : Nat) (u : Int) : (insAt L i u).length = L.length + 1 := by
  unfold insAt
  rw [List.length_append, List.length_take, List.length_cons, List.length_drop]; omega
theorem insAt_get (L : List Int) (i : Nat) (hi : i ≤ L.length) (u : Int) (j : Nat) : (insAt L i u).getD j 0 = if j < i then L.getD j 0 else if j = i then u else L.getD (j - 1) 0 := by
  unfold insAt
  simp only [List.getD_eq_getElem?_getD, List.getElem?_append, List.length_take, Nat.min_eq_left hi, List.getElem?_take, List.getElem?_cons, List.getElem?_drop]
  by_cases h1 : j < i
  · simp [h1]
  · rw [if_neg h1, if_neg h1]
    by_cases h2 : j = i
    · simp [h2]
    · have h3 : ¬ j - i = 0 := by omega
      rw [if_neg h2, if_neg h3]
      congr 2
      omega
def setA (c : Array Value) : Nat → List Value → Array Value
  | _, [] => c
  | o, v :: r => setA (c.setIfInBounds o v) (o + 1) r
theorem setA_size : ∀ (vs : List Value) (o : Nat) (c : Array Value), (setA c o vs).size = c.size
  | [], _, _ => rfl
  | v :: r, o, c => by rw [setA, setA_size r]; simp
theorem setA_get : ∀ (vs : List Value) (o : Nat) (c : Array Value) (k : Nat), o + vs.length ≤ c.size → (setA c o vs)[k]? = if o ≤ k ∧ k < o + vs.length then vs[k - o]? else c[k]?
  | [], o, c, k, _ => by
    rw [if_neg (by simp only [List.length_nil]; omega)]; rfl
  | v :: r, o, c, k, h => by
    simp only [List.length_cons] at h ⊢
    rw [setA, setA_get r (o + 1) _ k (by simp; omega)]
    by_cases h1 : o = k
    · subst h1
      rw [if_neg (by omega), if_pos (by omega), Nat.sub_self, List.getElem?_cons_zero, Array.getElem?_setIfInBounds_self_of_lt (by omega)]
    · by_cases h2 : o + 1 ≤ k ∧ k < o + 1 + r.length
      · rw [if_pos h2, if_pos (by omega), show k - o = (k - (o + 1)) + 1 by omega, List.getElem?_cons_succ]
      · rw [if_neg h2, if_neg (by omega), Array.getElem?_setIfInBounds_ne h1]
theorem setCells_spec {b : Nat} : ∀ (vs : List Value) (o : Nat) (w : World) (c : Array Value) (ty : TypeId) (fz : Nat × Nat), w.heap[b]? = some (.cells c ty fz) →
    (w.setCells b o vs).heap[b]? = some (.cells (setA c o vs) ty fz) ∧ (∀ x, x ≠ b → (w.setCells b o vs).heap[x]? = w.heap[x]?) ∧ (w.setCells b o vs).heap.size = w.heap.size ∧ (w.setCells b o vs).os = w.os ∧ (w.setCells b o vs).tape = w.tape ∧ (w.setCells b o vs).output = w.output
  | [], o, w, c, ty, fz, h => ⟨h, fun _ _ => rfl, rfl, rfl, rfl, rfl⟩
  | v :: r, o, w, c, ty, fz, h => by
    have h1 : (w.setCell ⟨b, o, none⟩ v).heap[b]? = some (.cells (c.setIfInBounds o v) ty fz) := by
      simp [World.setCell, Array.getElem?_modify, h]
    obtain ⟨g1, g2, g3, g4, g5, g6⟩ := setCells_spec r (o + 1) (w.setCell ⟨b, o, none⟩ v) _ ty fz h1
    refine ⟨g1, fun x hx => ?_, g3.trans (by simp), g4, g5, g6⟩
    show ((w.setCell ⟨b, o, none⟩ v).setCells b (o + 1) r).heap[x]? = _
    rw [g2 x hx]
    simp [World.setCell, Array.getElem?_modify, Ne.symm hx]
theorem ins_end {K : Kn} {B : Base} {β : Env} {w w' : World} {hp : Hp} {nx : Nat} (hB : B.ok) (hK : ∀ x o, K x = some o → B.D x = some o) (hs : Sat β hp [] B nx w) {nb : Nat} {c : Array Value} {ty : TypeId} {fz : Nat × Nat} (hD : B.D nb = none) (h1 : w'.heap[nb]? = some (.cells c ty fz))
    (h2 : ∀ x, x ≠ nb → ∀ o, w.heap[x]? = some o → w'.heap[x]? = some o) (h3 : w.heap.size ≤ w'.heap.size) (h4 : w'.os = w.os) (h5 : w'.tape = w.tape) (h6 : w'.output = w.output) {m room : Nat} (hm : m ≤ room) {g : Nat → Nat → SV} (hg : ∀ j, j < m → ∃ u, c[j]? = some u ∧ Rel Env.nil (g j 0) u) {e : Ending} (he : e = .returned (.slice (some ⟨nb, 0, none⟩) m room)) :
    HEndX β B K M0 [] (fun (v : Value) K' => Froz K' v m 1 g) (fun v => ⟨.val v, [], nx⟩) e w' := by
  have hne : ∀ x o, B.D x = some o → x ≠ nb := fun x o h q => by subst q; rw [hD] at h; cases h
  refine ⟨.slice (some ⟨nb, 0, none⟩) m room, β, _, ⟨fun x => if x = nb then some (.cells c ty fz) else B.D x, w', B.pin, B.kd⟩, fun x => if x = nb then some (.cells c ty fz) else K x, ⟨some ⟨nb, 0, none⟩, room, rfl, fun h => (by cases h), fun _ => ⟨hm, nb, 0, c, ty, fz, rfl, if_pos rfl, fun i k hi hk => ?_⟩⟩, Env.le_refl _, he, ⟨rfl, rfl⟩, ⟨fun x o hx => ?_, rfl, Env.le_refl _, h4.trans hs.os, h5.trans hs.tape, h6.trans hs.output, Nat.le_trans hs.size h3, fun x o hx _ => ?_, fun x o hx => ?_, fun x o hx _ => ?_, fun x o hx => ?_⟩,
    ⟨⟨fun _ _ h => (none_ne h).elim, fun _ _ _ _ h => (none_ne h).elim, fun _ _ h => (none_ne h).elim, fun x o hx => ?_, rfl, rfl, rfl, Nat.le_refl _, hs.pin⟩, hs.fresh⟩⟩
  · have hk0 : k = 0 := by omega
    subst hk0
    simpa using hg i hi
  · have hx : (if x = nb then some (.cells c ty fz) else B.D x) = some o := hx
    split at hx
    · rename_i q; subst q; exact (Array.getElem?_eq_some_iff.1 h1).1
    · exact Nat.lt_of_lt_of_le (hB x o hx) (Nat.le_trans hs.size h3)
  · show (if x = nb then some (.cells c ty fz) else B.D x) = some o
    rw [if_neg (hne x o hx)]; exact hx
  · have hx : (if x = nb then some (.cells c ty fz) else K x) = some o := hx
    show (if x = nb then some (.cells c ty fz) else B.D x) = some o
    split at hx
    · rename_i q; rw [if_pos q]; exact hx
    · rename_i q; rw [if_neg q]; exact hK x o hx
  · show (if x = nb then some (.cells c ty fz) else K x) = some o
    rw [if_neg (hne x o (hK x o hx))]; exact hx
  · have hx : (if x = nb then some (.cells c ty fz) else K x) = some o := hx
    split at hx
    · rename_i q; subst q; exact .inr hD
    · left; rw [hx]; simp
  · have hx : (if x = nb then some (.cells c ty fz) else B.D x) = some o := hx
    by_cases q : x = nb
    · rw [if_pos q] at hx; injection hx with hx; rw [q, ← hx]; exact h1
    · rw [if_neg q] at hx; exact h2 x q o (hs.old x o hx)
theorem alloc_new (w : World) (o : Obj) : (w.alloc o).heap[w.heap.size]? = some o := by show (w.heap.push o)[w.heap.size]? = some o; simp
theorem alloc_old (w : World) (o : Obj) {x : Nat} {q : Obj} (h : w.heap[x]? = some q) : (w.alloc o).heap[x]? = some q := by
  show (w.heap.push o)[x]? = some q
  obtain ⟨hl, e⟩ := Array.getElem?_eq_some_iff.1 h
  rw [Array.getElem?_push_lt hl, e]
abbrev iV (x : Int) : Value := .int .i64 x
theorem map_get (L : List Int) (j : Nat) (hj : j < L.length) : (L.map iV)[j]? = some (iV (L.getD j 0)) := by
  rw [List.getElem?_map, List.getElem?_eq_getElem hj, List.getD_eq_getElem?_getD, List.getElem?_eq_getElem hj]; rfl
theorem insert_hcx (K : Kn) (L : List Int) (hl : L.length < 1000000) (i : Nat) (hi : i ≤ L.length) (u : Int) :
    HCX Try.prog K M0 76 [.sq 0 0 0 1 L.length .own, i64 i, .sq 1 0 0 1 1 .no] [(0, .row 0 L.length L.length 1 (nrow L) 3), (1, .cells [i64 u] 3)] [] 2 (fun (w : Value) K' => Froz K' w (L.length + 1) 1 (nrow (insAt L i u))) (fun w => ⟨.val w, [], 2⟩) := by
  intro B β w vs hB hK hvs hs
  obtain ⟨v0, vs0, rfl, ⟨base, room, rfl, q1, q2, q3, q4⟩, v1, vs1, rfl, hv1, v2, vs2, rfl, ⟨base2, room2, rfl, p1, p2, p3, p4⟩, rfl⟩ := hvs
  have hv1 : v1 = .int .i64 i := hv1
  subst hv1
  obtain ⟨q5, q6⟩ := q2 rfl
  obtain ⟨p5, vb, p6, rfl, _⟩ := p4 (by decide)
  obtain ⟨vb', ob, g1, g2, g3, g4, g5⟩ := hs.own 1 _ rfl trivial
  rw [p6] at g1; injection g1 with g1; subst g1
  obtain ⟨us, rfl, u0, us0, rfl, hu0, hus⟩ := g4
  have hu0 : u0 = iV u := hu0
  have hus : us0 = [] := hus
  subst hu0 hus
  have hvs1 : ∀ j v, [iV u][j]? = some v → w.cell? ⟨vb, 0 + 0 * 1 + j, none⟩ = some v := fun j v hj => by
    simp only [World.cell?, g3]
    simpa using hj
  have h1v : ∀ v ∈ [iV u], v.oneCell' = true := fun v hv => by rw [List.mem_singleton.1 hv]; rfl
  have hcl : (L.map iV).length = L.length := by simp
  have h1c : ∀ v ∈ L.map iV, v.oneCell' = true := fun v hv => by obtain ⟨a, _, rfl⟩ := List.mem_map.1 hv; rfl
  have hres : ∀ (c : Array Value), (∀ j, j < L.length + 1 → c[j]? = some (iV (if j < i then L.getD j 0 else if j = i then u else L.getD (j - 1) 0))) → ∀ j, j < L.length + 1 → ∃ x, c[j]? = some x ∧ Rel Env.nil (nrow (insAt L i u) j 0) x := fun c hc j hj => ⟨_, hc j hj, by
    show iV _ = iV _
    rw [insAt_get L i hi u j]⟩
  have hnew : B.D w.heap.size = none := by
    cases h : B.D w.heap.size with
    | none => rfl
    | some o => exact absurd (Nat.lt_of_lt_of_le (hB _ o h) hs.size) (Nat.lt_irrefl _)
  rcases Nat.eq_zero_or_pos L.length with h0 | h0
  · have hr0 := q5 h0
    have hi0 : i = 0 := by omega
    subst hr0
    have hLn : L = [] := List.length_eq_zero_iff.1 h0
    subst hLn
    have hC := Any2.slices_Insert_int_end_grow Try.lays76 base 0 0 vb (0 + 0 * 1) 1 room2 [] [iV u] w (by decide) (by decide) (by decide) (by decide) rfl rfl (fun _ => rfl) (fun a _ j v hj => by cases hj) hvs1 h1v
    subst hi0
    refine Calls.mono hC ?_
    rintro e w' ⟨he, rfl⟩
    have hge := grownCap_ge w (0 + 1) 0 3
    refine ins_end hB hK hs hnew (alloc_new w.drew _) (fun x hx o ho => alloc_old w.drew _ ho) (by simp) rfl rfl rfl (room := grownCap w (0 + 1) 0 3) hge (hres _ fun j hj => ?_) he
    have hj0 : j = 0 := by simp at hj; omega
    subst hj0
    rw [Array.getElem?_append_left (by simp)]
    simp
  · obtain ⟨q7, b, q8, rfl, q9⟩ := q4 h0
    have hrb := q9 rfl
    obtain ⟨b', ob, g1, g2, g3b, g4, g5b⟩ := hs.own 0 _ rfl h0
    rw [q8] at g1; injection g1 with g1; subst g1
    obtain ⟨c, fz, tt, c0, rfl, c1, c2, c3⟩ := g4
    have hfz : fz = (0, 0) := g5b.l
    subst hfz
    have hsz : β.room 0 ≤ c.size := g5b.s
    have htt : 3 = tt := by
      rcases c0 with q | q
      · cases q
      · exact q
    subst htt
    have hcell : ∀ j, j < L.length → c[j]? = some (iV (L.getD j 0)) := fun j hj => by
      obtain ⟨x, hx, hxr⟩ := c3 j 0 hj (by decide)
      have hxr : x = iV (L.getD j 0) := hxr
      rw [hxr] at hx
      simpa using hx
    have hvb : vb ≠ b := fun e => hs.apart 1 0 _ _ rfl rfl trivial h0 (by decide) (by rw [p6, q8, e])
    have hcs : ∀ j v, (L.map iV)[j]? = some v → w.cell? ⟨b, 0 + 0 * 1 + j, none⟩ = some v := fun j v hj => by
      have hj' : j < L.length := by have := (List.getElem?_eq_some_iff.1 hj).1; simpa using this
      rw [map_get L j hj'] at hj
      simp only [World.cell?, g3b]
      simp [hcell j hj']
      injection hj
    have hdr : ∀ j, j < (((L.map iV).drop i)).length → ((L.map iV).drop i)[j]? = some (iV (L.getD (i + j) 0)) := fun j hj => by
      rw [List.length_drop, hcl] at hj
      rw [List.getElem?_drop, map_get L _ (by omega)]
    have hdl : ((L.map iV).drop i).length = L.length - i := by rw [List.length_drop, hcl]
    have hget : ∀ j, (w.cell? ⟨b, 0 + 0 * 1 + j, none⟩) = c[j]? := fun j => by simp only [World.cell?, g3b]; simp
    have hfrz : ∀ j, w.frozen? ⟨b, j, none⟩ = false := fun j => by simp [World.frozen?, g3b]
    by_cases hie : i = L.length
    · subst hie
      by_cases hro : L.length + 1 ≤ room
      · have hC := Any2.slices_Insert_int_end_room Try.lays76 b (0 + 0 * 1) L.length room vb (0 + 0 * 1) 1 room2 [iV u] w (by decide) hro q6 rfl (fun j hj => by
          have := hget (L.length + j)
          rw [show 0 + 0 * 1 + L.length + j = 0 + 0 * 1 + (L.length + j) by omega, this, Array.getElem?_eq_getElem (by omega)]; rfl) (fun j hj => hfrz _) hvs1 h1v
        refine Calls.mono hC ?_
        rintro e w' ⟨he, rfl⟩
        obtain ⟨s1, s2, s3, s4, s5, s6⟩ := setCells_spec (b := b) [iV u] (0 + 0 * 1 + L.length) w c 3 (0, 0) g3b
        refine ins_end hB hK hs g2 s1 (fun x hx o ho => by rw [s2 x hx]; exact ho) (Nat.le_of_eq s3.symm) s4 s5 s6 (room := room) hro (hres _ fun j hj => ?_) (by simpa using he)
        rw [setA_get _ _ _ _ (by simp; omega)]
        by_cases h1 : j < L.length
        · rw [if_neg (by simp; omega), if_pos h1]; exact hcell j h1
        · have h2 : j = L.length := by omega
          subst h2
          rw [if_pos (by simp), if_neg (by omega), if_pos rfl]
          simp
      · have hC := Any2.slices_Insert_int_end_grow Try.lays76 (some ⟨b, 0 + 0 * 1, none⟩) L.length room vb (0 + 0 * 1) 1 room2 (L.map iV) [iV u] w (by decide) q7 (by omega) (by omega) hcl rfl (fun h => by cases h) (fun a ha j v hj => by
          injection ha with ha; subst ha
          rw [Addr.add_lit]; exact hcs j v hj) hvs1 h1v
        refine Calls.mono hC ?_
        rintro e w' ⟨he, rfl⟩
        have hge := grownCap_ge w (L.length + 1) room 3
        refine ins_end hB hK hs hnew (alloc_new w.drew _) (fun x hx o ho => alloc_old w.drew _ ho) (by simp) rfl rfl rfl (room := grownCap w (L.length + 1) room 3) hge (hres _ fun j hj => ?_) he
        rw [Array.getElem?_append_left (by simp; omega)]
        by_cases h1 : j < L.length
        · rw [if_pos h1]
          simp only [List.getElem?_toArray]
          rw [List.getElem?_append_left (by simpa using h1), map_get L j h1]
        · have h2 : j = L.length := by omega
          subst h2
          rw [if_neg (by omega), if_pos rfl]
          simp
    · have hlt : i < L.length := by omega
      by_cases hro : L.length + 1 ≤ room
      · have hC := Any2.slices_Insert_int_shift Try.lays76 b (0 + 0 * 1) L.length room i vb (0 + 0 * 1) 1 room2 (L.map iV) [iV u] w hlt (by decide) hro q6 hvb hcl rfl hcs (fun j hj => by
          rw [hget, Array.getElem?_eq_getElem (by omega)]; rfl) (fun j hj => hfrz _) hvs1 h1c h1v 3 3 1 c.size (by simp [World.shape?, g3]) (by simp [World.shape?, g3b]) (by omega) (by simp [World.frozen?, g3]) (by simp [World.frozen?, g3])
        refine Calls.mono hC ?_
        rintro e w' ⟨he, rfl⟩
        obtain ⟨s1, s2, s3, s4, s5, s6⟩ := setCells_spec (b := b) ((L.map iV).drop i) (0 + 0 * 1 + (i + 1)) w.drew c 3 (0, 0) g3b
        obtain ⟨t1, t2, t3, t4, t5, t6⟩ := setCells_spec (b := b) [iV u] (0 + 0 * 1 + i) _ _ 3 (0, 0) s1
        refine ins_end hB hK hs g2 t1 (fun x hx o ho => by rw [t2 x hx, s2 x hx]; exact ho) (by rw [t3, s3]; exact Nat.le_refl _) (t4.trans s4) (t5.trans s5) (t6.trans s6) (room := room) hro (hres _ fun j hj => ?_) (by simpa using he)
        rw [setA_get _ _ _ _ (by rw [setA_size]; simp; omega), setA_get _ _ _ _ (by omega)]
        by_cases h1 : j < i
        · rw [if_neg (by simp; omega), if_neg (by omega), if_pos h1]; exact hcell j (by omega)
        · by_cases h2 : j = i
          · subst h2
            rw [if_pos (by simp), if_neg h1, if_pos rfl]
            simp
          · rw [if_neg (by simp; omega), if_pos (by omega), if_neg h1, if_neg h2, hdr _ (by omega)]
            congr 3
            omega
      · have hC := Any2.slices_Insert_int_grow Try.lays76 b (0 + 0 * 1) L.length room i vb (0 + 0 * 1) 1 room2 (L.map iV) [iV u] w hlt (by decide) q7 (by omega) (by omega) hcl rfl hcs hvs1 h1c h1v
        refine Calls.mono hC ?_
        rintro e w' ⟨he, rfl⟩
        have hge := grownCap_ge w (L.length + 1) room (Try.lays76_ren.t 3)
        generalize grownCap w (L.length + 1) room (Try.lays76_ren.t 3) = cap at hge he ⊢
        have hzs : ∀ k, (Builtin.zeroCells (Value.int .i64 0).cells k).size = k := fun k => by simp [Builtin.zeroCells, Value.cells]
        have hA : ((((L.map iV).take i).toArray ++ Builtin.zeroCells (Value.int .i64 0).cells (L.length + 1 - i)) ++ Builtin.zeroCells (Value.int .i64 0).cells (cap - (L.length + 1))).size = cap := by
          rw [Array.size_append, Array.size_append, hzs, hzs]
          simp
          omega
        obtain ⟨s1, s2, s3, s4, s5, s6⟩ := setCells_spec (b := w.heap.size) [iV u] i ((w.alloc (.cells (((L.map iV).take i).toArray ++ Builtin.zeroCells (Value.int .i64 0).cells (L.length + 1 - i) ++ Builtin.zeroCells (Value.int .i64 0).cells (cap - (L.length + 1))) 3)).drew) _ 3 (0, 0) (alloc_new w _)
        obtain ⟨t1, t2, t3, t4, t5, t6⟩ := setCells_spec (b := w.heap.size) ((L.map iV).drop i) (i + 1) (((w.alloc (.cells (((L.map iV).take i).toArray ++ Builtin.zeroCells (Value.int .i64 0).cells (L.length + 1 - i) ++ Builtin.zeroCells (Value.int .i64 0).cells (cap - (L.length + 1))) 3)).drew.setCells w.heap.size i [iV u]).drew) _ 3 (0, 0) s1
        refine ins_end hB hK hs hnew t1 (fun x hx o ho => by rw [t2 x hx]; show (World.setCells _ _ _ _).heap[x]? = _; rw [s2 x hx]; exact alloc_old w _ ho) (by rw [t3]; show _ ≤ (World.setCells _ _ _ _).heap.size; rw [s3]; simp) (t4.trans s4) (t5.trans s5) (t6.trans s6) (room := cap) hge (hres _ fun j hj => ?_) he
        rw [setA_get _ _ _ _ (by rw [setA_size, hA]; omega), setA_get _ _ _ _ (by rw [hA]; simp; omega)]
        by_cases h1 : j < i
        · rw [if_neg (by omega), if_neg (by simp; omega), if_pos h1, Array.getElem?_append_left (by simp; omega), Array.getElem?_append_left (by simp; omega), List.getElem?_toArray, List.getElem?_take, if_pos h1, map_get L j (by omega)]
        · by_cases h2 : j = i
          · subst h2
            rw [if_neg (by omega), if_pos (by simp), if_neg h1, if_pos rfl]
            simp
          · rw [if_pos (by omega), if_neg h1, if_neg h2, hdr _ (by omega)]
            congr 3
            omega
end Sx
