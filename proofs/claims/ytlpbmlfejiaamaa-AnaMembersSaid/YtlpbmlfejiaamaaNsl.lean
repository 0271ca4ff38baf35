/- slices.Sort and slices.Sorted(maps.Keys(m)) at keys of at most 128. Conditions: as each theorem says. -/
import Derived.Test.YtlpbmlfejiaamaaNsk
import Derived.Test.YtlpbmlfejiaamaaNb
set_option linter.unusedSimpArgs false
set_option linter.unusedVariables false
namespace Sx
open Go Go.Proofs
set_option maxRecDepth 100000
def lsD (l : List Int) : Dt := fun i => l.getD i 0
theorem lsD_map (l : List Int) : (List.range l.length).map (lsD l) = l := by
  refine List.ext_getElem (by simp) fun i h1 h2 => ?_
  simp [lsD, h2]
theorem lsD_inj {l : List Int} (h : l.Nodup) : Inj 0 l.length (lsD l) := fun i j _ hi _ hj he => by
  have e1 : lsD l i = l[i] := by simp [lsD, hi]
  have e2 : lsD l j = l[j] := by simp [lsD, hj]
  rw [e1, e2] at he
  exact (List.getElem_inj h).1 he
theorem rowL_lsD (l : List Int) (i : Nat) : rowL .u32 l i 0 = fnr (lsD l) i 0 := rfl
abbrev mSort (l : List Int) : List Int := l.mergeSort fun x y => decide (x ≤ y)
theorem srt_merge {l : List Int} {e : Dt} (hs : SW 0 l.length (lsD l) e) (hg : Srt 0 l.length e) : (List.range l.length).map e = mSort l := by
  have hp : ((List.range l.length).map e).Perm l := by
    have := hs.perm (Nat.le_refl l.length)
    rwa [lsD_map] at this
  refine List.Perm.eq_of_pairwise (le := fun a b : Int => a ≤ b) (fun a b _ _ h1 h2 => by omega) ?_ ?_ (hp.trans (List.mergeSort_perm _ _).symm)
  · rw [List.pairwise_map]
    refine List.pairwise_lt_range.imp_of_mem fun {i j} hi hj hij => ?_
    exact hg i j (Nat.zero_le _) hij (List.mem_range.1 hj)
  · have := List.pairwise_mergeSort (le := fun x y : Int => decide (x ≤ y)) (by intro a b c h1 h2; simp at h1 h2 ⊢; omega) (by intro a b; simp; omega) l
    exact this.imp fun {a b} h => by simpa using h
theorem sortN_hc (l : List Int) (cap : Nat) (hnd : l.Nodup) (hl : l.length < 129) :
    HC Try.prog 83 [.sq 0 0 0 1 l.length .no] [(0, .row 0 l.length cap 1 (rowL .u32 l) 29)] [] 1 (fun _ : Unit => True) (fun _ => ⟨.tup [], [(0, .row 0 l.length cap 1 (rowL .u32 (mSort l)) 29)], 1⟩) := by
  refine hc_of_run Try.func83 rfl (fun B hB hpin => ?_)
  refine goS hB rfl rfl (by simp [conj]) ?_
  have hw : IntKind.u64.wrap (l.length : Int) = l.length := by rw [wrapU]; omega
  rw [hw]
  refine run_callC (len_hc l.length hl) named hB [] rfl rfl rfl rfl (by simp [conj]) (by simp [conj]) ?_
  rintro k ⟨k1, k2, k3⟩
  refine ⟨show 0 ≤ 0 by omega, _, _, _, rfl, rfl, rfl, ?_⟩
  refine run_callC (pdq_hc l.length cap hl (l.length + 1) 0 l.length k (lsD l) (by omega) (Nat.zero_le _) (Nat.le_refl _) (by omega) (lsD_inj hnd) (fun h => absurd h (Nat.lt_irrefl 0))) named hB [0] rfl rfl rfl rfl (by simp [conj]) (by
    simp [conj, less_rfl, ren_fnr]
    exact fun i _ => Less.of (rowL_lsD l i).symm) ?_
  rintro e ⟨e1, e2⟩
  refine ⟨show 1 ≤ 1 by omega, _, _, _, rfl, rfl, rfl, ?_⟩
  have hm := srt_merge e1 e2
  refine goS hB rfl rfl (by simp [conj]) ?_
  refine run_endC hpin () trivial [0] rfl rfl (by simp [conj]) rfl ?_
  simp [conj, less_rfl, ren_rowL, renR_fnr]
  intro i hi
  refine Less.of ?_
  rw [rowL_lsD]
  simp only [fnr]
  have : lsD (mSort l) i = e i := by
    unfold lsD
    rw [← hm]
    simp [hi]
  rw [this]
theorem sortedN_hc (h : Int → Bool) (v : Int → Int) (l : List Int) (hk : KeysOf h l) (hl : l.length < 129) :
    HC Try.prog 75 [.clo (.func 84) [] [.ptr 0 0]] [(0, .cells [.mp 1] 62), (1, .map .u32 h (.ints .i64 v))] [] 2 (fun _ : Unit => True)
      (fun _ => ⟨.sq 2 0 0 1 l.length .own, [(0, .cells [.mp 1] 62), (1, .map .u32 h (.ints .i64 v)), (2, .row 0 l.length l.length 1 (rowL .u32 l) 29)], 3⟩) := by
  refine hc_of_run Try.func75 rfl (fun B hB hpin => ?_)
  refine goK hB rfl rfl (by simp [conj]) ?_
  refine run_callC (collect_hc h v l hk (by omega)) named hB [0, 1] rfl rfl rfl rfl (by simp [conj]) (by simp [conj, less_rfl]) ?_
  rintro zs ⟨hN, hM⟩
  have hp := perm_of hk hN hM
  have hn : zs.length = l.length := hp.length_eq
  have he : mSort zs = l := by
    refine List.Perm.eq_of_pairwise (le := fun a b : Int => a ≤ b) (fun a b _ _ h1 h2 => by omega) ?_ (hk.1.imp fun {a b} h => by omega) ((List.mergeSort_perm _ _).trans hp)
    have := List.pairwise_mergeSort (le := fun x y : Int => decide (x ≤ y)) (by intro a b c h1 h2; simp at h1 h2 ⊢; omega) (by intro a b; simp; omega) zs
    exact this.imp fun {a b} h => by simpa using h
  refine ⟨show 2 ≤ 3 by omega, _, _, _, rfl, rfl, rfl, ?_⟩
  refine goK hB rfl rfl (by simp [conj]) ?_
  refine run_callC (sortN_hc zs zs.length hN (by omega)) named hB [2] rfl rfl rfl rfl (by simp [conj]) (by simp [conj, less_rfl, ren_rowL, renR_rowL]) ?_
  rintro ⟨⟩ _
  refine ⟨show 1 ≤ 1 by omega, _, _, _, rfl, rfl, rfl, ?_⟩
  rw [he, hn]
  refine goK hB rfl rfl (by simp [conj]) ?_
  exact run_retC hpin () trivial [0, 1, 2] rfl rfl (by simp [conj]) rfl (by simp [conj, less_rfl, ren_rowL, renR_rowL])
end Sx
