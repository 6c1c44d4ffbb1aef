import Derived.Test.YtejpoojgbnppoaaDoorTmA
import Derived.Test.YtejpoojgbnppoaaDoorVcU
namespace Go.Proofs.YtejpoojgbnppoaaDoor
open Vc Go
set_option linter.unusedVariables false
set_option linter.unusedSimpArgs false

theorem aget_aput {α β : Type} [DecidableEq α] {k : α} {v : β} {c : Nat} (a : α) : ∀ (m : List (α × β × Nat)), aget (aput m k v c) a = if a = k then some v else aget m a
  | [] => by simp only [aput, aget]
  | y :: m => by
    have ih := aget_aput (k := k) (v := v) (c := c) a m
    simp only [aput]
    by_cases hy : k = y.1
    · rw [if_pos hy]
      simp only [aget]
      by_cases ha : a = k
      · rw [if_pos ha, if_pos ha]
      · rw [if_neg ha, if_neg ha, if_neg (by rw [← hy]; exact ha)]
    · rw [if_neg hy]
      simp only [aget]
      by_cases ha : a = y.1
      · rw [if_pos ha, if_neg (by rw [ha]; exact fun he => hy he.symm), if_pos ha]
      · rw [if_neg ha, ih, if_neg ha]
theorem aput_keys {α β : Type} [DecidableEq α] {k : α} {v : β} {c : Nat} : ∀ (m : List (α × β × Nat)), (aput m k v c).map (·.1) = if k ∈ m.map (·.1) then m.map (·.1) else m.map (·.1) ++ [k]
  | [] => by simp [aput]
  | y :: m => by
    have ih := aput_keys (k := k) (v := v) (c := c) m
    simp only [aput]
    by_cases hy : k = y.1
    · rw [if_pos hy, if_pos (by rw [List.map_cons, hy]; exact List.mem_cons_self ..)]
      simp [hy]
    · rw [if_neg hy, List.map_cons, ih]
      by_cases hk : k ∈ m.map (·.1)
      · rw [if_pos hk, if_pos (by rw [List.map_cons]; exact List.mem_cons_of_mem _ hk)]; rfl
      · rw [if_neg hk, if_neg]
        · rfl
        · rw [List.map_cons]; intro h
          rcases List.mem_cons.1 h with h | h
          · exact hy h
          · exact hk h
def smF (f : Nat → PW) (j : Nat) (a : Int) : Int := ((List.range j).map fun i => if (f i).1 = a then (f i).2 else 0).sum
theorem smF_succ (f : Nat → PW) (j : Nat) (a : Int) : smF f (j + 1) a = smF f j a + (if (f j).1 = a then (f j).2 else 0) := by
  simp [smF, List.range_succ]
theorem wrap_add (x y : Int) : IntKind.i64.wrap (IntKind.i64.wrap x + y) = IntKind.i64.wrap (x + y) := by rw [wi64, wi64, wi64]; omega
theorem wrap_zero : IntKind.i64.wrap 0 = 0 := by rw [wi64]; omega
theorem prS_keys (f : Nat → PW) : ∀ j, ((prS f j).1.map (·.1)).Nodup ∧ ∀ a, a ∈ (prS f j).1.map (·.1) ↔ ∃ i, i < j ∧ (f i).1 = a
  | 0 => by simp [prS]
  | j + 1 => by
    obtain ⟨h1, h2⟩ := prS_keys f j
    simp only [prS]
    rw [aput_keys]
    split
    · rename_i hk
      refine ⟨h1, fun a => ?_⟩
      rw [h2]
      constructor
      · rintro ⟨i, hi, rfl⟩; exact ⟨i, by omega, rfl⟩
      · rintro ⟨i, hi, rfl⟩
        by_cases hij : i = j
        · subst hij; exact (h2 _).1 hk
        · exact ⟨i, by omega, rfl⟩
    · rename_i hk
      refine ⟨List.nodup_append.2 ⟨h1, by simp, fun x hx y hy => ?_⟩, fun a => ?_⟩
      · rcases List.mem_singleton.1 hy with rfl
        intro he; subst he; exact hk hx
      · rw [List.mem_append, h2, List.mem_singleton]
        constructor
        · rintro (⟨i, hi, rfl⟩ | rfl)
          · exact ⟨i, by omega, rfl⟩
          · exact ⟨j, by omega, rfl⟩
        · rintro ⟨i, hi, rfl⟩
          by_cases hij : i = j
          · subst hij; exact .inr rfl
          · exact .inl ⟨i, by omega, rfl⟩
theorem prS_get (f : Nat → PW) : ∀ j a, (aget (prS f j).1 a).getD 0 = IntKind.i64.wrap (smF f j a)
  | 0, a => by simp only [prS, aget, smF]; exact wrap_zero.symm
  | j + 1, a => by
    simp only [prS]
    rw [aget_aput, smF_succ]
    split
    · rename_i h
      subst h
      rw [if_pos rfl, Option.getD_some, prS_get f j, wrap_add]
    · rename_i h
      rw [if_neg (fun he => h he.symm), prS_get f j, Int.add_zero]
theorem prO_mem {m : MPz} {ks : Array Int} {p : PW} : ∀ {j : Nat}, p ∈ prO m ks j ↔ ∃ i, i < j ∧ p = (ks[i]!, (aget m ks[i]!).getD 0) ∧ p.2 ≠ 0
  | 0 => by simp [prO]
  | j + 1 => by
    rw [prO, List.mem_append, prO_mem (j := j)]
    constructor
    · rintro (⟨i, hi, h1, h2⟩ | h)
      · exact ⟨i, by omega, h1, h2⟩
      · split at h
        · rename_i hne
          rcases List.mem_singleton.1 h with rfl
          exact ⟨j, by omega, rfl, by simpa using hne⟩
        · cases h
    · rintro ⟨i, hi, h1, h2⟩
      by_cases hij : i = j
      · subst hij
        right
        rw [h1] at h2
        rw [if_pos (by simpa using h2), h1]
        exact List.mem_singleton.2 rfl
      · exact .inl ⟨i, by omega, h1, h2⟩
theorem prO_sort {m : MPz} {ks : Array Int} {n : Nat} (hk : ∀ i j, i < j → j < n → ks[i]! < ks[j]!) : ∀ {j : Nat}, j ≤ n → (prO m ks j).Pairwise fun x y => x.1 < y.1
  | 0, _ => List.Pairwise.nil
  | j + 1, hj => by
    rw [prO]
    refine List.pairwise_append.2 ⟨prO_sort hk (by omega), ?_, fun x hx y hy => ?_⟩
    · split
      · exact List.pairwise_singleton ..
      · exact List.Pairwise.nil
    · obtain ⟨i, hi, rfl, _⟩ := prO_mem.1 hx
      split at hy
      · rcases List.mem_singleton.1 hy with rfl
        exact hk i j hi (by omega)
      · cases hy
theorem ksort_spec {m : MPz} (hn : (m.map (·.1)).Nodup) : (∀ i j, i < j → j < (ksort m).size → (ksort m)[i]! < (ksort m)[j]!) ∧ ∀ a, a ∈ m.map (·.1) ↔ ∃ i, i < (ksort m).size ∧ (ksort m)[i]! = a := by
  have hs := List.pairwise_mergeSort (le := fun (x y : Int) => decide (x ≤ y)) (fun a b c h1 h2 => by simp at *; omega) (fun a b => by simp; omega) (m.map (·.1))
  have hp := List.mergeSort_perm (m.map (·.1)) (fun (x y : Int) => decide (x ≤ y))
  have hnd := hp.nodup_iff.2 hn
  have hl : (ksort m).toList = (m.map (·.1)).mergeSort (fun x y => decide (x ≤ y)) := by simp [ksort, sortA]
  have hsz : (ksort m).size = ((m.map (·.1)).mergeSort (fun x y => decide (x ≤ y))).length := by rw [← hl, Array.length_toList]
  have hg : ∀ i (h : i < (ksort m).size), (ksort m)[i]! = ((m.map (·.1)).mergeSort (fun x y => decide (x ≤ y)))[i]'(hsz ▸ h) := fun i h => by
    rw [getElem!_pos _ i h]
    simp [← hl]
  constructor
  · intro i j hij hj
    rw [hg i (by omega), hg j hj]
    have h1 := List.pairwise_iff_getElem.1 hs i j (by omega) (by omega) hij
    have h2 := List.pairwise_iff_getElem.1 hnd i j (by omega) (by omega) hij
    simp at h1
    omega
  · intro a
    rw [← hp.mem_iff, List.mem_iff_getElem]
    constructor
    · rintro ⟨i, hi, rfl⟩; exact ⟨i, by omega, hg i (by omega)⟩
    · rintro ⟨i, hi, rfl⟩; exact ⟨i, by omega, (hg i hi).symm⟩
namespace T
/-- The sum of an atom's numbers. -/
def sm (l : List PW) (a : Int) : Int := (l.map fun p => if p.1 = a then p.2 else 0).sum
theorem sm_append (l m : List PW) (a : Int) : sm (l ++ m) a = sm l a + sm m a := by simp [sm]
theorem sm_f (l : List PW) (a : Int) : smF (fun j => l.getD j (0, 0)) l.length a = sm l a := by
  unfold smF sm
  congr 1
  apply List.ext_getElem (by simp)
  intro i h1 h2
  simp only [List.length_map] at h2
  simp [List.getElem?_eq_getElem h2]
theorem prod_sort (l : List PW) : (prod l).Pairwise fun x y => x.1 < y.1 := by
  unfold prod prodL
  have h := ksort_spec (prS_keys (fun j => l.getD j (0, 0)) l.length).1
  exact prO_sort (n := (ksort (prS (fun j => l.getD j (0, 0)) l.length).1).size) h.1 (by rw [ksort_size]; exact Nat.le_refl _)
theorem sm_zero {l : List PW} {a : Int} (h : ∀ p ∈ l, p.1 ≠ a) : sm l a = 0 := by
  induction l with
  | nil => rfl
  | cons x l ih =>
    have h1 := h x (List.mem_cons_self ..)
    have h2 := ih fun p hp => h p (List.mem_cons_of_mem _ hp)
    show (if x.1 = a then x.2 else 0) + sm l a = 0
    rw [if_neg h1, h2]; rfl
theorem prod_mem {l : List PW} {p : PW} : p ∈ prod l ↔ p.2 = IntKind.i64.wrap (sm l p.1) ∧ p.2 ≠ 0 := by
  unfold prod prodL
  have hk := prS_keys (fun j => l.getD j (0, 0)) l.length
  have h := ksort_spec hk.1
  rw [prO_mem]
  constructor
  · rintro ⟨i, hi, h1, h2⟩
    refine ⟨?_, h2⟩
    rw [h1, prS_get, sm_f]
  · rintro ⟨h1, h2⟩
    have h3 : ∃ i, i < l.length ∧ (l.getD i (0, 0)).1 = p.1 := by
      apply Classical.byContradiction
      intro hno
      have : sm l p.1 = 0 := sm_zero fun q hq he => by
        obtain ⟨i, hi, rfl⟩ := List.mem_iff_getElem.1 hq
        exact hno ⟨i, hi, by rw [List.getD_eq_getElem?_getD, List.getElem?_eq_getElem hi]; exact he⟩
      rw [this, wrap_zero] at h1
      exact h2 h1
    obtain ⟨i, hi, he⟩ := (h.2 p.1).1 ((hk.2 p.1).2 h3)
    refine ⟨i, by rw [ksort_size] at hi; exact hi, ?_, h2⟩
    rw [he, prS_get, sm_f, ← h1]
theorem sorted_ext : ∀ {l m : List PW}, l.Pairwise (fun x y => x.1 < y.1) → m.Pairwise (fun x y => x.1 < y.1) → (∀ p, p ∈ l ↔ p ∈ m) → l = m
  | [], [], _, _, _ => rfl
  | [], y :: m, _, _, h => by have := (h y).2 (List.mem_cons_self ..); cases this
  | x :: l, [], _, _, h => by have := (h x).1 (List.mem_cons_self ..); cases this
  | x :: l, y :: m, hl, hm, h => by
    obtain ⟨l1, l2⟩ := List.pairwise_cons.1 hl
    obtain ⟨m1, m2⟩ := List.pairwise_cons.1 hm
    have hxy : x = y := by
      rcases List.mem_cons.1 ((h x).1 (List.mem_cons_self ..)) with hx | hx
      · exact hx
      · rcases List.mem_cons.1 ((h y).2 (List.mem_cons_self ..)) with hy | hy
        · exact hy.symm
        · have := l1 y hy; have := m1 x hx; omega
    subst hxy
    rw [sorted_ext l2 m2 fun p => ?_]
    constructor
    · intro hp
      rcases List.mem_cons.1 ((h p).1 (List.mem_cons_of_mem _ hp)) with he | he
      · subst he; have := l1 p hp; omega
      · exact he
    · intro hp
      rcases List.mem_cons.1 ((h p).2 (List.mem_cons_of_mem _ hp)) with he | he
      · subst he; have := m1 p hp; omega
      · exact he
/-- Products are the same where the sums are. -/
theorem prod_congr {l m : List PW} (h : ∀ a, IntKind.i64.wrap (sm l a) = IntKind.i64.wrap (sm m a)) : prod l = prod m :=
  sorted_ext (prod_sort l) (prod_sort m) fun p => by rw [prod_mem, prod_mem, h]
theorem sm_sorted : ∀ {l : List PW}, l.Pairwise (fun x y => x.1 < y.1) → ∀ p ∈ l, sm l p.1 = p.2
  | x :: l, h, p, hp => by
    obtain ⟨h1, h2⟩ := List.pairwise_cons.1 h
    show (if x.1 = p.1 then x.2 else 0) + sm l p.1 = p.2
    rcases List.mem_cons.1 hp with rfl | hp
    · rw [if_pos rfl, sm_zero fun q hq => by have := h1 q hq; omega]; omega
    · rw [if_neg (by have := h1 p hp; omega), sm_sorted h2 p hp]; omega
theorem sm_prod (l : List PW) (a : Int) : sm (prod l) a = IntKind.i64.wrap (sm l a) := by
  by_cases h : ∃ p ∈ prod l, p.1 = a
  · obtain ⟨p, hp, rfl⟩ := h
    rw [sm_sorted (prod_sort l) p hp]
    exact (prod_mem.1 hp).1
  · rw [sm_zero fun p hp he => h ⟨p, hp, he⟩]
    apply Classical.byContradiction
    intro hne
    exact h ⟨(a, IntKind.i64.wrap (sm l a)), prod_mem.2 ⟨rfl, fun he => hne he.symm⟩, rfl⟩
theorem wrap_wrap (x : Int) : IntKind.i64.wrap (IntKind.i64.wrap x) = IntKind.i64.wrap x := by rw [wi64, wi64]; omega
theorem prod_prod (l : List PW) : prod (prod l) = prod l := prod_congr fun a => by rw [sm_prod, wrap_wrap]
theorem prod_left (l m : List PW) : prod (prod l ++ m) = prod (l ++ m) := prod_congr fun a => by rw [sm_append, sm_append, sm_prod, wrap_add]
theorem prod_comm (l m : List PW) : prod (l ++ m) = prod (m ++ l) := prod_congr fun a => by rw [sm_append, sm_append, Int.add_comm]
theorem prod_nil : prod [] = [] := rfl
end T
end Go.Proofs.YtejpoojgbnppoaaDoor
