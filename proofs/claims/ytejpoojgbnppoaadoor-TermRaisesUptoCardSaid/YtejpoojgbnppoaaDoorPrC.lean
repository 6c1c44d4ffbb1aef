import Derived.Test.YtejpoojgbnppoaaDoorPrB
import Derived.Test.YtejpoojgbnppoaaDoorStB
namespace Go.Proofs.YtejpoojgbnppoaaDoor
open Vc Go
set_option linter.unusedVariables false
set_option linter.unusedSimpArgs false

namespace T
mutual
/-- Told normally, at a depth. -/
def isN (d : Nat) : T → Prop
  | .mk k i s xs ps => if 40 < d then .mk k i s xs ps = word .empty else
    (k = 1 ∧ s = .empty ∧ xs = [] ∧ ps = []) ∨ (k = 2 ∧ i = 0 ∧ xs = [] ∧ ps = []) ∨ (k = 3 ∧ i = 0 ∧ ps = [] ∧ isNL (d + 1) xs) ∨
    (k = 4 ∧ i = 0 ∧ s = .empty ∧ (∃ a, xs = [a] ∧ a.k ≠ 4) ∧ isNL (d + 1) xs ∧ prod ps = ps ∧ ps ≠ [])
def isNL (d : Nat) : List T → Prop
  | [] => True
  | a :: l => isN d a ∧ isNL d l
end
theorem isN_deep {d : Nat} {x : T} (h : 40 < d) : isN d x ↔ x = word .empty := by
  cases x with
  | mk k i s xs ps => rw [isN, if_pos h]
theorem isN_word (d : Nat) : isN d (word .empty) := by
  by_cases h : 40 < d
  · exact (isN_deep h).2 rfl
  · unfold word; rw [isN, if_neg h]; exact .inr (.inl ⟨rfl, rfl, rfl, rfl⟩)
mutual
theorem isN_down : ∀ (d : Nat) (x : T), isN (d + 1) x → isN d x
  | d, .mk k i s xs ps => by
    intro h
    by_cases h1 : 40 < d + 1
    · rw [isN_deep h1] at h
      rw [h]; exact isN_word d
    · have ih := isNL_down (d + 1) xs
      rw [isN, if_neg h1] at h
      rw [isN, if_neg (by omega)]
      rcases h with h | h | ⟨h1, h2, h3, h4⟩ | ⟨h1, h2, h3, h4, h5, h6⟩
      · exact .inl h
      · exact .inr (.inl h)
      · exact .inr (.inr (.inl ⟨h1, h2, h3, ih h4⟩))
      · exact .inr (.inr (.inr ⟨h1, h2, h3, h4, ih h5, h6⟩))
theorem isNL_down : ∀ (d : Nat) (l : List T), isNL (d + 1) l → isNL d l
  | d, [], h => trivial
  | d, a :: l, h => ⟨isN_down d a h.1, isNL_down d l h.2⟩
end
theorem isN_pow {d : Nat} {x : T} {l : List PW} (hd : d ≤ 40) (h : isN (d + 1) x) : isN d (pow x l) := by
  unfold pow
  by_cases h4 : x.k = 4
  · rw [if_pos h4]
    cases x with
    | mk k i s xs ps =>
      have h4 : k = 4 := h4
      subst h4
      by_cases h1 : 40 < d + 1
      · rw [isN_deep h1] at h; cases h
      · rw [isN, if_neg h1] at h
        rcases h with ⟨h, _⟩ | ⟨h, _⟩ | ⟨h, _⟩ | ⟨-, h2, h3, ⟨a, rfl, ha⟩, h5, h6, h7⟩
        · omega
        · omega
        · omega
        · show isN d (if prod (ps ++ l) = [] then a else .mk 4 0 .empty [a] (prod (ps ++ l)))
          have ha2 : isN (d + 1 + 1) a := h5.1
          split
          · exact isN_down _ _ (isN_down _ _ ha2)
          · rename_i hp
            rw [isN, if_neg (by omega)]
            exact .inr (.inr (.inr ⟨rfl, rfl, rfl, ⟨a, rfl, ha⟩, ⟨isN_down _ _ ha2, trivial⟩, prod_prod _, hp⟩))
  · rw [if_neg h4]
    split
    · exact isN_down _ _ h
    · rename_i hp
      rw [isN, if_neg (by omega)]
      exact .inr (.inr (.inr ⟨rfl, rfl, rfl, ⟨x, rfl, h4⟩, ⟨h, trivial⟩, prod_prod _, hp⟩))
mutual
theorem isN_nrm : ∀ (d : Nat) (t : T), isN d (nrm d t)
  | d, .mk k i s xs ps => by
    have ih := isNL_nrm (d + 1) xs
    rw [nrm]
    by_cases hd : 40 < d
    · rw [if_pos hd]; exact isN_word d
    · rw [if_neg hd]
      split
      · unfold atom; rw [isN, if_neg hd]; exact .inl ⟨rfl, rfl, rfl, rfl⟩
      · split
        · unfold word; rw [isN, if_neg hd]; exact .inr (.inl ⟨rfl, rfl, rfl, rfl⟩)
        · split
          · rw [isN, if_neg hd]; exact .inr (.inr (.inl ⟨rfl, rfl, rfl, ih⟩))
          · split
            · split
              · rename_i a e
                rw [e] at ih
                exact isN_pow (by omega) ih.1
              · exact isN_word d
            · exact isN_word d
theorem isNL_nrm : ∀ (d : Nat) (l : List T), isNL d (nrmL d l)
  | d, [] => trivial
  | d, a :: l => ⟨isN_nrm d a, isNL_nrm d l⟩
end
mutual
theorem nrm_of : ∀ (d : Nat) (x : T), isN d x → nrm d x = x
  | d, .mk k i s xs ps => by
    intro h
    by_cases hd : 40 < d
    · rw [isN_deep hd] at h
      rw [h, word, nrm, if_pos hd]; rfl
    · have ih := nrmL_of (d + 1) xs
      rw [isN, if_neg hd] at h
      rw [nrm, if_neg hd]
      rcases h with ⟨rfl, rfl, rfl, rfl⟩ | ⟨rfl, rfl, rfl, rfl⟩ | ⟨rfl, rfl, rfl, h4⟩ | ⟨rfl, rfl, rfl, ⟨a, rfl, ha⟩, h5, h6, h7⟩
      · rfl
      · rfl
      · rw [if_neg (by decide), if_neg (by decide), if_pos rfl, ih h4]
      · have h8 := ih h5
        rw [if_neg (by decide), if_neg (by decide), if_neg (by decide), if_pos rfl, h8]
        show pow a ps = _
        unfold pow
        rw [if_neg ha, h6, if_neg h7]
theorem nrmL_of : ∀ (d : Nat) (l : List T), isNL d l → nrmL d l = l
  | d, [], _ => rfl
  | d, a :: l, h => by rw [nrmL, nrm_of d a h.1, nrmL_of d l h.2]
end
/-- What is told normally stays so. -/
theorem nrm_nrm (d : Nat) (t : T) : nrm d (nrm d t) = nrm d t := nrm_of d _ (isN_nrm d t)
mutual
theorem isN_shift : ∀ (d d' : Nat) (x : T), isN d x → d' + ht x ≤ 41 → isN d' x
  | d, d', .mk k i s xs ps => by
    intro h h'
    have hh : ht (.mk k i s xs ps) = htL xs + 1 := rfl
    by_cases hd : 40 < d
    · rw [isN_deep hd] at h
      rw [h]; exact isN_word d'
    · have ih := isNL_shift (d + 1) (d' + 1) xs
      rw [isN, if_neg hd] at h
      rw [isN, if_neg (by omega)]
      rcases h with h | h | ⟨h1, h2, h3, h4⟩ | ⟨h1, h2, h3, h4, h5, h6⟩
      · exact .inl h
      · exact .inr (.inl h)
      · exact .inr (.inr (.inl ⟨h1, h2, h3, ih h4 (by omega)⟩))
      · exact .inr (.inr (.inr ⟨h1, h2, h3, h4, ih h5 (by omega), h6⟩))
theorem isNL_shift : ∀ (d d' : Nat) (l : List T), isNL d l → d' + htL l ≤ 41 → isNL d' l
  | d, d', [], _, _ => trivial
  | d, d', a :: l, h, h' => by
    have hh : htL (a :: l) = max (ht a) (htL l) := rfl
    exact ⟨isN_shift d d' a h.1 (by omega), isNL_shift d d' l h.2 (by omega)⟩
end
mutual
theorem nrm_shift : ∀ (d d' : Nat) (t : T), d + ht t ≤ 41 → d' + ht t ≤ 41 → nrm d t = nrm d' t
  | d, d', .mk k i s xs ps => by
    intro h h'
    have hh : ht (.mk k i s xs ps) = htL xs + 1 := rfl
    have ih := nrmL_shift (d + 1) (d' + 1) xs (by omega) (by omega)
    rw [nrm, nrm, if_neg (show ¬ 40 < d by omega), if_neg (show ¬ 40 < d' by omega), ih]
theorem nrmL_shift : ∀ (d d' : Nat) (l : List T), d + htL l ≤ 41 → d' + htL l ≤ 41 → nrmL d l = nrmL d' l
  | d, d', [], _, _ => rfl
  | d, d', a :: l, h, h' => by
    have hh : htL (a :: l) = max (ht a) (htL l) := rfl
    rw [nrmL, nrmL, nrm_shift d d' a (by omega) (by omega), nrmL_shift d d' l (by omega) (by omega)]
end
theorem ht_pos (t : T) : 1 ≤ ht t := by cases t; simp only [ht]; omega
theorem ht_pow (x : T) (l : List PW) : ht (pow x l) ≤ ht x + 1 ∧ (x.k = 4 → ht (pow x l) ≤ max (ht x) 2) := by
  have hx := ht_pos x
  unfold pow
  cases x with
  | mk k i s xs ps =>
    have hh : ht (.mk k i s xs ps) = htL xs + 1 := rfl
    have h0 : ht (xs.headD (word .empty)) ≤ max (htL xs) 1 := by
      cases xs with
      | nil => exact Nat.le_refl _
      | cons a l' => show ht a ≤ max (max (ht a) (htL l')) 1; omega
    by_cases h4 : (T.mk k i s xs ps).k = 4
    · rw [if_pos h4]
      show ht (if prod (ps ++ l) = [] then xs.headD (word .empty) else .mk 4 0 .empty [xs.headD (word .empty)] (prod (ps ++ l))) ≤ _ ∧ (_ → ht (if prod (ps ++ l) = [] then xs.headD (word .empty) else .mk 4 0 .empty [xs.headD (word .empty)] (prod (ps ++ l))) ≤ _)
      split
      · exact ⟨by omega, fun _ => by omega⟩
      · have h5 : ht (.mk 4 0 .empty [xs.headD (word .empty)] (prod (ps ++ l))) = max (ht (xs.headD (word .empty))) 0 + 1 := rfl
        exact ⟨by omega, fun _ => by omega⟩
    · rw [if_neg h4]
      split
      · exact ⟨by omega, fun h => absurd h h4⟩
      · have h5 : ht (.mk 4 0 .empty [.mk k i s xs ps] (prod l)) = max (ht (.mk k i s xs ps)) 0 + 1 := rfl
        exact ⟨by omega, fun h => absurd h h4⟩
mutual
theorem ht_nrm : ∀ (d : Nat) (t : T), ht (nrm d t) ≤ ht t
  | d, .mk k i s xs ps => by
    have ih := ht_nrmL (d + 1) xs
    have hh : ht (.mk k i s xs ps) = htL xs + 1 := rfl
    have hw : ∀ s, ht (word s) = 1 := fun s => rfl
    have ha : ht (atom i) = 1 := rfl
    rw [nrm]
    split
    · have := hw .empty; omega
    · split
      · omega
      · split
        · have := hw s; omega
        · split
          · have : ht (.mk 3 0 s (nrmL (d + 1) xs) []) = htL (nrmL (d + 1) xs) + 1 := rfl
            omega
          · split
            · split
              · rename_i a e
                rw [e] at ih
                have h1 := (ht_pow a ps).1
                have h2 : htL [a] = max (ht a) 0 := rfl
                omega
              · have := hw .empty; omega
            · have := hw .empty; omega
theorem ht_nrmL : ∀ (d : Nat) (l : List T), htL (nrmL d l) ≤ htL l
  | d, [] => Nat.le_refl _
  | d, a :: l => by
    have := ht_nrm d a
    have := ht_nrmL d l
    simp only [nrmL, htL]; omega
end
theorem pwOk_prod {l : List PW} (h : ∀ p ∈ l, 0 ≤ p.1 ∧ p.1 ≤ 4294967295) : pwOk (prod l) := by
  intro p hp
  have h1 := prod_mem.1 hp
  have h2 : p.1 ∈ l.map (·.1) := by
    apply Classical.byContradiction
    intro hno
    rw [sm_zero fun q hq he => hno (List.mem_map.2 ⟨q, hq, he⟩), wrap_zero] at h1
    exact h1.2 h1.1
  obtain ⟨q, hq, he⟩ := List.mem_map.1 h2
  have h3 := h q hq
  rw [he] at h3
  refine ⟨h3, ?_⟩
  have h4 := h1.1
  rw [wi64] at h4
  omega
theorem good_pow {x : T} {l : List PW} (h : good x) (hl : ∀ p ∈ l, 0 ≤ p.1 ∧ p.1 ≤ 4294967295) : good (pow x l) := by
  unfold pow
  cases x with
  | mk k i s xs ps =>
    by_cases h4 : (T.mk k i s xs ps).k = 4
    · rw [if_pos h4]
      have h4 : k = 4 := h4
      subst h4
      obtain ⟨h1, h2, h3, h5⟩ := h
      show good (if prod (ps ++ l) = [] then xs.headD (word .empty) else .mk 4 0 .empty [xs.headD (word .empty)] (prod (ps ++ l)))
      have hg : good (xs.headD (word .empty)) := by
        cases xs with
        | nil => exact ⟨⟨by decide, by decide⟩, fun p hp => (by cases hp), .inr (.inl rfl), trivial⟩
        | cons a l' => exact h5.1
      split
      · exact hg
      · refine ⟨⟨by decide, by decide⟩, pwOk_prod fun p hp => ?_, .inr (.inr (.inr ⟨rfl, by simp⟩)), hg, trivial⟩
        rcases List.mem_append.1 hp with hp | hp
        · exact (h2 p hp).1
        · exact hl p hp
    · rw [if_neg h4]
      split
      · exact h
      · exact ⟨⟨by decide, by decide⟩, pwOk_prod hl, .inr (.inr (.inr ⟨rfl, by simp⟩)), h, trivial⟩
mutual
theorem good_nrm : ∀ (d : Nat) (t : T), okn t → good (nrm d t)
  | d, .mk k i s xs ps => by
    intro h
    obtain ⟨h1, h2, h3, h4⟩ := h
    have ih := good_nrmL (d + 1) xs h4
    have hw : ∀ s, good (word s) := fun s => ⟨⟨by decide, by decide⟩, fun p hp => (by cases hp), .inr (.inl rfl), trivial⟩
    rw [nrm]
    split
    · exact hw _
    · split
      · exact ⟨h2, fun p hp => (by cases hp), .inl rfl, trivial⟩
      · split
        · exact hw _
        · split
          · exact ⟨⟨by decide, by decide⟩, fun p hp => (by cases hp), .inr (.inr (.inl rfl)), ih⟩
          · split
            · split
              · rename_i a e
                rw [e] at ih
                exact good_pow ih.1 fun p hp => (h3 p hp).1
              · exact hw _
            · exact hw _
theorem good_nrmL : ∀ (d : Nat) (l : List T), oknL l → goodL (nrmL d l)
  | d, [], _ => trivial
  | d, a :: l, h => ⟨good_nrm d a h.1, good_nrmL d l h.2⟩
end
end T
end Go.Proofs.YtejpoojgbnppoaaDoor
