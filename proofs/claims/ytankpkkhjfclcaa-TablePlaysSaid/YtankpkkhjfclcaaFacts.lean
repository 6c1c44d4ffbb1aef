import Derived.Test.YtankpkkhjfclcaaTab
namespace Go.Proofs.Ytankpkkhjfclcaa
open Vc Go
set_option linter.unusedVariables false
set_option linter.unusedSimpArgs false

theorem nodup_len : ∀ {l m : List Int}, l.Nodup → (∀ x ∈ l, x ∈ m) → l.length ≤ m.length
  | [], m, _, _ => by simp
  | x :: l, m, h, hs => by
    rw [List.nodup_cons] at h
    have hx := hs x (List.mem_cons_self ..)
    have := nodup_len (l := l) (m := m.erase x) h.2 (fun y hy => by
      have hne : y ≠ x := fun he => h.1 (he ▸ hy)
      exact (List.mem_erase_of_ne hne).2 (hs y (List.mem_cons_of_mem _ hy)))
    rw [List.length_erase_of_mem hx] at this
    have hp : 0 < m.length := List.length_pos_of_mem hx
    simp only [List.length_cons]
    omega
def keys {β : Type} (m : MP β) : List Int := m.map (·.1)
def upTo (n : Int) : List Int := (List.range (Int.toNat n)).map fun (j : Nat) => (j : Int) + 1
theorem mem_upTo {n k : Int} : k ∈ upTo n ↔ 1 ≤ k ∧ k ≤ n := by
  simp only [upTo, List.mem_map, List.mem_range]
  constructor
  · rintro ⟨j, h1, rfl⟩; omega
  · intro h; exact ⟨Int.toNat (k - 1), by omega, by omega⟩
theorem nodup_upTo (n : Int) : (upTo n).Nodup := by
  unfold upTo
  rw [List.nodup_iff_pairwise_ne, List.pairwise_map]
  exact (List.nodup_range (n := Int.toNat n)).imp (fun h => by omega)
theorem len_upTo (n : Int) : (upTo n).length = Int.toNat n := by simp [upTo]
theorem aget_keys {β : Type} {m : MP β} {k : Int} : (aget m k).isSome = true ↔ k ∈ keys m := by
  induction m with
  | nil => simp [aget, keys]
  | cons y m ih =>
    simp only [aget, keys, List.map_cons, List.mem_cons]
    split
    · simp [*]
    · rename_i hn
      rw [ih]
      simp [keys, hn]
def KInv {β : Type} (m : MP β) (n : Int) : Prop := (keys m).Nodup ∧ ∀ k ∈ keys m, 1 ≤ k ∧ k ≤ n
theorem keys_put {β : Type} {m : MP β} {k : Int} {v : β} {c : Nat} : keys (aput m k v c) = if (aget m k).isSome = true then keys m else keys m ++ [k] := by
  induction m with
  | nil => simp [aput, keys, aget]
  | cons y m ih =>
    simp only [aput, aget]
    split
    · rename_i h; simp [keys, h]
    · simp only [keys, List.map_cons] at *
      rw [ih]
      split <;> simp
theorem keys_del {β : Type} {m : MP β} {k : Int} : keys (adel m k) = (keys m).erase k := by
  induction m with
  | nil => simp [adel, keys]
  | cons y m ih =>
    simp only [adel, keys, List.map_cons] at *
    by_cases h : k = y.1
    · rw [if_pos h, h]; simp
    · rw [if_neg h, List.erase_cons_tail (by simpa using fun he => h he.symm)]
      simp [ih]
theorem KInv.nil {β : Type} (n : Int) : KInv ([] : MP β) n := ⟨by simp [keys], by simp [keys]⟩
theorem KInv.put {β : Type} {m : MP β} {n k : Int} {v : β} {c : Nat} (h : KInv m n) (h1 : 1 ≤ k) (h2 : k ≤ n) : KInv (aput m k v c) n := by
  unfold KInv at *
  rw [keys_put]
  split
  · exact h
  · rename_i hn
    have hk : k ∉ keys m := fun hm => hn (aget_keys.2 hm)
    refine ⟨?_, ?_⟩
    · rw [List.nodup_append]
      refine ⟨h.1, by simp, ?_⟩
      intro a ha b hb
      rw [List.mem_singleton] at hb
      intro he; exact hk (by rw [← hb, ← he]; exact ha)
    · intro j hj
      rcases List.mem_append.1 hj with hj | hj
      · exact h.2 j hj
      · rw [List.mem_singleton] at hj; omega
theorem KInv.del {β : Type} {m : MP β} {n k : Int} (h : KInv m n) : KInv (adel m k) n := by
  unfold KInv at *
  rw [keys_del]
  exact ⟨h.1.erase k, fun j hj => h.2 j (List.mem_of_mem_erase hj)⟩
theorem KInv.full {β : Type} {m : MP β} {n : Int} (h : KInv m n) (hn : 0 ≤ n) (hf : ∀ j, 1 ≤ j → j ≤ n → (aget m j).isSome = true) : (m.length : Int) = n := by
  have e : (keys m).length = m.length := List.length_map ..
  have h1 := nodup_len h.1 (m := upTo n) (fun k hk => mem_upTo.2 (h.2 k hk))
  have h2 := nodup_len (nodup_upTo n) (m := keys m) (fun k hk => by
    have := mem_upTo.1 hk
    exact aget_keys.1 (hf k this.1 this.2))
  rw [len_upTo] at h1 h2
  omega
theorem KInv.len {β : Type} {m : MP β} {n : Int} (h : KInv m n) (hn : 0 ≤ n) : (m.length : Int) ≤ n := by
  have e : (keys m).length = m.length := List.length_map ..
  have h1 := nodup_len h.1 (m := upTo n) (fun k hk => mem_upTo.2 (h.2 k hk))
  rw [len_upTo] at h1
  omega
theorem least_none {β : Type} {m : MP β} : ∀ {n : Nat} {i : Int}, least m n i = none → ∀ j, i ≤ j → j < i + n → (aget m j).isSome = true
  | 0, i, _, j, h1, h2 => by omega
  | n + 1, i, h, j, h1, h2 => by
    simp only [least] at h
    split at h
    · rename_i hs
      by_cases he : j = i
      · rw [he]; exact hs
      · exact least_none h j (by omega) (by omega)
    · cases h
theorem least_some {β : Type} {m : MP β} : ∀ {n : Nat} {i k : Int}, least m n i = some k → i ≤ k ∧ k < i + n ∧ (aget m k).isSome = false ∧ ∀ j, i ≤ j → j < k → (aget m j).isSome = true
  | 0, i, k, h => by cases h
  | n + 1, i, k, h => by
    simp only [least] at h
    split at h
    · rename_i hs
      obtain ⟨h1, h2, h3, h4⟩ := least_some h
      refine ⟨by omega, by omega, h3, fun j h5 h6 => ?_⟩
      by_cases he : j = i
      · rw [he]; exact hs
      · exact h4 j (by omega) h6
    · rename_i hs
      cases h
      exact ⟨by omega, by omega, by simpa using hs, fun j h5 h6 => by omega⟩
theorem aget_put {β : Type} {m : MP β} {k j : Int} {v : β} {c : Nat} : aget (aput m k v c) j = if j = k then some v else aget m j := by
  induction m with
  | nil => simp [aput, aget]
  | cons y m ih =>
    simp only [aput]
    split
    · rename_i h
      simp only [aget, h]
      split
      · rfl
      · rfl
    · rename_i h
      simp only [aget, ih]
      split
      · rename_i h2
        rw [if_neg (fun he => h (by rw [← he, h2]))]
      · rfl

end Go.Proofs.Ytankpkkhjfclcaa