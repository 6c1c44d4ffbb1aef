import Derived.Test.YtejpoojgbnppoaaDoorStA
namespace Go.Proofs.YtejpoojgbnppoaaDoor
open Vc Go
set_option linter.unusedVariables false
set_option linter.unusedSimpArgs false

namespace T
def powB (p : PW) : ByteArray := (⟨#[94]⟩ : ByteArray) ++ decB p.1 ++ (⟨#[58]⟩ : ByteArray) ++ itoB p.2
def powsB (s : ByteArray) (ps : List PW) : ByteArray := ps.foldl (fun s p => s ++ powB p) s
theorem powsB_snoc (s : ByteArray) (l : List PW) (p : PW) : powsB s (l ++ [p]) = powsB s l ++ powB p := by simp [powsB]
mutual
/-- A term's text, told normally. -/
def txt : T → ByteArray
  | .mk k i s xs ps => if k = 1 then (⟨#[35]⟩ : ByteArray) ++ decB i else if k = 2 then quotB s else if k = 3 then quotB s ++ (⟨#[40]⟩ : ByteArray) ++ joinC (txtL xs) ++ (⟨#[41]⟩ : ByteArray) else powsB ((txtL xs).headD .empty) ps
def txtL : List T → List ByteArray
  | [] => []
  | a :: l => txt a :: txtL l
end
theorem txtL_map : ∀ l, txtL l = l.map txt
  | [] => rfl
  | a :: l => by simp only [txtL, List.map, txtL_map l]
def pwOk (ps : List PW) : Prop := ∀ p ∈ ps, (0 ≤ p.1 ∧ p.1 ≤ 4294967295) ∧ -9223372036854775808 ≤ p.2 ∧ p.2 ≤ 9223372036854775807
mutual
/-- Terms of which a text can be made. -/
def good : T → Prop
  | .mk k i _ xs ps => (0 ≤ i ∧ i ≤ 4294967295) ∧ pwOk ps ∧ (k = 1 ∨ k = 2 ∨ k = 3 ∨ k = 4 ∧ xs ≠ []) ∧ goodL xs
def goodL : List T → Prop
  | [] => True
  | a :: l => good a ∧ goodL l
end
theorem goodL_iff : ∀ l, goodL l ↔ ∀ t ∈ l, good t
  | [] => by simp [goodL]
  | a :: l => by simp [goodL, goodL_iff l]
theorem powB_size {p : PW} (h : (0 ≤ p.1 ∧ p.1 ≤ 4294967295) ∧ -9223372036854775808 ≤ p.2 ∧ p.2 ≤ 9223372036854775807) : (powB p).size ≤ 32 := by
  unfold powB
  rw [ByteArray.size_append, ByteArray.size_append, ByteArray.size_append]
  have := decB_size h.1.1 h.1.2
  have := itoB_size h.2.1 h.2.2
  have : (⟨#[94]⟩ : ByteArray).size = 1 := rfl
  have : (⟨#[58]⟩ : ByteArray).size = 1 := rfl
  omega
theorem powsB_size : ∀ {ps : List PW} {s : ByteArray}, pwOk ps → (powsB s ps).size ≤ s.size + 32 * ps.length
  | [], s, h => Nat.le_refl _
  | p :: ps, s, h => by
    have h1 := powsB_size (ps := ps) (s := s ++ powB p) fun q hq => h q (List.mem_cons_of_mem _ hq)
    have h2 := powB_size (h p (List.mem_cons_self ..))
    rw [ByteArray.size_append] at h1
    show (powsB (s ++ powB p) ps).size ≤ _
    rw [List.length_cons]; omega
theorem joinC_size : ∀ (xs : List ByteArray), (joinC xs).size ≤ (xs.map fun s => s.size + 1).sum
  | [] => Nat.le_refl _
  | [x] => by
    show (Lib.join [x.data.toList] [44]).toArray.size ≤ _
    rw [Lib.join_one, List.size_toArray, Array.length_toList]
    show x.size ≤ x.size + 1 + 0
    omega
  | x :: y :: l => by
    have ih := joinC_size (y :: l)
    have e : (joinC (x :: y :: l)).size = x.size + 1 + (joinC (y :: l)).size := by
      show (Lib.join (x.data.toList :: y.data.toList :: l.map (·.data.toList)) [44]).toArray.size = _ + 1 + (Lib.join (y.data.toList :: l.map (·.data.toList)) [44]).toArray.size
      rw [Lib.join_cons]
      simp [Lib.join_cons, Lib.joinTail]
      show x.size + _ = x.size + 1 + _
      omega
    rw [e, List.map_cons, List.sum_cons]
    omega
mutual
theorem txt_size : ∀ (t : T), good t → (txt t).size ≤ wt t
  | .mk k i s xs ps, h => by
    obtain ⟨h1, h2, h3, h4⟩ := h
    have hl := txtL_size xs h4
    have hj := joinC_size (txtL xs)
    have hw : wt (mk k i s xs ps) = 300 + 2 * s.size + 60 * ps.length + wtL xs := rfl
    have c1 : (⟨#[35]⟩ : ByteArray).size = 1 := rfl
    have c2 : (⟨#[40]⟩ : ByteArray).size = 1 := rfl
    have c3 : (⟨#[41]⟩ : ByteArray).size = 1 := rfl
    have hq := quotB_size s
    rw [txt]
    split
    · have := decB_size h1.1 h1.2
      rw [ByteArray.size_append]; omega
    · split
      · omega
      · split
        · rw [ByteArray.size_append, ByteArray.size_append, ByteArray.size_append]; omega
        · have hp := powsB_size (s := (txtL xs).headD .empty) h2
          have hh : ((txtL xs).headD .empty).size ≤ ((txtL xs).map fun s => s.size + 1).sum := by
            cases txtL xs with
            | nil => exact Nat.le_refl _
            | cons a l => rw [List.map_cons, List.sum_cons]; show a.size ≤ _; omega
          omega
theorem txtL_size : ∀ (l : List T), goodL l → ((txtL l).map fun s => s.size + 1).sum ≤ wtL l
  | [], _ => Nat.le_refl _
  | a :: l, h => by
    have h1 := txt_size a h.1
    have h2 := txtL_size l h.2
    rw [txtL, List.map_cons, List.sum_cons, wtL]; omega
end
end T
theorem L.txt_xs (y : L) : T.txtL ((List.range y.n).map fun j => (y.kid j).t) = (List.range y.n).map fun j => T.txt (y.kid j).t := by rw [T.txtL_map, List.map_map]; rfl
theorem L.good_eq (y : L) : y.t.good ↔ (0 ≤ y.id ∧ y.id ≤ 4294967295) ∧ T.pwOk y.pl ∧ (y.k = 1 ∨ y.k = 2 ∨ y.k = 3 ∨ y.k = 4 ∧ 0 < y.n) ∧ ∀ j, j < y.n → (y.kid j).t.good := by
  rw [L.t_eq, T.good, T.goodL_iff]
  have e : ((List.range y.n).map fun j => (y.kid j).t) ≠ [] ↔ 0 < y.n := by
    rw [Ne, List.map_eq_nil_iff, List.range_eq_nil]; omega
  rw [e]
  constructor
  · rintro ⟨h1, h2, h3, h4⟩
    exact ⟨h1, h2, h3, fun j hj => h4 _ (List.mem_map.2 ⟨j, List.mem_range.2 hj, rfl⟩)⟩
  · rintro ⟨h1, h2, h3, h4⟩
    refine ⟨h1, h2, h3, fun t ht => ?_⟩
    obtain ⟨j, hj, rfl⟩ := List.mem_map.1 ht
    exact h4 j (List.mem_range.1 hj)
theorem L.good_pw {y : L} (h : y.t.good) {j : Nat} (hj : j < y.m) : (0 ≤ (y.pw j).1 ∧ (y.pw j).1 ≤ 4294967295) ∧ -9223372036854775808 ≤ (y.pw j).2 ∧ (y.pw j).2 ≤ 9223372036854775807 :=
  ((L.good_eq y).1 h).2.1 _ (List.mem_map.2 ⟨j, List.mem_range.2 hj, rfl⟩)
theorem L.kid_size {y : L} (h : y.t.good) {j : Nat} (hj : j < y.n) : (T.txt (y.kid j).t).size + 60 * y.m + 300 ≤ y.t.wt := by
  have h1 := T.txt_size (y.kid j).t (((L.good_eq y).1 h).2.2.2 j hj)
  have := L.wt_kid y hj
  omega
theorem L.pow_size {y : L} (h : y.t.good) (hn : 0 < y.n) {j : Nat} (hj : j ≤ y.m) : (T.powsB (T.txt (y.kid 0).t) ((List.range j).map y.pw)).size ≤ y.t.wt := by
  have h1 := L.kid_size h hn
  have h2 := T.powsB_size (s := T.txt (y.kid 0).t) (ps := (List.range j).map y.pw) (fun p hp => by
    obtain ⟨i, hi, rfl⟩ := List.mem_map.1 hp
    exact L.good_pw h (by have := List.mem_range.1 hi; omega))
  rw [List.length_map, List.length_range] at h2
  omega
theorem L.join_size {y : L} (h : y.t.good) : (joinC ((List.range y.n).map fun j => T.txt (y.kid j).t)).size + 2 * y.s.size + 300 ≤ y.t.wt := by
  have h1 := T.joinC_size ((List.range y.n).map fun j => T.txt (y.kid j).t)
  have h2 := T.txtL_size ((List.range y.n).map fun j => (y.kid j).t) ((T.goodL_iff _).2 fun t ht => by
    obtain ⟨j, hj, rfl⟩ := List.mem_map.1 ht
    exact ((L.good_eq y).1 h).2.2.2 j (List.mem_range.1 hj))
  rw [L.txt_xs] at h2
  rw [L.wt_eq]
  omega
theorem txt_atom {y : L} (h : y.k = 1) : T.txt y.t = (⟨#[35]⟩ : ByteArray) ++ decB y.id := by rw [L.t_eq, T.txt, if_pos h]
theorem txt_word {y : L} (h : y.k = 2) : T.txt y.t = quotB y.s := by rw [L.t_eq, T.txt, if_neg (by omega), if_pos h]
theorem txt_hash {y : L} (h : y.k = 3) : T.txt y.t = quotB y.s ++ (⟨#[40]⟩ : ByteArray) ++ joinC ((List.range y.n).map fun j => T.txt (y.kid j).t) ++ (⟨#[41]⟩ : ByteArray) := by
  rw [L.t_eq, T.txt, if_neg (by omega), if_neg (by omega), if_pos h, L.txt_xs]
theorem txt_pow {y : L} (h : y.k = 4) (hn : 0 < y.n) : T.txt y.t = T.powsB (T.txt (y.kid 0).t) ((List.range y.m).map y.pw) := by
  rw [L.t_eq, T.txt, if_neg (by omega), if_neg (by omega), if_neg (by omega), L.txt_xs]
  obtain ⟨n, hn'⟩ : ∃ n, y.n = n + 1 := ⟨y.n - 1, by omega⟩
  rw [hn', List.range_succ_eq_map]; rfl
abbrev TI (y : L) (j : Nat) (b : Option Nat) (cap : Nat) (Lr : List Value) : Prop :=
  j ≤ y.n ∧ (b = none → cap = 0) ∧ j ≤ cap ∧ cap ≤ maxLen ∧ Lr = strl ((List.range j).map fun i => T.txt (y.kid i).t)
theorem tI_step {y : L} {j : Nat} {b : Option Nat} {cap a c : Nat} {Lr : List Value} (hI : TI y j b cap Lr) (hj : j < y.n) (h1 : j + 1 ≤ c) (h2 : c ≤ maxLen) :
    TI y (j + 1) (some a) c (Lr ++ [.string (T.txt (y.kid j).t)]) := by
  refine ⟨hj, fun h => (by cases h), h1, h2, ?_⟩
  rw [hI.2.2.2.2, List.range_succ, List.map_append]
  simp [strl]
theorem tI_len {y : L} {j : Nat} {b : Option Nat} {cap : Nat} {Lr : List Value} (hI : TI y j b cap Lr) : Lr.length = j * 1 := by rw [hI.2.2.2.2]; simp [strl]
theorem join_at {y : L} {j : Nat} {b : Option Nat} {cap : Nat} {Lr : List Value} (R : RO) (h : j = y.n ∧ TI y j b cap Lr) (hg : y.t.good) (hw : y.t.wt ≤ 1000000) :
    Gives Tryd.prog 48 [gsv b j cap, .string (⟨#[44]⟩ : ByteArray)] R [gsb b Lr 9 (cap * 1)] (.ret (.string (joinC ((List.range y.n).map fun j => T.txt (y.kid j).t)))) [gsb b Lr 9 (cap * 1)] := by
  obtain ⟨rfl, h1, h2, h3, h4, rfl⟩ := h
  have hl : ((List.range y.n).map fun i => T.txt (y.kid i).t).length = y.n := by simp
  have := join_ok b cap ((List.range y.n).map fun i => T.txt (y.kid i).t) R h2 (by rw [hl]; have := L.wt_n y; omega) (by rw [hl]; exact h3) (by have := L.join_size hg; omega)
  rw [hl] at this
  exact this
theorem rd_txt {y : L} {j : Nat} {b : Option Nat} {cap : Nat} {Lr : List Value} (h : j = y.n ∧ TI y j b cap Lr) (hn : 0 < y.n) : readVar Tryd.prog 9 Lr (0 + Int.toNat 0 * 1) = some (.string (T.txt (y.kid 0).t)) := by
  obtain ⟨rfl, h1, h2, h3, h4, rfl⟩ := h
  obtain ⟨n, hn'⟩ : ∃ n, y.n = n + 1 := ⟨y.n - 1, by omega⟩
  rw [readVar_one (n := 1) (by kernel_rfl), hn', List.range_succ_eq_map]; rfl
end Go.Proofs.YtejpoojgbnppoaaDoor
