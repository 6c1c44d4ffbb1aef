import Derived.Test.YtejpoojgbnppoaaDoorVcM
/- Vc, part Q: blocks of 512 bytes, and a disk's sectors, as functions of the place. -/
set_option linter.unusedVariables false
set_option linter.unusedSimpArgs false
namespace Vc
open Go

/-! ## Arrays of 512 bytes -/

def blkL (f : Nat → Int) : List Value := (List.range 512).map fun k => .int .u8 (f k)
theorem blkL_len (f : Nat → Int) : (blkL f).length = 512 := by simp [blkL]
theorem blkL_get {f : Nat → Int} {k : Nat} (h : k < 512) : (blkL f)[k]? = some (.int .u8 (f k)) := by simp [blkL, h]
theorem blkL_one (f : Nat → Int) : ones (blkL f) = true := by
  have : ∀ l : List Nat, ones (l.map fun k => Value.int .u8 (f k)) = true := fun l => by
    induction l with
    | nil => rfl
    | cons a l ih =>
      rw [List.map_cons, ones, show (Value.int .u8 (f a)).oneCell' = true from rfl]; exact ih
  exact this _
theorem blkL_congr {f g : Nat → Int} (h : ∀ k, k < 512 → f k = g k) : blkL f = blkL g := by
  unfold blkL
  exact List.map_congr_left fun k hk => by rw [h k (List.mem_range.1 hk)]
theorem blkL_row (f : Nat → Int) : IntRow .u8 512 (blkL f) := ⟨blkL_len f, fun v hv => by
  simp only [blkL, List.mem_map] at hv
  obtain ⟨k, _, rfl⟩ := hv
  exact ⟨_, rfl⟩⟩
theorem vEq_map (f g : Nat → Int) : ∀ l : List Nat, vEq (l.map fun k => Value.int .u8 (f k)) (l.map fun k => Value.int .u8 (g k)) = true ↔ ∀ k ∈ l, f k = g k
  | [] => by simp [vEq]
  | a :: l => by simp [vEq, vEq_map f g l]
theorem vEq_blk {f g : Nat → Int} : vEq (blkL f) (blkL g) = true ↔ ∀ k, k < 512 → f k = g k := by
  unfold blkL
  rw [vEq_map]
  simp
theorem vEq_blk' {f g : Nat → Int} (h : ∀ k, k < 512 → f k = g k) : vEq (blkL f) (blkL g) = true := vEq_blk.2 h

theorem splice_of : ∀ {cs : List Value} {n : Nat} {vs : List Value}, n + vs.length ≤ cs.length → splice cs n vs = some (cs.take n ++ vs ++ cs.drop (n + vs.length))
  | cs, 0, [], h => by cases cs <;> simp [splice]
  | [], 0, v :: vs, h => by simp at h
  | c :: cs, 0, v :: vs, h => by
    have := splice_of (cs := cs) (n := 0) (vs := vs) (by simp at h ⊢; omega)
    simp only [splice, this]
    simp
  | [], n + 1, vs, h => by simp at h
  | c :: cs, n + 1, vs, h => by
    have := splice_of (cs := cs) (n := n) (vs := vs) (by simp at h ⊢; omega)
    simp only [splice, this]
    simp [show n + 1 + vs.length = n + vs.length + 1 by omega]
theorem takeL_of : ∀ {n : Nat} {l : List Value}, n ≤ l.length → takeL n l = some (l.take n)
  | 0, l, h => by cases l <;> simp [takeL]
  | n + 1, [], h => by simp at h
  | n + 1, x :: l, h => by
    have := takeL_of (n := n) (l := l) (by simpa using h)
    simp [takeL, this]

theorem readVar_agg {P : Program} {t : TypeId} {n off : Nat} {cs l : List Value} (h : tinfo P t = some (true, n)) (hl : l.length = n) (hc : ∀ j, j < n → cs[off + j]? = l[j]?) : readVar P t cs off = some (.agg l.toArray) := by
  have hlen : off + n ≤ cs.length ∨ n = 0 := by
    rcases Nat.eq_zero_or_pos n with hz | hp
    · exact .inr hz
    · left
      have h1 := hc (n - 1) (by omega)
      rcases Nat.lt_or_ge (off + (n - 1)) cs.length with h2 | h2
      · omega
      · rw [List.getElem?_eq_none h2, List.getElem?_eq_getElem (by omega)] at h1; cases h1
  unfold readVar
  rw [h]
  simp only
  rw [takeL_of (by rw [List.length_drop]; omega)]
  simp only
  congr 2
  congr 1
  apply List.ext_getElem?
  intro j
  by_cases hj : j < n
  · rw [List.getElem?_take_of_lt hj, List.getElem?_drop, hc j hj]
  · rw [List.getElem?_eq_none (by simp; omega), List.getElem?_eq_none (by omega)]

theorem writeVar_of {P : Program} {t : TypeId} {n off : Nat} {cs cs' : List Value} {v : Value} (h : pureV P (Go.sizeOf t) = some n) (hv : v.cells.toList.length = n) (h1 : ones v.cells.toList = true)
    (hfit : off + n ≤ cs.length) (hl : cs'.length = cs.length) (hin : ∀ j, j < n → cs'[off + j]? = v.cells.toList[j]?) (hout : ∀ j, j < off ∨ off + n ≤ j → cs'[j]? = cs[j]?) : writeVar P t cs off v = some cs' := by
  unfold writeVar
  rw [h]
  simp only [hv, Nat.beq_refl, h1]
  rw [splice_of (by rw [hv]; exact hfit)]
  congr 1
  apply List.ext_getElem?
  intro j
  by_cases h2 : j < off
  · rw [List.append_assoc, List.getElem?_append_left (by rw [List.length_take]; omega), List.getElem?_take_of_lt h2, hout j (.inl h2)]
  · by_cases h3 : j < off + n
    · rw [List.getElem?_append_left (by rw [List.length_append, List.length_take, hv]; omega), List.getElem?_append_right (by rw [List.length_take]; omega), List.length_take, Nat.min_eq_left (by omega),
        ← hin (j - off) (by omega), show off + (j - off) = j by omega]
    · rw [List.getElem?_append_right (by rw [List.length_append, List.length_take, hv]; omega), List.length_append, List.length_take, hv, Nat.min_eq_left (by omega), List.getElem?_drop, show off + n + (j - (off + n)) = j by omega, hout j (.inr (by omega))]

theorem read_blk {P : Program} {t : TypeId} (h : tinfo P t = some (true, 512)) (f : Nat → Int) : readVar P t (blkL f) 0 = some (.agg (blkL f).toArray) :=
  readVar_agg h (blkL_len f) (fun j hj => by rw [Nat.zero_add])
theorem read_blk1 {P : Program} {t : TypeId} {w : Nat} (h : tinfo P t = some (false, w)) (f : Nat → Int) {k off : Nat} (hk : k < 512) (ho : off = k) : readVar P t (blkL f) off = some (.int .u8 (f k)) := by
  rw [readVar_one h, ho, blkL_get hk]
theorem write_blk {P : Program} {t : TypeId} (h : pureV P (Go.sizeOf t) = some 512) {cs : List Value} (hc : cs.length = 512) (f : Nat → Int) : writeVar P t cs 0 (.agg (blkL f).toArray) = some (blkL f) :=
  writeVar_of h (by simp [Value.cells, blkL_len]) (by simpa [Value.cells] using blkL_one f) (by omega) (by rw [blkL_len, hc]) (fun j hj => by simp [Value.cells]) (fun j hj => by
    rw [List.getElem?_eq_none (by rw [blkL_len]; omega), List.getElem?_eq_none (by omega)])
def upd {β : Type} (f : Nat → β) (k : Nat) (x : β) : Nat → β := fun j => if j = k then x else f j
theorem write_blk1 {P : Program} {t : TypeId} (h : pureV P (Go.sizeOf t) = some 1) (f : Nat → Int) (x : Int) {k off : Nat} (hk : k < 512) (ho : off = k) : writeVar P t (blkL f) off (.int .u8 x) = some (blkL (upd f k x)) := by
  subst ho
  refine writeVar_of h (by simp [Value.cells]) (by rfl) (by rw [blkL_len]; omega) (by rw [blkL_len, blkL_len]) (fun j hj => ?_) (fun j hj => ?_)
  · have : j = 0 := by omega
    subst this
    rw [blkL_get (by omega)]
    simp [Value.cells, upd]
  · by_cases h2 : j < 512
    · rw [blkL_get h2, blkL_get h2, show upd f off x j = f j by unfold upd; rw [if_neg (by omega)]]
    · rw [List.getElem?_eq_none (by rw [blkL_len]; omega), List.getElem?_eq_none (by rw [blkL_len]; omega)]

/-! ## A disk's sectors -/

structure Dk where
  sure : Nat → Nat → Int
  now : Nat → Nat → Int
  waits : Nat → Bool
def Dk.zero : Dk := ⟨fun _ _ => 0, fun _ _ => 0, fun _ => false⟩
def Dk.cell (d : Dk) (j : Nat) : Value :=
  if j % 1025 < 512 then .int .u8 (d.sure (j / 1025) (j % 1025)) else if j % 1025 < 1024 then .int .u8 (d.now (j / 1025) (j % 1025 - 512)) else .bool (d.waits (j / 1025))
def Dk.row (d : Dk) (n : Nat) : List Value := (List.range (n * 1025)).map d.cell
theorem Dk.row_len (d : Dk) (n : Nat) : (d.row n).length = n * 1025 := by simp [Dk.row]
theorem Dk.row_get {d : Dk} {n j : Nat} (h : j < n * 1025) : (d.row n)[j]? = some (d.cell j) := by simp [Dk.row, h]
theorem Dk.cell_sure {d : Dk} {i k : Nat} (h : k < 512) : d.cell (i * 1025 + k) = .int .u8 (d.sure i k) := by
  unfold Dk.cell
  rw [if_pos (by omega), show (i * 1025 + k) / 1025 = i by omega, show (i * 1025 + k) % 1025 = k by omega]
theorem Dk.cell_now {d : Dk} {i k : Nat} (h : k < 512) : d.cell (i * 1025 + 512 + k) = .int .u8 (d.now i k) := by
  unfold Dk.cell
  rw [if_neg (by omega), if_pos (by omega), show (i * 1025 + 512 + k) / 1025 = i by omega, show (i * 1025 + 512 + k) % 1025 - 512 = k by omega]
theorem Dk.cell_waits {d : Dk} {i : Nat} : d.cell (i * 1025 + 1024) = .bool (d.waits i) := by
  unfold Dk.cell
  rw [if_neg (by omega), if_neg (by omega), show (i * 1025 + 1024) / 1025 = i by omega]
theorem Dk.row_congr {d e : Dk} {n : Nat} (h : ∀ i, i < n → (∀ k, k < 512 → d.sure i k = e.sure i k) ∧ (∀ k, k < 512 → d.now i k = e.now i k) ∧ d.waits i = e.waits i) : d.row n = e.row n := by
  unfold Dk.row
  refine List.map_congr_left fun j hj => ?_
  have hj := List.mem_range.1 hj
  obtain ⟨h1, h2, h3⟩ := h (j / 1025) (by omega)
  unfold Dk.cell
  split
  · rw [h1 _ (by omega)]
  · split
    · rw [h2 _ (by omega)]
    · rw [h3]

theorem Dk.zero_get {n j : Nat} (h : j < n * 1025) {zc : List Value} (hz : ∀ k, k < 1025 → zc[k]? = some (Dk.zero.cell k)) : (Dk.zero.row n)[j]? = zc[j % 1025]? := by
  rw [Dk.row_get h, hz _ (by omega)]
  unfold Dk.cell
  rw [Nat.mod_mod]
  rfl

def Dk.setSure (d : Dk) (i : Nat) (f : Nat → Int) : Dk := ⟨upd d.sure i f, d.now, d.waits⟩
def Dk.setNow (d : Dk) (i : Nat) (f : Nat → Int) : Dk := ⟨d.sure, upd d.now i f, d.waits⟩
def Dk.setWaits (d : Dk) (i : Nat) (b : Bool) : Dk := ⟨d.sure, d.now, upd d.waits i b⟩

theorem Dk.read_sure {P : Program} {t : TypeId} (h : tinfo P t = some (true, 512)) (d : Dk) {n i off : Nat} (hi : i < n) (ho : off = i * 1025) : readVar P t (d.row n) off = some (.agg (blkL (d.sure i)).toArray) :=
  readVar_agg h (blkL_len _) (fun j hj => by rw [Dk.row_get (by omega), blkL_get hj, ho, Dk.cell_sure hj])
theorem Dk.read_now {P : Program} {t : TypeId} (h : tinfo P t = some (true, 512)) (d : Dk) {n i off : Nat} (hi : i < n) (ho : off = i * 1025 + 512) : readVar P t (d.row n) off = some (.agg (blkL (d.now i)).toArray) :=
  readVar_agg h (blkL_len _) (fun j hj => by rw [Dk.row_get (by omega), blkL_get hj, ho, Dk.cell_now hj])
theorem Dk.read_sure1 {P : Program} {t : TypeId} {w : Nat} (h : tinfo P t = some (false, w)) (d : Dk) {n i k off : Nat} (hi : i < n) (hk : k < 512) (ho : off = i * 1025 + k) : readVar P t (d.row n) off = some (.int .u8 (d.sure i k)) := by
  rw [readVar_one h, Dk.row_get (by omega), ho, Dk.cell_sure hk]
theorem Dk.read_now1 {P : Program} {t : TypeId} {w : Nat} (h : tinfo P t = some (false, w)) (d : Dk) {n i k off : Nat} (hi : i < n) (hk : k < 512) (ho : off = i * 1025 + 512 + k) : readVar P t (d.row n) off = some (.int .u8 (d.now i k)) := by
  rw [readVar_one h, Dk.row_get (by omega), ho, Dk.cell_now hk]
theorem Dk.read_waits {P : Program} {t : TypeId} {w : Nat} (h : tinfo P t = some (false, w)) (d : Dk) {n i off : Nat} (hi : i < n) (ho : off = i * 1025 + 1024) : readVar P t (d.row n) off = some (.bool (d.waits i)) := by
  rw [readVar_one h, Dk.row_get (by omega), ho, Dk.cell_waits]

theorem Dk.cell_split (d : Dk) (j : Nat) : (∃ i k, k < 512 ∧ j = i * 1025 + k) ∨ (∃ i k, k < 512 ∧ j = i * 1025 + 512 + k) ∨ ∃ i, j = i * 1025 + 1024 := by
  by_cases h : j % 1025 < 512
  · exact .inl ⟨j / 1025, j % 1025, h, by omega⟩
  · by_cases h2 : j % 1025 < 1024
    · exact .inr (.inl ⟨j / 1025, j % 1025 - 512, by omega, by omega⟩)
    · exact .inr (.inr ⟨j / 1025, by omega⟩)
theorem Dk.setSure_cell {d : Dk} {i : Nat} {f : Nat → Int} {j : Nat} (h : ∀ k, k < 512 → j = i * 1025 + k → f k = d.sure i k) : (d.setSure i f).cell j = d.cell j := by
  rcases Dk.cell_split d j with ⟨a, k, hk, rfl⟩ | ⟨a, k, hk, rfl⟩ | ⟨a, rfl⟩
  · rw [Dk.cell_sure hk, Dk.cell_sure hk]
    by_cases ha : a = i
    · subst ha; simp only [Dk.setSure, upd, if_true]; rw [h k hk rfl]
    · simp only [Dk.setSure, upd, if_neg ha]
  · rw [Dk.cell_now hk, Dk.cell_now hk]; rfl
  · rw [Dk.cell_waits, Dk.cell_waits]; rfl
theorem Dk.setNow_cell {d : Dk} {i : Nat} {f : Nat → Int} {j : Nat} (h : ∀ k, k < 512 → j = i * 1025 + 512 + k → f k = d.now i k) : (d.setNow i f).cell j = d.cell j := by
  rcases Dk.cell_split d j with ⟨a, k, hk, rfl⟩ | ⟨a, k, hk, rfl⟩ | ⟨a, rfl⟩
  · rw [Dk.cell_sure hk, Dk.cell_sure hk]; rfl
  · rw [Dk.cell_now hk, Dk.cell_now hk]
    by_cases ha : a = i
    · subst ha; simp only [Dk.setNow, upd, if_true]; rw [h k hk rfl]
    · simp only [Dk.setNow, upd, if_neg ha]
  · rw [Dk.cell_waits, Dk.cell_waits]; rfl
theorem Dk.setWaits_cell {d : Dk} {i : Nat} {b : Bool} {j : Nat} (h : j ≠ i * 1025 + 1024) : (d.setWaits i b).cell j = d.cell j := by
  rcases Dk.cell_split d j with ⟨a, k, hk, rfl⟩ | ⟨a, k, hk, rfl⟩ | ⟨a, rfl⟩
  · rw [Dk.cell_sure hk, Dk.cell_sure hk]; rfl
  · rw [Dk.cell_now hk, Dk.cell_now hk]; rfl
  · rw [Dk.cell_waits, Dk.cell_waits]
    simp only [Dk.setWaits, upd, if_neg (show a ≠ i by omega)]
theorem Dk.row_eq {d e : Dk} {n j : Nat} (h : d.cell j = e.cell j) : (d.row n)[j]? = (e.row n)[j]? := by
  by_cases hj : j < n * 1025
  · rw [Dk.row_get hj, Dk.row_get hj, h]
  · rw [List.getElem?_eq_none (by rw [Dk.row_len]; omega), List.getElem?_eq_none (by rw [Dk.row_len]; omega)]

theorem Dk.write_sure {P : Program} {t : TypeId} (h : pureV P (Go.sizeOf t) = some 512) (d : Dk) (f : Nat → Int) {n i off : Nat} (hi : i < n) (ho : off = i * 1025) :
    writeVar P t (d.row n) off (.agg (blkL f).toArray) = some ((d.setSure i f).row n) := by
  refine writeVar_of h (by simp [Value.cells, blkL_len]) (by simpa [Value.cells] using blkL_one f) (by rw [Dk.row_len]; omega) (by rw [Dk.row_len, Dk.row_len]) (fun j hj => ?_) (fun j hj => Dk.row_eq (Dk.setSure_cell fun k hk he => by omega))
  rw [Dk.row_get (by omega), ho, Dk.cell_sure hj]
  simp [Value.cells, blkL_get hj, Dk.setSure, upd]
theorem Dk.write_now {P : Program} {t : TypeId} (h : pureV P (Go.sizeOf t) = some 512) (d : Dk) (f : Nat → Int) {n i off : Nat} (hi : i < n) (ho : off = i * 1025 + 512) :
    writeVar P t (d.row n) off (.agg (blkL f).toArray) = some ((d.setNow i f).row n) := by
  refine writeVar_of h (by simp [Value.cells, blkL_len]) (by simpa [Value.cells] using blkL_one f) (by rw [Dk.row_len]; omega) (by rw [Dk.row_len, Dk.row_len]) (fun j hj => ?_) (fun j hj => Dk.row_eq (Dk.setNow_cell fun k hk he => by omega))
  rw [Dk.row_get (by omega), ho, Dk.cell_now hj]
  simp [Value.cells, blkL_get hj, Dk.setNow, upd]
theorem Dk.write_sure1 {P : Program} {t : TypeId} (h : pureV P (Go.sizeOf t) = some 1) (d : Dk) (x : Int) {n i k off : Nat} (hi : i < n) (hk : k < 512) (ho : off = i * 1025 + k) :
    writeVar P t (d.row n) off (.int .u8 x) = some ((d.setSure i (upd (d.sure i) k x)).row n) := by
  refine writeVar_of h (by simp [Value.cells]) (by rfl) (by rw [Dk.row_len]; omega) (by rw [Dk.row_len, Dk.row_len]) (fun j hj => ?_) (fun j hj => Dk.row_eq (Dk.setSure_cell fun m hm he => by
    unfold upd; rw [if_neg (by omega)]))
  have : j = 0 := by omega
  subst this
  rw [Dk.row_get (by omega), ho, Nat.add_zero, Dk.cell_sure hk]
  simp [Value.cells, Dk.setSure, upd]
theorem Dk.write_now1 {P : Program} {t : TypeId} (h : pureV P (Go.sizeOf t) = some 1) (d : Dk) (x : Int) {n i k off : Nat} (hi : i < n) (hk : k < 512) (ho : off = i * 1025 + 512 + k) :
    writeVar P t (d.row n) off (.int .u8 x) = some ((d.setNow i (upd (d.now i) k x)).row n) := by
  refine writeVar_of h (by simp [Value.cells]) (by rfl) (by rw [Dk.row_len]; omega) (by rw [Dk.row_len, Dk.row_len]) (fun j hj => ?_) (fun j hj => Dk.row_eq (Dk.setNow_cell fun m hm he => by
    unfold upd; rw [if_neg (by omega)]))
  have : j = 0 := by omega
  subst this
  rw [Dk.row_get (by omega), ho, Nat.add_zero, Dk.cell_now hk]
  simp [Value.cells, Dk.setNow, upd]
theorem Dk.write_waits {P : Program} {t : TypeId} (h : pureV P (Go.sizeOf t) = some 1) (d : Dk) (b : Bool) {n i off : Nat} (hi : i < n) (ho : off = i * 1025 + 1024) :
    writeVar P t (d.row n) off (.bool b) = some ((d.setWaits i b).row n) := by
  refine writeVar_of h (by simp [Value.cells]) (by rfl) (by rw [Dk.row_len]; omega) (by rw [Dk.row_len, Dk.row_len]) (fun j hj => ?_) (fun j hj => Dk.row_eq (Dk.setWaits_cell (by omega)))
  have : j = 0 := by omega
  subst this
  rw [Dk.row_get (by omega), ho, Nat.add_zero, Dk.cell_waits]
  simp [Value.cells, Dk.setWaits, upd]

/-- What copy does with the first m bytes of what is shown, within one sector. -/
theorem Dk.copied (d : Dk) {n i m off off' : Nat} (hi : i < n) (hm : m ≤ 512) (ho : off = i * 1025) (ho' : off' = i * 1025 + 512) :
    (d.row n).take off ++ ((((d.row n).drop off').take m).take m) ++ (d.row n).drop (off + m) = (d.setSure i (fun k => if k < m then d.now i k else d.sure i k)).row n := by
  apply List.ext_getElem?
  intro j
  have hl : ((((d.row n).drop off').take m).take m).length = m := by
    simp only [List.length_take, List.length_drop, Dk.row_len]; omega
  have hl1 : ((d.row n).take off).length = off := by rw [List.length_take, Dk.row_len]; omega
  by_cases h2 : j < off
  · rw [List.append_assoc, List.getElem?_append_left (by omega), List.getElem?_take_of_lt h2]
    exact (Dk.row_eq (Dk.setSure_cell fun k hk he => by omega)).symm
  · by_cases h3 : j < off + m
    · rw [List.getElem?_append_left (by rw [List.length_append, hl, hl1]; omega), List.getElem?_append_right (by omega), hl1, List.getElem?_take_of_lt (by omega), List.getElem?_take_of_lt (by omega), List.getElem?_drop,
        Dk.row_get (by omega), Dk.row_get (by omega)]
      have e1 : off' + (j - off) = i * 1025 + 512 + (j - off) := by omega
      have e2 : j = i * 1025 + (j - off) := by omega
      rw [e1, Dk.cell_now (by omega)]
      conv => rhs; rw [e2, Dk.cell_sure (by omega)]
      simp only [Dk.setSure, upd, if_true]
      rw [if_pos (by omega)]
    · rw [List.getElem?_append_right (by rw [List.length_append, hl, hl1]; omega), List.length_append, hl, hl1, List.getElem?_drop, show off + m + (j - (off + m)) = j by omega]
      exact (Dk.row_eq (Dk.setSure_cell fun k hk he => by rw [if_neg (by omega)])).symm

theorem Dk.cpy_ok {P : Program} {R : RO} {t u ty e by' tb mm g n i m off off' : Nat} {zc : List Value} (d : Dk) (ht : P.underlying t = some (.slice e)) (hi : tyI P e = some (1, by', zc)) (hin : i < n) (hm : m ≤ 512)
    (ho : off = i * 1025) (ho' : off' = i * 1025 + 512) :
    Prim0 P (.cpy t u ty (.slice (some ⟨g, off, none⟩) 512 512) (.slice (some ⟨g, off', none⟩) m 512)) R [some (g, .row (d.row n) tb mm)] (.int .i64 (m : Nat))
      [some (g, .row ((d.setSure i (fun k => if k < m then d.now i k else d.sure i k)).row n) tb mm)] := by
  have h1 : ∀ v ∈ (((d.row n).drop off').take m), v.oneCell' = true := fun v hv => by
    have h2 := List.mem_of_mem_drop (List.mem_of_mem_take hv)
    simp only [Dk.row, List.mem_map] at h2
    obtain ⟨j, _, rfl⟩ := h2
    unfold Dk.cell
    split
    · rfl
    · split <;> rfl
  have hl : ((d.row n).drop off' |>.take m).length = m * 1 := by
    simp only [List.length_take, List.length_drop, Dk.row_len]; omega
  have := Vc.cpy_ok (P := P) (R := R) (u := u) (ty := ty) (g := g) (off := off) (dl := 512) (dc := 512) (n := m) (m := mm) (tb := tb) (x := .slice (some ⟨g, off', none⟩) m 512) (cs := d.row n) (full := ((d.row n).drop off').take m) (T := []) ht hi
    ⟨hl, .inr (.inr ⟨g, off', 512, rfl, .inl ⟨0, _, _, _, rfl, by rw [Nat.mul_one]⟩⟩)⟩ h1 rfl (by rw [Dk.row_len, show Nat.min m 512 = m from Nat.min_eq_left hm]; omega)
  rw [show Nat.min m 512 = m from Nat.min_eq_left hm] at this
  rw [Nat.mul_one, Dk.copied d hin hm ho ho'] at this
  exact this

def intl (l : List Int) : List Value := l.map (Value.int .i64)
theorem intl_len (l : List Int) : (intl l).length = l.length := by simp [intl]
theorem read_intl {P : Program} {t : TypeId} {w : Nat} (h : tinfo P t = some (false, w)) (l : List Int) {k off : Nat} (hk : k < l.length) (ho : off = k) : readVar P t (intl l) off = some (.int .i64 (l.getD k 0)) := by
  rw [readVar_one h, ho]
  simp [intl, hk]
def idxOf : List Int → Int → Nat → Int
  | [], _, _ => -1
  | y :: l, x, j => if (x == y) = true then (j : Int) else idxOf l x (j + 1)
theorem idxOf_drop {l : List Int} {x : Int} {j : Nat} (h : j < l.length) : idxOf (l.drop j) x j = if (x == l.getD j 0) = true then (j : Int) else idxOf (l.drop (j + 1)) x (j + 1) := by
  rw [List.drop_eq_getElem_cons h]
  simp only [idxOf, List.getD_eq_getElem?_getD, List.getElem?_eq_getElem h, Option.getD_some]
theorem idxOf_end {l : List Int} {x : Int} {j : Nat} (h : l.length ≤ j) : idxOf (l.drop j) x j = -1 := by
  rw [List.drop_eq_nil_of_le h]; rfl

/-- What lies behind an array's end. -/
theorem slc_end {P : Program} {R : RO} {H : Hp} {t e : TypeId} {b off n z : Nat} {l : Int} (ht : P.underlying t = some (.array n e)) (hz : pureV P (Go.sizeOf e) = some z) (hl : l = (n : Int)) :
    Prim0 P (.slc t (.pointer (some ⟨b, off, none⟩)) (some (.int .i64 l)) none none) R H (.slice (some ⟨b, off, none⟩) 0 0) H := by
  intro Rx w hR hs
  subst hl
  refine ⟨w, ?_, hs⟩
  simp only [PC.sem, Instr.sliceAt, Instr.sureAddr, Sem.run_bind, run_underlying ht, Result.andThen_ok, Instr.sliceBounds, Sem.run_pure, Option.map_none, Option.map_some, Option.isSome, Bool.false_eq_true, if_false, if_true,
    run_sliceBound (show (0 : Int) ≤ (n : Int) by omega) (show (n : Int) ≤ ((n : Nat) : Int) by omega), pureV_run hz w]
  simp

/-! ## Rows of blocks, rows of truths -/

def bkCell (f : Nat → Nat → Int) (j : Nat) : Value := .int .u8 (f (j / 512) (j % 512))
def bkRow (f : Nat → Nat → Int) (n : Nat) : List Value := (List.range (n * 512)).map (bkCell f)
theorem bk_len (f : Nat → Nat → Int) (n : Nat) : (bkRow f n).length = n * 512 := by simp [bkRow]
theorem bk_get {f : Nat → Nat → Int} {n j : Nat} (h : j < n * 512) : (bkRow f n)[j]? = some (bkCell f j) := by simp [bkRow, h]
theorem bk_cell {f : Nat → Nat → Int} {i k : Nat} (h : k < 512) : bkCell f (i * 512 + k) = .int .u8 (f i k) := by
  unfold bkCell
  rw [show (i * 512 + k) / 512 = i by omega, show (i * 512 + k) % 512 = k by omega]
theorem bk_congr {f g : Nat → Nat → Int} {n : Nat} (h : ∀ i, i < n → ∀ k, k < 512 → f i k = g i k) : bkRow f n = bkRow g n := by
  unfold bkRow
  refine List.map_congr_left fun j hj => ?_
  have hj := List.mem_range.1 hj
  unfold bkCell
  rw [h _ (by omega) _ (by omega)]
theorem bk_zero_get {n j : Nat} (h : j < n * 512) : (bkRow (fun _ _ => 0) n)[j]? = (blkL (fun _ => 0))[j % 512]? := by
  rw [bk_get h, blkL_get (by omega)]; rfl
theorem read_bk {P : Program} {t : TypeId} (h : tinfo P t = some (true, 512)) (f : Nat → Nat → Int) {n i off : Nat} (hi : i < n) (ho : off = i * 512) : readVar P t (bkRow f n) off = some (.agg (blkL (f i)).toArray) :=
  readVar_agg h (blkL_len _) (fun j hj => by rw [bk_get (by omega), blkL_get hj, ho, bk_cell hj])
theorem read_bk1 {P : Program} {t : TypeId} {w : Nat} (h : tinfo P t = some (false, w)) (f : Nat → Nat → Int) {n i k off : Nat} (hi : i < n) (hk : k < 512) (ho : off = i * 512 + k) : readVar P t (bkRow f n) off = some (.int .u8 (f i k)) := by
  rw [readVar_one h, bk_get (by omega), ho, bk_cell hk]
theorem bk_upd {f : Nat → Nat → Int} {i : Nat} {h : Nat → Int} {n j : Nat} (hj : ∀ k, k < 512 → j = i * 512 + k → h k = f i k) : (bkRow (upd f i h) n)[j]? = (bkRow f n)[j]? := by
  by_cases hl : j < n * 512
  · rw [bk_get hl, bk_get hl]
    congr 1
    unfold bkCell upd
    by_cases he : j / 512 = i
    · rw [if_pos he, hj (j % 512) (by omega) (by omega), he]
    · rw [if_neg he]
  · rw [List.getElem?_eq_none (by rw [bk_len]; omega), List.getElem?_eq_none (by rw [bk_len]; omega)]
theorem write_bk {P : Program} {t : TypeId} (h : pureV P (Go.sizeOf t) = some 512) (f : Nat → Nat → Int) (g : Nat → Int) {n i off : Nat} (hi : i < n) (ho : off = i * 512) :
    writeVar P t (bkRow f n) off (.agg (blkL g).toArray) = some (bkRow (upd f i g) n) := by
  refine writeVar_of h (by simp [Value.cells, blkL_len]) (by simpa [Value.cells] using blkL_one g) (by rw [bk_len]; omega) (by rw [bk_len, bk_len]) (fun j hj => ?_) (fun j hj => bk_upd fun k hk he => by omega)
  rw [bk_get (by omega), ho, bk_cell hj]
  simp [Value.cells, blkL_get hj, upd]
theorem write_bk1 {P : Program} {t : TypeId} (h : pureV P (Go.sizeOf t) = some 1) (f : Nat → Nat → Int) (x : Int) {n i k off : Nat} (hi : i < n) (hk : k < 512) (ho : off = i * 512 + k) :
    writeVar P t (bkRow f n) off (.int .u8 x) = some (bkRow (upd f i (upd (f i) k x)) n) := by
  refine writeVar_of h (by simp [Value.cells]) (by rfl) (by rw [bk_len]; omega) (by rw [bk_len, bk_len]) (fun j hj => ?_) (fun j hj => bk_upd fun m hm he => by
    unfold upd; rw [if_neg (by omega)])
  have : j = 0 := by omega
  subst this
  rw [bk_get (by omega), ho, Nat.add_zero, bk_cell hk]
  simp [Value.cells, upd]
def bwRow (w : Nat → Bool) (n : Nat) : List Value := (List.range n).map fun j => .bool (w j)
theorem bw_len (w : Nat → Bool) (n : Nat) : (bwRow w n).length = n := by simp [bwRow]
theorem bw_get {w : Nat → Bool} {n j : Nat} (h : j < n) : (bwRow w n)[j]? = some (.bool (w j)) := by simp [bwRow, h]
theorem bw_congr {w v : Nat → Bool} {n : Nat} (h : ∀ i, i < n → w i = v i) : bwRow w n = bwRow v n := by
  unfold bwRow
  exact List.map_congr_left fun j hj => by rw [h j (List.mem_range.1 hj)]
theorem read_bw {P : Program} {t : TypeId} {m : Nat} (h : tinfo P t = some (false, m)) (w : Nat → Bool) {n i off : Nat} (hi : i < n) (ho : off = i) : readVar P t (bwRow w n) off = some (.bool (w i)) := by
  rw [readVar_one h, ho, bw_get hi]
theorem write_bw {P : Program} {t : TypeId} (h : pureV P (Go.sizeOf t) = some 1) (w : Nat → Bool) (b : Bool) {n i off : Nat} (hi : i < n) (ho : off = i) : writeVar P t (bwRow w n) off (.bool b) = some (bwRow (upd w i b) n) := by
  subst ho
  refine writeVar_of h (by simp [Value.cells]) (by rfl) (by rw [bw_len]; omega) (by rw [bw_len, bw_len]) (fun j hj => ?_) (fun j hj => ?_)
  · have : j = 0 := by omega
    subst this
    rw [bw_get (by omega)]
    simp [Value.cells, upd]
  · by_cases hl : j < n
    · rw [bw_get hl, bw_get hl, show upd w off b j = w j from by unfold upd; rw [if_neg (by omega)]]
    · rw [List.getElem?_eq_none (by rw [bw_len]; omega), List.getElem?_eq_none (by rw [bw_len]; omega)]
end Vc
