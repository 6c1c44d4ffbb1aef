import Derived.Below
import Derived.Test.YtejpoojgbnppoaaDoorVcQ
import Derived.Test.YtejpoojgbnppoaaDoorVcP
/- Vc, part W: rows of words that are told by functions; strings that are joined. -/
set_option linter.unusedVariables false
set_option linter.unusedSimpArgs false
namespace Vc
open Go

def w64 (f : Nat → Int) (n : Nat) : List Value := (List.range n).map fun k => .int .u64 (f k)
theorem w64_len (f : Nat → Int) (n : Nat) : (w64 f n).length = n := by simp [w64]
theorem w64_get {f : Nat → Int} {n k : Nat} (h : k < n) : (w64 f n)[k]? = some (.int .u64 (f k)) := by simp [w64, h]
theorem w64_one (f : Nat → Int) (n : Nat) : ones (w64 f n) = true := by
  have : ∀ l : List Nat, ones (l.map fun k => Value.int .u64 (f k)) = true := fun l => by
    induction l with
    | nil => rfl
    | cons a l ih =>
      rw [List.map_cons, ones, show (Value.int .u64 (f a)).oneCell' = true from rfl]; exact ih
  exact this _
theorem w64_congr {f g : Nat → Int} {n : Nat} (h : ∀ k, k < n → f k = g k) : w64 f n = w64 g n := by
  unfold w64
  exact List.map_congr_left fun k hk => by rw [h k (List.mem_range.1 hk)]
theorem read_w64 {P : Program} {t : TypeId} {n : Nat} (h : tinfo P t = some (true, n)) (f : Nat → Int) : readVar P t (w64 f n) 0 = some (.agg (w64 f n).toArray) :=
  readVar_agg h (w64_len f n) (fun j hj => by rw [Nat.zero_add])
theorem read_w641 {P : Program} {t : TypeId} {w n : Nat} (h : tinfo P t = some (false, w)) (f : Nat → Int) {k off : Nat} (hk : k < n) (ho : off = k) : readVar P t (w64 f n) off = some (.int .u64 (f k)) := by
  rw [readVar_one h, ho, w64_get hk]
theorem write_w64 {P : Program} {t : TypeId} {n : Nat} (h : pureV P (Go.sizeOf t) = some n) {cs : List Value} (hc : cs.length = n) (f : Nat → Int) : writeVar P t cs 0 (.agg (w64 f n).toArray) = some (w64 f n) :=
  writeVar_of h (by simp [Value.cells, w64_len]) (by simpa [Value.cells] using w64_one f n) (by omega) (by rw [w64_len, hc]) (fun j hj => by simp [Value.cells]) (fun j hj => by
    rw [List.getElem?_eq_none (by rw [w64_len]; omega), List.getElem?_eq_none (by omega)])
theorem write_w641 {P : Program} {t : TypeId} {n : Nat} (h : pureV P (Go.sizeOf t) = some 1) (f : Nat → Int) (x : Int) {k off : Nat} (hk : k < n) (ho : off = k) : writeVar P t (w64 f n) off (.int .u64 x) = some (w64 (upd f k x) n) := by
  subst ho
  refine writeVar_of h (by simp [Value.cells]) (by rfl) (by rw [w64_len]; omega) (by rw [w64_len, w64_len]) (fun j hj => ?_) (fun j hj => ?_)
  · have : j = 0 := by omega
    subst this
    rw [w64_get (by omega)]
    simp [Value.cells, upd]
  · by_cases h2 : j < n
    · rw [w64_get h2, w64_get h2, show upd f off x j = f j by unfold upd; rw [if_neg (by omega)]]
    · rw [List.getElem?_eq_none (by rw [w64_len]; omega), List.getElem?_eq_none (by rw [w64_len]; omega)]
theorem Sat.below {w w' : World} {R : RO} {H : Hp} (h : Sat w R H) (hb : Go.RowKit.Below w.heap.size w w') : Sat w' R H :=
  ⟨fun b o hr => (hb.block b (Array.getElem?_eq_some_iff.1 (h.ro b o hr)).1).trans (h.ro b o hr), fun i a B hi => Blk.at_heap (h.own i a B hi) (hb.block _ (Blk.at_lt (h.own i a B hi))), h.off, h.one, hb.os.trans h.os, hb.tape.trans h.tape, hb.output.trans h.out⟩
/-- A row of strings. -/
def strl (xs : List ByteArray) : List Value := xs.map Value.string
end Vc
