import Derived.RangeFuncRecord
import Derived.Test.YtlfhlbhgmgkbpaaGreatVcF
/- Vc, part S: a range over a function that calls nothing back; a function that holds one. -/
set_option linter.unusedVariables false
set_option linter.unusedSimpArgs false
namespace Vc
open Go

/-- What is known, and one block more. -/
def RO.with (R : RO) (b : Nat) (o : Obj) : RO := ⟨fun k => if k = b then some o else R.mem k, R.os, R.tape, R.out⟩
def RO.less (R : RO) (b : Nat) : RO := ⟨fun k => if k = b then none else R.mem k, R.os, R.tape, R.out⟩
theorem RO.with_same (R : RO) (b : Nat) (o : Obj) : (R.with b o).mem b = some o := by simp [RO.with]
theorem RO.with_ne (R : RO) {b k : Nat} (o : Obj) (h : k ≠ b) : (R.with b o).mem k = R.mem k := by simp [RO.with, h]
theorem RO.less_ne (R : RO) {b k : Nat} (h : k ≠ b) : (R.less b).mem k = R.mem k := by simp [RO.less, h]

theorem Sat.alloc {w : World} {R : RO} {H : Hp} (h : Sat w R H) (o : Obj) : Sat (w.alloc o) (R.with w.heap.size o) H := by
  have keep : ∀ b, b < w.heap.size → (w.alloc o).heap[b]? = w.heap[b]? := fun b hb => by
    show (w.heap.push o)[b]? = _
    rw [Array.getElem?_push]; simp [show b ≠ w.heap.size by omega]
  have lt : ∀ b x, R.mem b = some x → b < w.heap.size := fun b x hb => (Array.getElem?_eq_some_iff.1 (h.ro b x hb)).1
  refine ⟨fun b x hb => ?_, fun i a B hi => ?_, fun i a B hi => ?_, h.one, h.os, h.tape, h.out⟩
  · by_cases he : b = w.heap.size
    · subst he
      rw [RO.with_same] at hb
      cases hb
      exact World.alloc_heap_new w o
    · rw [RO.with_ne R o he] at hb
      rw [keep b (lt b x hb)]; exact h.ro b x hb
  · have := h.own i a B hi
    exact Blk.at_heap this (keep a (Blk.at_lt this))
  · have := Blk.at_lt (h.own i a B hi)
    rw [RO.with_ne R o (by omega)]; exact h.off i a B hi
theorem Sat.put {w : World} {R : RO} {H : Hp} {b : Nat} {x : Obj} (o : Obj) (h : Sat w R H) (hb : R.mem b = some x) : Sat (w.putObj b o) (R.less b) H := by
  refine ⟨fun k y hk => ?_, fun i a B hi => ?_, fun i a B hi => ?_, h.one, h.os, h.tape, h.out⟩
  · by_cases he : k = b
    · subst he; simp [RO.less] at hk
    · rw [RO.less_ne R he] at hk
      rw [World.putObj_heap_other he]; exact h.ro k y hk
  · have hne : a ≠ b := fun he => by subst he; rw [h.off i a B hi] at hb; cases hb
    exact Blk.at_heap (h.own i a B hi) (World.putObj_heap_other hne)
  · have := h.off i a B hi
    by_cases he : a = b
    · subst he; simp [RO.less]
    · rw [RO.less_ne R he]; exact this
section
variable {P : Program}

variable (P)
variable {P}

end
end Vc
