import Derived.Test.YtejpoojgbnppoaaDoorVcN
import Derived.Laws.IdiomStrings
import Derived.Laws.MakeOwn
import Derived.Laws.Strings
/- Vc, part M: make, append, copy; bytes and texts. -/
set_option linter.unusedVariables false
set_option linter.unusedSimpArgs false
namespace Vc
open Go

def ints (ns : List Int) : List Value := ns.map (Value.int .u8)
def sI (s : ByteArray) : List Int := s.data.toList.map fun b => (b.toNat : Int)
def ofI (ns : List Int) : ByteArray := ⟨(ns.map fun n => UInt8.ofNat n.toNat).toArray⟩
def gsv (b : Option Nat) (len cap : Nat) : Value := .slice (b.map fun a => ⟨a, 0, none⟩) len cap
def gsb (b : Option Nat) (cs : List Value) (t : TypeId) (n : Nat) : Option (Nat × Blk) := b.map fun a => (a, .row cs t n)

theorem ints_append (a b : List Int) : ints (a ++ b) = ints a ++ ints b := List.map_append ..
theorem ints_length (a : List Int) : (ints a).length = a.length := List.length_map ..
theorem sI_length (s : ByteArray) : (sI s).length = s.size := by simp [sI]
theorem ofI_size (a : List Int) : (ofI a).size = a.length := by
  show (ofI a).data.size = _
  simp [ofI]
theorem ofI_sI (s : ByteArray) : ofI (sI s) = s := by
  apply ByteArray.ext
  simp [ofI, sI, Function.comp_def]
theorem sI_ofI {ns : List Int} (h : ∀ n ∈ ns, 0 ≤ n ∧ n ≤ 255) : sI (ofI ns) = ns := by
  simp only [sI, ofI, List.map_map]
  apply List.ext_getElem (by simp)
  intro i h1 h2
  have := h ns[i] (List.getElem_mem _)
  simp
  omega
theorem ofI_append (a b : List Int) : ofI (a ++ b) = ofI a ++ ofI b := by
  apply ByteArray.ext
  simp [ofI]

/-- A type's size, bytes, and its zero. -/
def tyI (P : Program) (e : TypeId) : Option (Nat × Nat × List Value) := match P.info? e with
  | some i => match i.zero with
    | some z => some (i.size, i.bytes, z.cells.toList)
    | none => none
  | none => none

theorem tyI_spec {P : Program} {e : TypeId} {z b : Nat} {l : List Value} (h : tyI P e = some (z, b, l)) : ∃ i v, P.info? e = some i ∧ i.zero = some v ∧ i.size = z ∧ i.bytes = b ∧ v.cells.toList = l := by
  unfold tyI at h
  split at h
  · rename_i i hi
    split at h
    · rename_i v hv
      simp at h
      exact ⟨i, v, hi, hv, h.1, h.2.1, h.2.2⟩
    · cases h
  · cases h

/-- What can be read at a value: n elements. -/
def Src (R : RO) (H : Hp) (z n : Nat) (x : Value) (new : List Value) : Prop :=
  new.length = n * z ∧ ((∃ s, x = .string s ∧ n = s.size ∧ new = ints (sI s)) ∨ (n = 0 ∧ ∃ a c, x = .slice a 0 c) ∨
    ∃ b off c, x = .slice (some ⟨b, off, none⟩) n c ∧ ((∃ j cs t m, Hp.at H j = some (b, .row cs t m) ∧ (cs.drop off).take (n * z) = new) ∨ R.cells b off new))

theorem Src.string (R : RO) (H : Hp) (s : ByteArray) : Src R H 1 s.size (.string s) (ints (sI s)) :=
  ⟨by rw [ints_length, sI_length, Nat.mul_one], .inl ⟨s, rfl, rfl, rfl⟩⟩
theorem Src.nil (R : RO) (H : Hp) (z c : Nat) (a : Option Addr) : Src R H z 0 (.slice a 0 c) [] := ⟨by simp, .inr (.inl ⟨rfl, a, c, rfl⟩)⟩

theorem Src.cell {R Rx : RO} {H : Hp} {w : World} (hR : R.le Rx) (hs : Sat w Rx H) {z n : Nat} {b off : Nat} {new : List Value} (hl : new.length = n * z)
    (h : (∃ j cs t m, Hp.at H j = some (b, .row cs t m) ∧ (cs.drop off).take (n * z) = new) ∨ R.cells b off new) (j : Nat) (v : Value) (hj : new[j]? = some v) :
    w.cell? ((⟨b, off, none⟩ : Addr).add j) = some v := by
  rw [add_eq]
  rcases h with ⟨i, cs, t, m, h1, rfl⟩ | h
  · have hjl : j < n * z := by
      rcases Nat.lt_or_ge j (n * z) with h | h
      · exact h
      · rw [List.getElem?_eq_none (by omega)] at hj; cases hj
    rw [List.getElem?_take_of_lt hjl, List.getElem?_drop] at hj
    exact Blk.cells (hs.own _ _ _ h1) _ _ hj
  · obtain ⟨c, t, fr, h1, h2⟩ := h
    have hjl : j < new.length := by
      rcases Nat.lt_or_ge j new.length with h | h
      · exact h
      · rw [List.getElem?_eq_none (by omega)] at hj; cases hj
    have hc := hs.ro _ _ (hR.mem _ _ h1)
    have : c.toList[off + j]? = some v := by
      rw [← h2, List.getElem?_take_of_lt hjl, List.getElem?_drop] at hj
      exact hj
    simpa [World.cell?, hc] using this

theorem Src.first {P : Program} {R Rx : RO} {H : Hp} {w : World} (hR : R.le Rx) (hs : Sat w Rx H) {z n : Nat} {x : Value} {new : List Value} (h : Src R H z n x new) :
    (Builtin.lenOf x).run P w = .ok n w ∧ (Builtin.firstCells z n x).run P w = .ok new.toArray w := by
  obtain ⟨hl, ⟨s, rfl, rfl, rfl⟩ | ⟨rfl, a, c, rfl⟩ | ⟨b, off, c, rfl, h⟩⟩ := h
  · refine ⟨rfl, ?_⟩
    simp only [Builtin.firstCells, Sem.run_pure]
    congr 1
    have : s.extract 0 s.size = s := ByteArray.extract_zero_size
    rw [this]
    apply Array.ext'
    simp [ints, sI]
  · refine ⟨rfl, ?_⟩
    have hn : new = [] := List.eq_nil_of_length_eq_zero (by simpa using hl)
    subst hn
    cases a with
    | none => exact run_firstCells_none w z 0 0 c
    | some a => exact run_firstCells_some w z 0 a 0 c [] (by simp) (fun j v hj => by simp at hj)
  · exact ⟨rfl, run_firstCells_some w z n _ n c new hl (Src.cell hR hs hl h)⟩

theorem Sat.drew {w : World} {R : RO} {H : Hp} (h : Sat w R H) : Sat w.drew R H := h.heap rfl ⟨rfl, rfl, rfl⟩

theorem madeCells_list (z : Value) (n : Nat) : (madeCells #[z] n).toList = List.replicate n z := by
  rw [List.eq_replicate_iff]
  refine ⟨by simp [madeCells], ?_⟩
  intro v hv
  simp only [madeCells, Array.toList_map, List.mem_map] at hv
  obtain ⟨j, _, rfl⟩ := hv
  have : j % (#[z] : Array Value).size = 0 := by simp [Nat.mod_one]
  rw [this]
  rfl

/-- make of a slice whose elements take one cell each. -/
theorem mks_ok {P : Program} {R : RO} {t e : TypeId} {k k' : IntKind} {l c : Int} {by' : Nat} {zc : Value} (ht : P.underlying t = some (.slice e)) (hi : tyI P e = some (1, by', [zc]))
    (hl : 0 ≤ l) (hlc : l ≤ c) (hc : (by' : Int) * c ≤ 281474976710656) (hm : c ≤ 9223372036854775807) :
    PrimOK P (.mks t (.int k l) (.int k' c)) R [] Nat (fun _ => True) (fun a => (.slice (some ⟨a, 0, none⟩) l.toNat c.toNat, [some (a, .row (List.replicate c.toNat zc) e c.toNat)])) := by
  intro Rx w hR hs
  obtain ⟨i, v, h1, h2, h3, h4, h5⟩ := tyI_spec hi
  have hr := run_make w t e i v ht h1 h2 k k' l c hl hlc (by rw [h4]; exact hc) hm
  refine ⟨w.heap.size, _, hr, trivial, ?_⟩
  have h5' : v.cells = #[zc] := by apply Array.ext'; simp [h5]
  have := Sat.put_new (w' := w.alloc (.cells (madeCells v.cells (c.toNat * i.size)) e)) hs (i := 0) (o := .cells (madeCells v.cells (c.toNat * i.size)) e) rfl rfl
    (B := .row (List.replicate c.toNat zc) e c.toNat) ⟨madeCells v.cells (c.toNat * i.size), 0, 0, heap_alloc_new w _, by simp [madeCells, h3], by
      rw [h5', h3, Nat.mul_one, madeCells_list, List.take_length], by omega⟩ ⟨rfl, rfl, rfl⟩
  exact this

/-- make of a slice, whatever its elements are. -/
theorem mksz_ok {P : Program} {R : RO} {t e : TypeId} {k k' : IntKind} {l c : Int} {by' z : Nat} {zc : List Value} {row : List Value} (ht : P.underlying t = some (.slice e)) (hi : tyI P e = some (z, by', zc))
    (hl : 0 ≤ l) (hlc : l ≤ c) (hc : (by' : Int) * c ≤ 281474976710656) (hm : c ≤ 9223372036854775807) (hz : 0 < z) (hzl : zc.length = z)
    (hrow : row.length = c.toNat * z) (hr : ∀ j, j < c.toNat * z → row[j]? = zc[j % z]?) :
    PrimOK P (.mks t (.int k l) (.int k' c)) R [] Nat (fun _ => True) (fun a => (.slice (some ⟨a, 0, none⟩) l.toNat c.toNat, [some (a, .row row e (c.toNat * z))])) := by
  intro Rx w hR hs
  obtain ⟨i, v, h1, h2, h3, h4, h5⟩ := tyI_spec hi
  have hrun := run_make w t e i v ht h1 h2 k k' l c hl hlc (by rw [h4]; exact hc) hm
  refine ⟨w.heap.size, _, hrun, trivial, ?_⟩
  have hsz : v.cells.size = z := by rw [← hzl, ← h5, Array.length_toList]
  have key : (madeCells v.cells (c.toNat * i.size)).toList = row := by
    rw [h3]
    apply List.ext_getElem?
    intro j
    by_cases hj : j < c.toNat * z
    · rw [hr j hj]
      have hjz : j % z < z := Nat.mod_lt _ hz
      simp only [madeCells, Array.toList_map, Array.toList_range, List.getElem?_map, List.getElem?_range hj, Option.map_some, hsz]
      have e5 : zc[j % z]? = v.cells[j % z]? := by
        conv => lhs; rw [show zc = v.cells.toList from h5.symm]
        simp
      rw [getElem!_pos v.cells (j % z) (by omega), e5, Array.getElem?_eq_getElem]
    · rw [List.getElem?_eq_none (by simp [madeCells]; omega), List.getElem?_eq_none (by omega)]
  have := Sat.put_new (w' := w.alloc (.cells (madeCells v.cells (c.toNat * i.size)) e)) hs (i := 0) (o := .cells (madeCells v.cells (c.toNat * i.size)) e) rfl rfl
    (B := .row row e (c.toNat * z)) ⟨madeCells v.cells (c.toNat * i.size), 0, 0, heap_alloc_new w _, by simp [madeCells, h3], by
      rw [key, List.take_length], by omega⟩ ⟨rfl, rfl, rfl⟩
  exact this

/-- A build whose value is claimed. -/
theorem bld_ok {P : Program} {R : RO} {t : TypeId} {ps : List (Nat × Value)} {v : List Value} (h : P.built t ps = some v.toArray) : Prim0 P (.bld t ps) R [] (.agg v.toArray) [] := by
  intro Rx w hR hs
  exact ⟨w, by show (Instr.build t ps.toArray).run P w = _; exact run_build w t _ _ (by simpa using h), hs⟩

/-- append to a slice that is owned alone, or to none. -/
theorem app_ok {P : Program} {R : RO} {t u ty e e' : TypeId} {z by' : Nat} {zc : List Value} {b : Option Nat} {len cap n : Nat} {x : Value} {cs new : List Value} {T : Hp}
    (ht : P.underlying t = some (.slice e)) (hu : P.underlying u = some (.slice e') ∨ P.underlying u = some .string) (hi : tyI P e = some (z, by', zc)) (hz : zc.length = z)
    (hcs : cs.length = len * z) (hlc : len ≤ cap) (hcm : cap ≤ maxLen) (hb : b = none → cap = 0)
    (hx : Src R (gsb b cs e (cap * z) :: T) z n x new) (h1 : ∀ v ∈ new, v.oneCell' = true)
    (hbytes : (len + n) * by' ≤ 140737488355328) (h63 : len + n ≤ maxLen) :
    PrimOK P (.app t u ty (gsv b len cap) x) R (gsb b cs e (cap * z) :: T) (Option Nat × Nat)
      (fun y => len + n ≤ y.2 ∧ y.2 ≤ maxLen ∧ (y.1 = none → y.2 = 0 ∧ b = none)) (fun y => (gsv y.1 (len + n) y.2, gsb y.1 (cs ++ new) e (y.2 * z) :: T)) := by
  intro Rx w hR hs
  obtain ⟨i, v, g1, g2, g3, g4, g5⟩ := tyI_spec hi
  obtain ⟨f1, f2⟩ := Src.first (P := P) hR hs hx
  obtain ⟨f3, f4⟩ := Src.first (P := P) hR hs.drew hx
  have hnl : new.length = n * z := hx.1
  have hzs : v.cells.size = z := by rw [← hz, ← g5, Array.length_toList]
  have hsmall : len + n ≤ 9223372036854775807 := by simp only [maxLen] at h63; omega
  by_cases hroom : len + n ≤ cap
  · cases b with
    | none =>
      have hc0 : cap = 0 := hb rfl
      have hn0 : n = 0 := by omega
      have hl0 : len = 0 := by omega
      subst hc0; subst hn0; subst hl0
      have hnew : new = [] := List.eq_nil_of_length_eq_zero (by simpa using hnl)
      have hcs' : cs = [] := List.eq_nil_of_length_eq_zero (by simpa using hcs)
      subst hnew; subst hcs'
      refine ⟨(none, 0), w, ?_, ⟨by simp, by simp, by simp⟩, by simpa [gsb] using hs⟩
      rcases hu with hu | hu <;> simp [PC.sem, Builtin.append_, gsv, run_underlying ht, run_underlying hu, Go.sizeOf, typeInfo, g1, g3, f1, f2]
    | some g =>
      obtain ⟨c, lo, hi', hc, hsz, htk, hfr⟩ := hs.own 0 g (.row cs e (cap * z)) rfl
      have hmul : (len + n) * z ≤ cap * z := Nat.mul_le_mul_right _ hroom
      have hfit : len * z + 0 + new.length ≤ c.size := by rw [hnl, hsz]; rw [Nat.add_mul] at hmul; omega
      obtain ⟨c', w', r1, r2, r3, r5, r4⟩ := run_storeCells_blk (P := P) g e (lo, hi') new (len * z) 0 c w hc hfit (by simpa [hsz] using hfr) h1
      refine ⟨(some g, cap), w', ?_, ⟨hroom, hcm, by simp⟩, ?_⟩
      · have hadd : (⟨g, 0, none⟩ : Addr).add (len * z) = ⟨g, len * z, none⟩ := by rw [add_eq]; simp
        rcases hu with hu | hu <;> simp [PC.sem, Builtin.append_, gsv, run_underlying ht, run_underlying hu, Go.sizeOf, typeInfo, g1, g3, f1, f2, hroom, hadd, r1]
      · refine (Sat.put_upd (i := 0) (ad := g) (B := .row cs e (cap * z)) (B' := .row (cs ++ new) e (cap * z)) hs rfl r2 ⟨c', lo, hi', ?_, by omega, ?_, hfr⟩ r5 : _)
        · have hlt := (Array.getElem?_eq_some_iff.1 hc).1
          rw [r2, Array.getElem?_setIfInBounds]
          simp [hlt]
        · rw [r4]
          have hl : (cs ++ new).length = len * z + new.length := by rw [List.length_append, hcs]
          rw [hl]
          have : c.toList.take (len * z + 0) = cs := by rw [Nat.add_zero, ← hcs]; exact htk
          rw [this, ← hcs, ← List.length_append]
          exact List.take_left
  · have h63' : ¬ (9223372036854775807 < ((len : Int) + (n : Int))) := by omega
    have hfits := growslice_fits (need := len + n) (old := cap) (bytes := by') (by omega) hbytes
    have h48 : ¬ (281474976710656 < Builtin.nextslicecap (len + n) cap * i.bytes) := by rw [g4]; omega
    have hge := grownCap_ge w (len + n) cap e
    have hcm' : grownCap w (len + n) cap e ≤ maxLen := grownCap_le_maxLen w (len + n) cap e h63
    have hold : (Builtin.firstCells z len (gsv b len cap)).run P w.drew = .ok cs.toArray w.drew := by
      cases b with
      | none =>
        have hc0 : cap = 0 := hb rfl
        have hl0 : len = 0 := by omega
        subst hl0
        have hcs' : cs = [] := List.eq_nil_of_length_eq_zero (by simpa using hcs)
        subst hcs'
        exact run_firstCells_none w.drew z 0 0 cap
      | some g =>
        refine run_firstCells_some w.drew z len _ len cap cs hcs fun j v hj => ?_
        rw [add_eq, Nat.zero_add]
        exact Blk.cells (hs.drew.own 0 g _ rfl) _ _ hj
    refine ⟨(some w.heap.size, grownCap w (len + n) cap e), w.drew.alloc (.cells (cs.toArray ++ new.toArray ++ Builtin.zeroCells v.cells (grownCap w (len + n) cap e - (len + n))) e), ?_, ⟨hge, hcm', by simp⟩, ?_⟩
    · have hcut : (Question.appendCap (len + n) cap e).cut (w.tape w.drawn (.appendCap (len + n) cap e)) = grownCap w (len + n) cap e := rfl
      unfold gsv at hold
      rcases hu with hu | hu <;> simp [PC.sem, Builtin.append_, gsv, run_underlying ht, run_underlying hu, Go.sizeOf, typeInfo, zeroValue, g1, g2, g3, f1, f4, hroom, h63', h48, Question.forced, hold, newRow, hcut] <;> (congr 2; apply Array.ext'; simp)
    · have hs1 : Sat w.drew Rx (none :: T) := by
        have h := hs.drew
        refine ⟨h.ro, fun k a B hk => ?_, fun k a B hk => ?_, fun k m a B C hk hm => ?_, h.os, h.tape, h.out⟩ <;>
          (cases k with
          | zero => simp [Hp.at] at hk
          | succ k => first | exact h.own (k + 1) a B hk | exact h.off (k + 1) a B hk | (cases m with
            | zero => simp [Hp.at] at hm
            | succ m => exact h.one (k + 1) (m + 1) a B C hk hm))
      have := Sat.put_new (w' := w.drew.alloc (.cells (cs.toArray ++ new.toArray ++ Builtin.zeroCells v.cells (grownCap w (len + n) cap e - (len + n))) e)) hs1 (i := 0)
        (o := .cells (cs.toArray ++ new.toArray ++ Builtin.zeroCells v.cells (grownCap w (len + n) cap e - (len + n))) e) rfl rfl
        (B := .row (cs ++ new) e (grownCap w (len + n) cap e * z)) ⟨_, 0, 0, heap_alloc_new w.drew _, ?_, ?_, by omega⟩ ⟨rfl, rfl, rfl⟩
      · exact this
      · simp only [Array.size_append, List.size_toArray, size_zeroCells, hzs, hcs, hnl, ← Nat.add_mul]
        congr 1
        omega
      · simp only [Array.toList_append]
        exact List.take_left

theorem PrimOK.mono {P : Program} {c : PC} {R : RO} {H : Hp} {X Y : Type} {q : X → Prop} {g : X → Value × Hp} {q' : Y → Prop} {g' : Y → Value × Hp} (h : PrimOK P c R H X q g) (hm : ∀ x, q x → ∃ y, q' y ∧ g' y = g x) :
    PrimOK P c R H Y q' g' := fun Rx w hR hs => by
  obtain ⟨x, w', h1, h2, h3⟩ := h Rx w hR hs
  obtain ⟨y, h4, h5⟩ := hm x h2
  exact ⟨y, w', by rw [h5]; exact h1, h4, by rw [h5]; exact h3⟩

/-- append behind which there is something. -/
theorem app1_ok {P : Program} {R : RO} {t u ty e e' : TypeId} {z by' : Nat} {zc : List Value} {b : Option Nat} {len cap n : Nat} {x : Value} {cs new : List Value} {T : Hp}
    (ht : P.underlying t = some (.slice e)) (hu : P.underlying u = some (.slice e') ∨ P.underlying u = some .string) (hi : tyI P e = some (z, by', zc)) (hz : zc.length = z)
    (hcs : cs.length = len * z) (hlc : len ≤ cap) (hcm : cap ≤ maxLen) (hb : b = none → cap = 0)
    (hx : Src R (gsb b cs e (cap * z) :: T) z n x new) (h1 : ∀ v ∈ new, v.oneCell' = true)
    (hbytes : (len + n) * by' ≤ 140737488355328) (h63 : len + n ≤ maxLen) (hpos : 0 < len + n) :
    PrimOK P (.app t u ty (gsv b len cap) x) R (gsb b cs e (cap * z) :: T) (Nat × Nat)
      (fun y => len + n ≤ y.2 ∧ y.2 ≤ maxLen) (fun y => (.slice (some ⟨y.1, 0, none⟩) (len + n) y.2, some (y.1, .row (cs ++ new) e (y.2 * z)) :: T)) :=
  (app_ok ht hu hi hz hcs hlc hcm hb hx h1 hbytes h63).mono fun y hy => by
    obtain ⟨a, c⟩ := y
    obtain ⟨h2, h3, h4⟩ := hy
    cases a with
    | none => have := (h4 rfl).1; simp at h2 this; omega
    | some a => exact ⟨(a, c), ⟨h2, h3⟩, rfl⟩

theorem Src.take {P : Program} {R Rx : RO} {H : Hp} {w : World} (hR : R.le Rx) (hs : Sat w Rx H) {z n k : Nat} {x : Value} {full : List Value} (h : Src R H z n x full) (hk : k ≤ n) (hz : (∃ s, x = .string s) → z = 1) :
    (Builtin.firstCells z k x).run P w = .ok (full.take (k * z)).toArray w := by
  have hkz : k * z ≤ n * z := Nat.mul_le_mul_right _ hk
  obtain ⟨hl, ⟨s, rfl, rfl, rfl⟩ | ⟨rfl, a, c, rfl⟩ | ⟨b, off, c, rfl, h⟩⟩ := h
  · have hz1 := hz ⟨s, rfl⟩
    subst hz1
    simp only [Builtin.firstCells, Sem.run_pure]
    congr 1
    apply Array.ext'
    simp [ints, sI, List.map_take, Function.comp_def]
  · have hk0 : k = 0 := by omega
    subst hk0
    simp only [Nat.zero_mul, List.take_zero]
    cases a with
    | none => exact run_firstCells_none w z 0 0 c
    | some a => exact run_firstCells_some w z 0 a 0 c [] (by simp) (fun j v hj => by simp at hj)
  · refine run_firstCells_some w z k _ n c _ (by rw [List.length_take, hl]; exact Nat.min_eq_left hkz) (fun j v hj => ?_)
    refine Src.cell hR hs hl h j v ?_
    rw [List.getElem?_take] at hj
    split at hj
    · exact hj
    · cases hj

/-- copy into what is owned. -/
theorem cpy_ok {P : Program} {R : RO} {t u ty e : TypeId} {z by' : Nat} {zc : List Value} {g off dl dc n m : Nat} {tb : TypeId} {x : Value} {cs full : List Value} {T : Hp}
    (ht : P.underlying t = some (.slice e)) (hi : tyI P e = some (z, by', zc)) (hx : Src R (some (g, .row cs tb m) :: T) z n x full) (h1 : ∀ v ∈ full, v.oneCell' = true) (hz : z = 1)
    (hfit : off + (Nat.min n dl) * z ≤ cs.length) :
    Prim0 P (.cpy t u ty (.slice (some ⟨g, off, none⟩) dl dc) x) R (some (g, .row cs tb m) :: T) (.int .i64 (Nat.min n dl : Nat))
      (some (g, .row (cs.take off ++ full.take (Nat.min n dl * z) ++ cs.drop (off + Nat.min n dl * z)) tb m) :: T) := by
  intro Rx w hR hs
  obtain ⟨i, v, g1, g2, g3, g4, g5⟩ := tyI_spec hi
  obtain ⟨f1, _⟩ := Src.first (P := P) hR hs hx
  have f2 := Src.take (P := P) hR hs hx (Nat.min_le_left n dl) (fun _ => hz)
  obtain ⟨c, lo, hi', hc, hsz, htk, hfr⟩ := hs.own 0 g (.row cs tb m) rfl
  have hcl : cs.length ≤ c.size := by
    have := congrArg List.length htk
    simp at this; omega
  have hnl : (full.take (Nat.min n dl * z)).length = Nat.min n dl * z := by
    rw [List.length_take, hx.1]
    exact Nat.min_eq_left (Nat.mul_le_mul_right _ (Nat.min_le_left n dl))
  obtain ⟨c', w', r1, r2, r3, r5, r4⟩ := run_storeCells_blk (P := P) g tb (lo, hi') (full.take (Nat.min n dl * z)) off 0 c w hc (by omega) (by simpa [hsz] using hfr) (fun v hv => h1 v (List.mem_of_mem_take hv))
  refine ⟨w', ?_, ?_⟩
  · simp [PC.sem, Builtin.copy_, run_underlying ht, Go.sizeOf, typeInfo, g1, g3, f1, f2, r1, goInt]
  · refine (Sat.put_upd (i := 0) (ad := g) (B := .row cs tb m) (B' := .row (cs.take off ++ full.take (Nat.min n dl * z) ++ cs.drop (off + Nat.min n dl * z)) tb m) hs rfl r2 ⟨c', lo, hi', ?_, by omega, ?_, hfr⟩ r5 : _)
    · have hlt := (Array.getElem?_eq_some_iff.1 hc).1
      rw [r2, Array.getElem?_setIfInBounds]
      simp [hlt]
    · rw [r4]
      rw [Nat.add_zero, hnl]
      have hlen : (cs.take off ++ full.take (Nat.min n dl * z) ++ cs.drop (off + Nat.min n dl * z)).length = cs.length := by
        simp only [List.length_append, List.length_take, List.length_drop, hnl]
        have hm : min off cs.length = off := by omega
        omega
      rw [hlen]
      have e1 : c.toList.take off = cs.take off := by
        rw [← htk, List.take_take, Nat.min_eq_left (by omega)]
      have e2 : cs.drop (off + Nat.min n dl * z) = (c.toList.drop (off + Nat.min n dl * z)).take (cs.length - (off + Nat.min n dl * z)) := by
        conv => lhs; rw [← htk]
        rw [List.drop_take]
      rw [e1, e2]
      have hlen2 : (cs.take off ++ full.take (Nat.min n dl * z)).length = off + Nat.min n dl * z := by
        rw [List.length_append, hnl, List.length_take, Nat.min_eq_left (by omega)]
      rw [List.take_append, hlen2, List.take_of_length_le (by omega)]

theorem foldl_ofI : ∀ (ns : List Int) (s : ByteArray), ns.foldl (fun r n => r.push (UInt8.ofNat n.toNat)) s = s ++ ofI ns
  | [], s => by
    apply ByteArray.ext
    simp [ofI]
  | n :: ns, s => by
    rw [List.foldl_cons, foldl_ofI ns]
    apply ByteArray.ext
    simp [ofI]

/-- A text of bytes. -/
theorem b2s_ok {P : Program} {R : RO} {t u e : TypeId} {n : Nat} {x : Value} {ns : List Int} {H : Hp} (ht : P.underlying t = some (.slice e)) (he : P.underlying e = some (.int .u8)) (hu : P.underlying u = some .string)
    (hx : Src R H 1 n x (ints ns)) (hsl : (∃ s, x = .string s) → False) : Prim0 P (.cnv t u x) R H (.string (ofI ns)) H := by
  intro Rx w hR hs
  refine ⟨w, ?_, hs⟩
  have hff := (Src.first (P := P) hR hs hx).2
  obtain ⟨hl, ⟨s, rfl, rfl, h⟩ | ⟨rfl, a, c, rfl⟩ | ⟨b, off, c, rfl, h⟩⟩ := hx
  · exact (hsl ⟨s, rfl⟩).elim
  · have hn : ns = [] := by
      rw [ints_length] at hl
      exact List.eq_nil_of_length_eq_zero (by simpa using hl)
    subst hn
    show (convert t u _).run P w = _
    rw [run_convert_bytes_string w t u e a 0 c ht he hu]
    cases a with
    | none => simp [Conv.bytesToString]; rfl
    | some a =>
      rw [run_bytesToString w a 0 c [] (by simpa using run_loadCells_list (P := P) w a [] (fun j v hj => by simp at hj))]
      try rfl
  · show (convert t u _).run P w = _
    rw [run_convert_bytes_string w t u e _ n c ht he hu, run_bytesToString w _ n c ns (by
      rw [ints_length, Nat.mul_one] at hl
      have := run_loadCells_list (P := P) w ⟨b, off, none⟩ (ints ns) (Src.cell hR hs (by rw [ints_length]; omega) h)
      rw [ints_length, hl] at this
      exact this)]
    rw [foldl_ofI]
    congr 2
    first | done | (apply ByteArray.ext; simp)

/-- Bytes of a text. -/
theorem s2b_ok {P : Program} {R : RO} {t u e : TypeId} {s : ByteArray} (ht : P.underlying t = some (.slice e)) (he : P.underlying e = some (.int .u8)) (hu : P.underlying u = some .string) (hs63 : s.size ≤ maxLen) :
    PrimOK P (.cnv u t (.string s)) R [] (Nat × Nat) (fun y => s.size ≤ y.2 ∧ y.2 ≤ maxLen) (fun y => (.slice (some ⟨y.1, 0, none⟩) s.size y.2, [some (y.1, .row (ints (sI s)) e (y.2 * 1))])) := by
  simp only [Nat.mul_one]
  intro Rx w hR hs
  have hge := grownCap_ge w s.size 0 e
  have hsz : (bytesRow s (grownCap w s.size 0 e)).size = grownCap w s.size 0 e := by
    simp only [bytesRow, Array.size_append, Array.size_map, Array.size_replicate]
    show s.size + _ = _
    omega
  refine ⟨(w.heap.size, grownCap w s.size 0 e), _, run_bytes_of_string w u t e s hu ht he, ⟨hge, grownCap_le_maxLen w s.size 0 e hs63⟩, ?_⟩
  exact Sat.put_new (w' := w.drew.alloc (.cells (bytesRow s (grownCap w s.size 0 e)) e ((bytesRow s (grownCap w s.size 0 e)).size, (bytesRow s (grownCap w s.size 0 e)).size + 1))) hs.drew (i := 0)
    (o := .cells (bytesRow s (grownCap w s.size 0 e)) e ((bytesRow s (grownCap w s.size 0 e)).size, (bytesRow s (grownCap w s.size 0 e)).size + 1)) rfl rfl
    (B := .row (ints (sI s)) e (grownCap w s.size 0 e)) ⟨_, _, _, heap_alloc_new w.drew _, hsz, by
      rw [ints_length, sI_length]
      simp only [bytesRow, Array.toList_append, Array.toList_map]
      rw [List.take_append_of_le_length (by simp)]
      rw [List.take_of_length_le (by simp)]
      simp [ints, sI], by rw [hsz]; omega⟩ ⟨rfl, rfl, rfl⟩

/-! ## Texts -/

theorem seq (a b : ByteArray) : (a.toList == b.toList) = decide (a = b) := by
  rw [ByteArray.toList_eq, ByteArray.toList_eq]
  by_cases h : a = b
  · subst h; simp
  · rw [decide_eq_false h, beq_eq_false_iff_ne]
    intro he
    apply h
    apply ByteArray.ext
    exact Array.ext' he
theorem sI_append (a b : ByteArray) : sI (a ++ b) = sI a ++ sI b := by simp [sI]
theorem sI_inj {a b : ByteArray} (h : sI a = sI b) : a = b := by rw [← ofI_sI a, h, ofI_sI]
theorem sI_bd (s : ByteArray) : ∀ n ∈ sI s, 0 ≤ n ∧ n ≤ 255 := by
  intro n hn
  simp only [sI, List.mem_map] at hn
  obtain ⟨b, _, rfl⟩ := hn
  have := b.toNat_lt
  omega
theorem bt_sI (s : ByteArray) {i : Nat} (h : i < s.size) : (sI s)[i]? = some (bt s (i : Int)) := by
  have hs : i < s.data.size := h
  simp [sI, bt, Array.getElem?_eq_getElem hs]
theorem bt_ofI {ns : List Int} (h : ∀ n ∈ ns, 0 ≤ n ∧ n ≤ 255) {i : Nat} {n : Int} (hi : ns[i]? = some n) : bt (ofI ns) (i : Int) = n := by
  have hm := h n (List.mem_of_getElem? hi)
  have : (ofI ns).data[i]? = some (UInt8.ofNat n.toNat) := by
    simp [ofI, hi]
  unfold bt
  rw [show ((i : Int).toNat) = i from rfl, this]
  simp
  omega
def strs (ps : List ByteArray) : List Value := ps.map Value.string
theorem strs_length (ps : List ByteArray) : (strs ps).length = ps.length := List.length_map ..
theorem readVar_one {P : Program} {t : TypeId} {n : Nat} (h : tinfo P t = some (false, n)) (cs : List Value) (off : Nat) : readVar P t cs off = cs[off]? := by
  unfold readVar
  rw [h]
theorem read_strs {P : Program} {t : TypeId} {n : Nat} (h : tinfo P t = some (false, n)) (ps : List ByteArray) {i : Nat} (hi : i < ps.length) : readVar P t (strs ps) (0 + i * 1) = some (.string (ps.getD i ByteArray.empty)) := by
  rw [readVar_one h]
  simp [strs, hi]
theorem read_ints {P : Program} {t : TypeId} {n : Nat} (h : tinfo P t = some (false, n)) (ns : List Int) {i : Nat} (hi : i < ns.length) : readVar P t (ints ns) (0 + i * 1) = some (.int .u8 (ns.getD i 0)) := by
  rw [readVar_one h]
  simp [ints, hi]
end Vc
