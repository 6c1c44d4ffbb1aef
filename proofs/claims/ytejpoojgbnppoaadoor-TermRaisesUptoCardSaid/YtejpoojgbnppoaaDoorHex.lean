import Derived.WalkKit
import Derived.BigCall
import Derived.Test.YtejpoojgbnppoaaDoorLay
namespace Go.Proofs.YtejpoojgbnppoaaDoor
open Go Go.RowKit Go.Proofs
set_option linter.unusedVariables false
set_option linter.unusedSimpArgs false
def lays167_ren : Go.Shelf.Ren := ⟨fun | 167 => 94 | 240 => 95 | 276 => 108 | n => n, fun | 9 => 9 | 4 => 4 | 0 => 0 | 20 => 20 | 72 => 104 | 70 => 102 | 37 => 34 | 75 => 107 | 164 => 146 | 5 => 5 | 80 => 110 | n => n, fun | n => n⟩
theorem lays167 : Go.Proofs.Lays.n167 Tryd.prog lays167_ren := {
  mixed := by kernel_rfl
  f167 := Tryd.func94.trans (congrArg some (by kernel_rfl))
  f240 := Tryd.func95.trans (congrArg some (by kernel_rfl))
  f276 := Tryd.func108.trans (congrArg some (by kernel_rfl))
  t0 := Tryd.underlying0
  a0 := Tryd.isAgg0
  z0 := Tryd.sizeOf0
  v0 := Tryd.zeroValue0
  t4 := Tryd.underlying4
  a4 := Tryd.isAgg4
  z4 := Tryd.sizeOf4
  v4 := Tryd.zeroValue4
  t5 := Tryd.underlying5
  a5 := Tryd.isAgg5
  z5 := Tryd.sizeOf5
  v5 := Tryd.zeroValue5
  t9 := Tryd.underlying9
  a9 := Tryd.isAgg9
  z9 := Tryd.sizeOf9
  v9 := Tryd.zeroValue9
  t20 := Tryd.underlying20
  a20 := Tryd.isAgg20
  z20 := Tryd.sizeOf20
  v20 := Tryd.zeroValue20
  t37 := Tryd.underlying34
  a37 := Tryd.isAgg34
  z37 := Tryd.sizeOf34
  v37 := Tryd.zeroValue34
  t70 := Tryd.underlying102
  a70 := Tryd.isAgg102
  z70 := Tryd.sizeOf102
  v70 := Tryd.zeroValue102
  t72 := Tryd.underlying104
  a72 := Tryd.isAgg104
  z72 := Tryd.sizeOf104
  v72 := Tryd.zeroValue104
  t75 := Tryd.underlying107
  a75 := Tryd.isAgg107
  z75 := Tryd.sizeOf107
  v75 := Tryd.zeroValue107
  t164 := Tryd.underlying146
  a164 := Tryd.isAgg146
  z164 := Tryd.sizeOf146
  v164 := Tryd.zeroValue146 }
theorem extra167 : Builder.Extra Tryd.prog lays167_ren := {
  sizeBuilder := by kernel_rfl
  liesBuilder := by kernel_rfl
  t5 := Tryd.underlying5
  a5 := Tryd.isAgg5
  z5 := Tryd.sizeOf5
  v5 := Tryd.zeroValue5
  infoByte := by kernel_rfl
  cellsByte := by kernel_rfl
  sizeByte := by kernel_rfl
  neB5 := by decide }
def digB (n : Nat) : UInt8 := ([48, 49, 50, 51, 52, 53, 54, 55, 56, 57, 97, 98, 99, 100, 101, 102] : List UInt8).getD n 0
def hexL (l : List UInt8) : List UInt8 := l.flatMap fun x => [digB (x.toNat / 16), digB (x.toNat % 16)]
theorem hexL_len : ∀ l : List UInt8, (hexL l).length = 2 * l.length
  | [] => rfl
  | x :: l => by
    have := hexL_len l
    simp only [hexL, List.flatMap_cons, List.length_append, List.length_cons, List.length_nil] at *
    omega
theorem hexL_take (l : List UInt8) (k : Nat) (h : k < l.length) : hexL (l.take (k + 1)) = hexL (l.take k) ++ [digB (l[k].toNat / 16), digB (l[k].toNat % 16)] := by
  rw [List.take_succ_eq_append_getElem h]
  simp only [hexL, List.flatMap_append, List.flatMap_cons, List.flatMap_nil, List.append_nil]
theorem dig_cell {n : Nat} (h : n < 16) : ((⟨#[48, 49, 50, 51, 52, 53, 54, 55, 56, 57, 97, 98, 99, 100, 101, 102]⟩ : ByteArray)[n]'h).toNat = (digB n).toNat := by
  have : ∀ m : Fin 16, ((⟨#[48, 49, 50, 51, 52, 53, 54, 55, 56, 57, 97, 98, 99, 100, 101, 102]⟩ : ByteArray)[m.1]'m.2).toNat = (digB m.1).toNat := by decide
  exact this ⟨n, h⟩
set_option maxHeartbeats 4000000 in
set_option maxRecDepth 1000000 in
theorem hex_walk (s : ByteArray) (w : World) (hs : s.size ≤ 35184372088832) :
    Calls Tryd.prog 69 #[.string s] w fun e w' => e = .returned (.string ⟨(hexL s.data.toList).toArray⟩) ∧ Below w.heap.size w w' := by
  go_enter Tryd.func69, Tryd.ntmps69
  go_wp2
  go_loopw [7] (fun i wr => ∃ k : Nat, k ≤ s.size ∧ i = .int .i64 k ∧ Hid (Lib.IsBuilder 104 5 w.heap.size w.heap.size (Lib.byteCells (hexL (s.data.toList.take k))) wr) ∧ Hid (Below w.heap.size w wr)) (fun i wr => s.size - (intOf i).toNat)
  case atStart =>
    exact ⟨0, Nat.zero_le _, rfl, Lib.fresh_isBuilder 104 5 w, (Below.refl _ w).alloc (Nat.le_refl _) _⟩
  case round =>
    obtain ⟨k, hk', rfl, HB, HW⟩ := hrel
    by_cases hkr : k < s.size
    · have hBw : w.heap.size ≤ wr.heap.size := HW.out.size
      have hx : 0 ≤ ((s[k].toNat : Nat) : Int) / 16 ∧ ((s[k].toNat : Nat) : Int) / 16 < 16 := by
        have := s[k].toNat_lt; omega
      go_wp2_with fail
      refine (Any.Builder_WriteByte lays167 extra167 w.heap.size w.heap.size _ _ wr HB.out (by rw [Lib.byteCells_length, hexL_len, List.length_take]; omega) hBw).mono ?_
      rintro e w1 ⟨rfl, h1, hb1⟩
      have H1 := Any.hidJ (Or.inr h1 : Lib.IsBuilder 104 5 w.heap.size w.heap.size _ w1)
      have Hb1 := Any.hidJ (HW.out.trans hb1)
      have hBw1 : w.heap.size ≤ w1.heap.size := Hb1.out.size
      clear h1 hb1
      go_wp2_with fail
      refine (Any.Builder_WriteByte lays167 extra167 w.heap.size w.heap.size _ _ w1 H1.out (by rw [List.length_append, Lib.byteCells_length, hexL_len, List.length_take]; simp only [List.length_cons, List.length_nil]; omega) hBw1).mono ?_
      rintro e w2 ⟨rfl, h2, hb2⟩
      have hkl : k < s.data.toList.length := by rw [Array.length_toList]; exact hkr
      have hcells : Lib.byteCells (hexL (s.data.toList.take k)) ++ [Value.int .u8 ((digB (s[k].toNat / 16)).toNat : Int)] ++ [Value.int .u8 ((digB (s[k].toNat % 16)).toNat : Int)] = Lib.byteCells (hexL (s.data.toList.take (k + 1))) := by
        rw [hexL_take _ _ hkl, Lib.byteCells_append, List.append_assoc]
        rfl
      rw [dig_cell (by omega), dig_cell (by omega), hcells] at h2
      have H2 := Any.hidJ (Or.inr h2 : Lib.IsBuilder 104 5 w.heap.size w.heap.size _ w2)
      have Hb2 := Any.hidJ (Hb1.out.trans hb2)
      clear h2 hb2 hcells hkl
      go_wp2
      exact ⟨⟨k + 1, by omega, by go_num, H2, Hb2⟩, by simp [intOf]; omega⟩
    · have hke : k = s.size := by omega
      subst hke
      have hBw : w.heap.size ≤ wr.heap.size := HW.out.size
      have hall : s.data.toList.take s.size = s.data.toList := List.take_of_length_le (by rw [Array.length_toList]; exact Nat.le_refl _)
      rw [hall] at HB
      have HB2 := HB.out
      clear hall
      go_wp2_with fail
      refine (Any.Builder_String_any Tryd.lays169 Tryd.Builder_Extra_169 w.heap.size w.heap.size _ wr HB2 hBw).mono ?_
      rintro e w5 ⟨rfl, hb5⟩
      have Hb5 := Any.hidJ (HW.out.trans hb5)
      clear hb5 HB2 HB
      go_wp2
      go_ret
      exact ⟨rfl, Hb5.out⟩
end Go.Proofs.YtejpoojgbnppoaaDoor
