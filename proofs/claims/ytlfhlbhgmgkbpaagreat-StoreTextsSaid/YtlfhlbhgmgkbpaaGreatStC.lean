import Derived.Shelf.SlMaps.Clone
import Derived.Test.YtlfhlbhgmgkbpaaGreatStB
import Derived.Test.YtlfhlbhgmgkbpaaGreatJrK
namespace Go.Proofs.YtlfhlbhgmgkbpaaGreat
open Vc Go
set_option linter.unusedVariables false
set_option linter.unusedSimpArgs false

def cloneM_ren : Go.Shelf.Ren := ⟨fun | 5 => 41 | 7 => 62 | n => n, fun | 4 => 4 | 20 => 20 | 23 => 74 | 25 => 9 | 3 => 9 | n => n, fun | n => n⟩
theorem cloneM : Go.Proofs.SlLaysW.n5 Tryz.prog cloneM_ren := {
  mixed := by kernel_rfl
  f5 := ⟨Tryz.f41.name, by decide, Tryz.func41.trans (congrArg some (by kernel_rfl))⟩
  f7 := Tryz.func62.trans (congrArg some (by kernel_rfl))
  t4 := Tryz.underlying4
  a4 := Tryz.isAgg4
  z4 := Tryz.sizeOf4
  v4 := Tryz.zeroValue4
  t20 := Tryz.underlying20
  a20 := Tryz.isAgg20
  z20 := Tryz.sizeOf20
  v20 := Tryz.zeroValue20
  t23 := Tryz.underlying74
  a23 := Tryz.isAgg74
  z23 := Tryz.sizeOf74
  v23 := Tryz.zeroValue74 }
theorem clone_ok (M : Nat) (es : List MapEntry) (c : Nat) (R : RO) : GivesX Tryz.prog 41 [.map (some M)] R [some (M, .map es c)] Nat (fun w => (.map (some w), [some (M, .map es c), some (w, .map es c)])) := by
  intro Rx w hR hs
  have hM : w.heap[M]? = some (.map es.toArray c) := hs.own 0 M _ rfl
  refine (Go.Proofs.AnyW.maps_Clone cloneM M es.toArray c w hM).mono ?_
  rintro e w' ⟨rfl, rfl⟩
  refine ⟨.ret (.map (some w.heap.size)), R, [some (M, .map es c), some (w.heap.size, .map es c)], Rx, rfl, ⟨rfl, w.heap.size, rfl, rfl⟩, .refl hR, ?_⟩
  exact Sat.put_new (i := 1) (o := .map es.toArray c) (B := .map es c) hs rfl rfl (by show (w.heap.push _)[w.heap.size]? = _; rw [Array.getElem?_push, if_pos rfl]) ⟨rfl, rfl, rfl⟩
instance : Inhabited Chg := ⟨⟨ByteArray.empty, ByteArray.empty, false⟩⟩
def chs (l : List Chg) : Nat → Chg := fun i => l.getD i default
def rowOf (l : List Chg) : List Value := l.flatMap fun x => [.string x.key, .string x.val, .bool x.gone]
def textB (k : UInt8) (l : List Chg) : ByteArray := ⟨(textL k (chs l) l.length).toArray⟩
theorem rowOf_get : ∀ (l : List Chg) (i : Nat), i < l.length → (rowOf l)[i * 3]? = some (.string (chs l i).key) ∧ (rowOf l)[i * 3 + 1]? = some (.string (chs l i).val) ∧ (rowOf l)[i * 3 + 2]? = some (.bool (chs l i).gone)
  | [], i, h => by simp at h
  | x :: l, 0, h => by simp [rowOf, chs]
  | x :: l, i + 1, h => by
    have := rowOf_get l i (by simpa using h)
    rw [show (i + 1) * 3 = i * 3 + 3 by omega]
    exact this
theorem text_own (k : UInt8) (l : List Chg) (A tb m : Nat) (R : RO) (hn : l.length ≤ 1000000) (hs : ∀ x ∈ l, x.key.size ≤ 1000000 ∧ x.val.size ≤ 1000000) :
    Gives Tryz.prog 32 [.int .u8 (k.toNat : Int), .slice (some ⟨A, 0, none⟩) l.length l.length] R [some (A, .row (rowOf l) tb m)] (.ret (.string (textB k l))) [some (A, .row (rowOf l) tb m)] := by
  intro Rx w hR hsat
  have hA : (Blk.row (rowOf l) tb m).at w A := hsat.own 0 A _ rfl
  refine (text_walk k (some ⟨A, 0, none⟩) l.length l.length A 0 (chs l) w (fun j hj => ⟨rfl, ?_⟩) hn (fun j hj => ?_)).mono ?_
  · obtain ⟨h0, h1, h2⟩ := rowOf_get l j hj
    rw [Nat.zero_add]
    exact ⟨Blk.cells hA _ _ h0, Blk.cells hA _ _ h1, Blk.cells hA _ _ h2⟩
  · unfold chs
    rw [List.getD_eq_getElem?_getD, List.getElem?_eq_getElem hj]
    exact hs _ (List.getElem_mem hj)
  · rintro e w' ⟨rfl, hb⟩
    exact ⟨.ret (.string (textB k l)), R, _, Rx, rfl, ⟨rfl, rfl, rfl⟩, .refl hR, hsat.below hb⟩

set_option maxRecDepth 100000 in
set_option maxHeartbeats 4000000 in
theorem put18_ok (ka va : ByteArray) (R : RO)  : Gives Tryz.prog 22 [.string ka, .string va] R [] (.ret (.agg #[.string ka, .string va, .bool false])) [] :=
  Does.of_wp_eq (VC := (∀ a0 : Nat, (a0 = a0) ∧ (a0 = a0) ∧ GQ R (.ret (.agg #[.string ka, .string va, .bool false])) [] (.ret (.agg #[.string ka, .string va, .bool false])) R [])) (.opn 0 (fun a0 => (ops [.d, .d, .d, .p 0] (.fin [] [(0, none)])))) Tryz.func22 (by kernel_rfl) (by kernel_rfl)
    (fun a0 => ⟨rfl, ⟨rfl, ⟨rfl, (by rfl), (by rfl)⟩⟩⟩)

set_option maxRecDepth 100000 in
set_option maxHeartbeats 4000000 in
theorem drop_ok (ka : ByteArray) (R : RO)  : Gives Tryz.prog 23 [.string ka] R [] (.ret (.agg #[.string ka, .string ByteArray.empty, .bool true])) [] :=
  Does.of_wp_eq (VC := (∀ a0 : Nat, (a0 = a0) ∧ (a0 = a0) ∧ GQ R (.ret (.agg #[.string ka, .string ByteArray.empty, .bool true])) [] (.ret (.agg #[.string ka, .string ByteArray.empty, .bool true])) R [])) (.opn 0 (fun a0 => (ops [.d, .d, .p 0] (.fin [] [(0, none)])))) Tryz.func23 (by kernel_rfl) (by kernel_rfl)
    (fun a0 => ⟨rfl, ⟨rfl, ⟨rfl, (by rfl), (by rfl)⟩⟩⟩)

set_option maxRecDepth 100000 in
set_option maxHeartbeats 4000000 in
theorem check_ok (ka va : ByteArray) (ga : Bool) (R : RO) (h0 : (ka.toList == ByteArray.empty.toList) = false) (h1 : ka.size ≤ 80) (h2 : va.size ≤ 4096) : Gives Tryz.prog 40 [.agg #[.string ka, .string va, .bool ga]] R [] (.ret (.int .i64 0)) [] :=
  Does.of_wp_eq (VC := (∀ a0 : Nat, (a0 = a0) ∧ (ka.toList == ByteArray.empty.toList) = false ∧ (a0 = a0) ∧ (decide ((ka.size : Int) > 80)) = false ∧ (a0 = a0) ∧ (decide ((va.size : Int) > 4096)) = false ∧ GQ R (.ret (.int .i64 0)) [] (.ret (.int .i64 0)) R [])) (.opn 0 (fun a0 => (ops [.d, .d, .p 0, .d, .d] (.br 3 false (ops [.d, .p 0, .d, .d, .d] (.br 12 false (ops [.d, .p 0, .d, .d, .d, .d] (.br 7 false (ops [.d] (.fin [] [])))))))))) Tryz.func40 (by kernel_rfl) (by kernel_rfl)
    (fun a0 => ⟨rfl, ⟨h0, ⟨rfl, ⟨(decide_eq_false (by omega)), ⟨rfl, ⟨(decide_eq_false (by omega)), ⟨rfl, (by rfl), (by rfl)⟩⟩⟩⟩⟩⟩⟩)

set_option maxRecDepth 100000 in
set_option maxHeartbeats 4000000 in
theorem turn_ok (M1 L1 c : Nat) (m : List (ByteArray × ByteArray × Nat)) (ka va kb vb kc vc : ByteArray) (R : RO)  : Gives Tryz.prog 35 [.map (some M1), .slice (some ⟨L1, 0, none⟩) 3 3] R [some (M1, .map (ents Value.string Value.string m) c), some (L1, .row [.string ka, .string va, .bool false, .string kb, .string vb, .bool true, .string kc, .string vc, .bool false] 27 9)] (.ret (.tuple #[])) [some (M1, .map (ents Value.string Value.string (aput (adel (aput m ka va c) kb) kc vc (aclk m ka c))) (aclk (adel (aput m ka va c) kb) kc (aclk m ka c))), some (L1, .row [.string ka, .string va, .bool false, .string kb, .string vb, .bool true, .string kc, .string vc, .bool false] 27 9)] :=
  Does.of_wp_eq (VC := (let z2 : Hp := [some (M1, .map (ents Value.string Value.string (aput m ka va c)) (aclk m ka c))]; let z1 := (adel (aput m ka va c) kb); let z4 : Hp := [some (M1, .map (ents Value.string Value.string z1) (aclk m ka c))]; let z3 := (ents Value.string Value.string (aput z1 kc vc (aclk m ka c))); let z0 : Hp := [some (M1, .map z3 (aclk z1 kc (aclk m ka c))), some (L1, .row [.string ka, .string va, .bool false, .string kb, .string vb, .bool true, .string kc, .string vc, .bool false] 27 9)]; (L1 = L1) ∧ ∀ a0 : Nat, (a0 = a0) ∧ (a0 = a0) ∧ (a0 = a0) ∧ (a0 = a0) ∧ (Prim0 Tryz.prog (.mup 74 (.map (some M1)) (.string ka) (.string va)) R [some (M1, .map (ents Value.string Value.string m) c)] (undef) z2) ∧ (L1 = L1) ∧ ∀ a1 : Nat, (a1 = a1) ∧ (a1 = a1) ∧ (a1 = a1) ∧ (Prim0 Tryz.prog (.del 74 9 0 (.map (some M1)) (.string kb)) R z2 (undef) z4) ∧ (L1 = L1) ∧ ∀ a2 : Nat, (a2 = a2) ∧ (a2 = a2) ∧ (a2 = a2) ∧ (a2 = a2) ∧ (Prim0 Tryz.prog (.mup 74 (.map (some M1)) (.string kc) (.string vc)) R z4 (undef) [some (M1, .map z3 (aclk z1 kc (aclk m ka c)))]) ∧ GQ R (.ret (.tuple #[])) z0 (.ret (.tuple #[])) R z0)) (ops [.d, .d, .d] (.un 4 (ops [.d, .d, .p 1] (.opn 2 (fun a0 => (ops [.p 2, .d, .p 2, .d, .d, .p 2, .d, .p 2, .pr0 [0] [] (fun e v => undef) (fun e v => [some (M1, .map (ents Value.string Value.string (aput m ka va c)) (aclk m ka c))]), .d, .d, .d, .d, .p 1] (.opn 3 (fun a1 => (ops [.p 3, .d, .p 3, .d, .d, .p 3, .pr0 [0] [] (fun e v => undef) (fun e v => [some (M1, .map (ents Value.string Value.string (adel (aput m ka va c) kb)) (aclk m ka c))]), .d, .d, .d, .d, .p 1] (.opn 4 (fun a2 => (ops [.p 4, .d, .p 4, .d, .d, .p 4, .d, .p 4, .pr0 [0] [] (fun e v => undef) (fun e v => [some (M1, .map (ents Value.string Value.string (aput (adel (aput m ka va c) kb) kc vc (aclk m ka c))) (aclk (adel (aput m ka va c) kb) kc (aclk m ka c)))]), .d, .d, .d] (.fin [0, 1] []))))))))))))) Tryz.func35 (by kernel_rfl) (by kernel_rfl)
    (⟨rfl, fun a0 => ⟨rfl, ⟨rfl, ⟨rfl, ⟨rfl, ⟨(mup_ok (kf := Value.string) (vf := Value.string) (kt := 9) (et := 9) (m := m) (a := ka) (v := va) (by kernel_rfl) (keyStr (by kernel_rfl))), ⟨rfl, fun a1 => ⟨rfl, ⟨rfl, ⟨rfl, ⟨(del_ok (kf := Value.string) (vf := Value.string) (kt := 9) (et := 9) (m := aput m ka va c) (a := kb) (by kernel_rfl) (keyStr (by kernel_rfl))), ⟨rfl, fun a2 => ⟨rfl, ⟨rfl, ⟨rfl, ⟨rfl, ⟨(mup_ok (kf := Value.string) (vf := Value.string) (kt := 9) (et := 9) (m := adel (aput m ka va c) kb) (a := kc) (v := vc) (by kernel_rfl) (keyStr (by kernel_rfl))), ⟨rfl, (by rfl), (by rfl)⟩⟩⟩⟩⟩⟩⟩⟩⟩⟩⟩⟩⟩⟩⟩⟩⟩⟩)

end Go.Proofs.YtlfhlbhgmgkbpaaGreat
