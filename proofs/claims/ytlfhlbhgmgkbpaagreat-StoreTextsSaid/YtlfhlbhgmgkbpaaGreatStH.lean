import Derived.Test.YtlfhlbhgmgkbpaaGreatStG
import Derived.Test.YtlfhlbhgmgkbpaaGreatVcX
namespace Go.Proofs.YtlfhlbhgmgkbpaaGreat
open Vc Go
set_option linter.unusedVariables false
set_option linter.unusedSimpArgs false

/-- What is left of a text from a place on. -/
def dr (s : ByteArray) (k : Nat) : ByteArray := s.extract k s.size
theorem dr_zero (s : ByteArray) : dr s 0 = s := ByteArray.extract_zero_size
theorem dr_size (s : ByteArray) (k : Nat) : (dr s k).size = s.size - k := by unfold dr; rw [ByteArray.size_extract]; omega
theorem dr_take {s : ByteArray} {k n : Nat} (h : k + n ≤ s.size) : (dr s k).extract 0 n = s.extract k (k + n) := by
  apply ba_ext'
  unfold dr
  rw [ext_list, ext_list, ext_list, List.drop_zero, List.take_drop, List.take_take]
  have h2 := len_size s
  congr 2
  omega
theorem dr_drop {s : ByteArray} {k n : Nat} (h : k + n ≤ s.size) : (dr s k).extract n (dr s k).size = dr s (k + n) := by
  apply ba_ext'
  rw [ext_list, dr_size]
  unfold dr
  rw [ext_list, ext_list]
  have h2 := len_size s
  rw [List.take_of_length_le (l := List.drop k _) (by rw [List.length_drop, List.length_take]; omega), List.drop_drop]
def tw (s : ByteArray) (k : Nat) : Int := bt s (k : Int) * 256 + bt s ((k + 1 : Nat) : Int)
theorem tw_bd (s : ByteArray) (k : Nat) : 0 ≤ tw s k ∧ tw s k ≤ 65535 := by
  unfold tw
  have := bt_bd s (k : Int)
  have := bt_bd s ((k + 1 : Nat) : Int)
  omega
def nx (s : ByteArray) (k : Nat) : Nat := k + 2 + Int.toNat (tw s k)
theorem nx_ge (s : ByteArray) (k : Nat) : k + 2 ≤ nx s k := by unfold nx; omega
theorem tw_ex {s : ByteArray} {k : Nat} (h : k + 2 ≤ s.size) : bOr .i64 (sHl .i64 (bt (s.extract k (k + 2)) 0) 8) (bt (s.extract k (k + 2)) 1) = tw s k := by
  have e0 : bt (s.extract k (k + 2)) 0 = bt s (k : Int) := bt_ext (m := 0) (by omega) h
  have e1 : bt (s.extract k (k + 2)) 1 = bt s ((k + 1 : Nat) : Int) := bt_ext (m := 1) (by omega) h
  have h1 := bt_bd s (k : Int)
  have h2 := bt_bd s ((k + 1 : Nat) : Int)
  rw [e0, e1, push8i h1.1 (by omega) h2.1 h2.2]
  rfl

set_option maxRecDepth 100000 in
set_option maxHeartbeats 4000000 in
theorem take_ok (A0 k : Nat) (s : ByteArray) (n : Int) (R : RO) (hn : 0 ≤ n) (h : k + Int.toNat n ≤ s.size) : Gives Tryz.prog 25 [.pointer (some ⟨A0, 0, none⟩), .int .i64 n] R [some (A0, .row [.string (dr s k)] 60 1)] (.ret (.string (s.extract k (k + Int.toNat n)))) [some (A0, .row [.string (dr s (k + Int.toNat n))] 60 1)] :=
  Does.of_wp_eq (VC := ((A0 = A0) ∧ (decide (n > ((dr s k).size : Int))) = false ∧ (A0 = A0) ∧ ((0 : Int) ≤ n ∧ (n : Int) ≤ ((dr s k).size : Int)) ∧ (A0 = A0) ∧ ((0 : Int) ≤ n ∧ (n : Int) ≤ ((dr s k).size : Int)) ∧ (A0 = A0) ∧ GQ R (.ret (.string (s.extract k (k + Int.toNat n)))) [some (A0, .row [.string (dr s (k + Int.toNat n))] 60 1)] (.ret (.string ((dr s k).extract 0 (Int.toNat n)))) R [some (A0, .row [.string ((dr s k).extract (Int.toNat n) (dr s k).size)] 60 1)])) (ops [.d, .d, .d, .d, .d, .p 0, .d, .d] (.br 12 false (ops [.d, .d, .d, .p 0, .d, .ss, .d, .d, .d, .d, .d, .p 0, .d, .ss, .d, .d, .p 0, .d, .d] (.fin [0] [])))) Tryz.func25 (by kernel_rfl) (by kernel_rfl)
    (⟨rfl, ⟨(by rw [decide_eq_false_iff_not, dr_size]; omega), ⟨rfl, ⟨(by rw [dr_size]; omega), ⟨rfl, ⟨(by rw [dr_size]; omega), ⟨rfl, ⟨rfl, (by rw [dr_take h]), (by rw [dr_drop h])⟩⟩⟩⟩⟩⟩⟩⟩)

set_option maxRecDepth 100000 in
set_option maxHeartbeats 4000000 in
theorem take_pan (A0 k : Nat) (s : ByteArray) (n : Int) (R : RO) (hn : 0 ≤ n) (h : ¬ k + Int.toNat n ≤ s.size) (hk : k ≤ s.size ∨ 0 < n) : Gives Tryz.prog 25 [.pointer (some ⟨A0, 0, none⟩), .int .i64 n] R [some (A0, .row [.string (dr s k)] 60 1)] (.pan (.iface 56 (.agg #[]))) [none] :=
  Does.of_wp_eq (VC := ((A0 = A0) ∧ (decide (n > ((dr s k).size : Int))) = true ∧ GQ R (.pan (.iface 56 (.agg #[]))) [none] (.pan (.iface 56 (.agg #[]))) R [none])) (ops [.d, .d, .d, .d, .d, .p 0, .d, .d] (.br 12 true (ops [.d, .d, .pan] (.fin [99] [])))) Tryz.func25 (by kernel_rfl) (by kernel_rfl)
    (⟨rfl, ⟨(by rw [decide_eq_true_iff, dr_size]; omega), ⟨rfl, (by rfl), (by rfl)⟩⟩⟩)

set_option maxRecDepth 100000 in
set_option maxHeartbeats 4000000 in
theorem counted18_ok (A0 k : Nat) (s : ByteArray) (R : RO) (h2 : k + 2 ≤ s.size) (h : nx s k ≤ s.size) : Gives Tryz.prog 48 [.pointer (some ⟨A0, 0, none⟩)] R [some (A0, .row [.string (dr s k)] 60 1)] (.ret (.string (s.extract (k + 2) (nx s k)))) [some (A0, .row [.string (dr s (nx s k))] 60 1)] :=
  Does.of_wp_eq (VC := (let z0 := (bOr .i64 (sHl .i64 (bt (s.extract k (k + 2)) 0) 8) (bt (s.extract k (k + 2)) 1)); let z1 := ((k + 2) + Int.toNat z0); (Gives Tryz.prog 25 [.pointer (some ⟨A0, 0, none⟩), .int .i64 2] R [some (A0, .row [.string (dr s k)] 60 1)] (.ret (.string (s.extract k (k + 2)))) [some (A0, .row [.string (dr s (k + 2))] 60 1)]) ∧ ((0 : Int) ≤ 0 ∧ (0 : Int) < ((s.extract k (k + 2)).size : Int)) ∧ (IntKind.i64.wrap (bt (s.extract k (k + 2)) 0) = (bt (s.extract k (k + 2)) 0)) ∧ ((0 : Int) ≤ 1 ∧ (1 : Int) < ((s.extract k (k + 2)).size : Int)) ∧ (IntKind.i64.wrap (bt (s.extract k (k + 2)) 1) = (bt (s.extract k (k + 2)) 1)) ∧ (Gives Tryz.prog 25 [.pointer (some ⟨A0, 0, none⟩), .int .i64 z0] R [some (A0, .row [.string (dr s (k + 2))] 60 1)] (.ret (.string (s.extract (k + 2) z1))) [some (A0, .row [.string (dr s z1)] 60 1)]) ∧ GQ R (.ret (.string (s.extract (k + 2) (nx s k)))) [some (A0, .row [.string (dr s (nx s k))] 60 1)] (.ret (.string (s.extract (k + 2) z1))) R [some (A0, .row [.string (dr s z1)] 60 1)])) (ops [.d, .d, .call0 [0] [] (fun e v => .ret (.string (s.extract k (k + 2)))) (fun e v => [some (A0, .row [.string (dr s (k + 2))] 60 1)]), .d] (.dr [some (.d), some (.d), some (.ix), some (.nw), some (.d), some (.d), some (.ix), some (.nw), some (.d), some (.call0 [0] [] (fun e v => .ret (.string (s.extract (k + 2) ((k + 2) + Int.toNat (bOr .i64 (sHl .i64 (bt (s.extract k (k + 2)) 0) 8) (bt (s.extract k (k + 2)) 1)))))) (fun e v => [some (A0, .row [.string (dr s ((k + 2) + Int.toNat (bOr .i64 (sHl .i64 (bt (s.extract k (k + 2)) 0) 8) (bt (s.extract k (k + 2)) 1))))] 60 1)])), some (.d)] (.fin [0] []))) Tryz.func48 (by kernel_rfl) (by kernel_rfl)
    (⟨(take_ok A0 k s 2 R (by decide) h2), ⟨(by rw [ByteArray.size_extract]; omega), ⟨(wrapI (by have := bt_bd (s.extract k (k + 2)) 0; have := bt_bd (s.extract k (k + 2)) 1; omega) (by have := bt_bd (s.extract k (k + 2)) 0; have := bt_bd (s.extract k (k + 2)) 1; omega)), ⟨(by rw [ByteArray.size_extract]; omega), ⟨(wrapI (by have := bt_bd (s.extract k (k + 2)) 0; have := bt_bd (s.extract k (k + 2)) 1; omega) (by have := bt_bd (s.extract k (k + 2)) 0; have := bt_bd (s.extract k (k + 2)) 1; omega)), ⟨(take_ok A0 (k + 2) s (bOr .i64 (sHl .i64 (bt (s.extract k (k + 2)) 0) 8) (bt (s.extract k (k + 2)) 1)) R (by rw [tw_ex h2]; exact (tw_bd s k).1) (by rw [tw_ex h2]; exact h)), ⟨rfl, (by rw [tw_ex h2]; rfl), (by rw [tw_ex h2]; rfl)⟩⟩⟩⟩⟩⟩⟩)

set_option maxRecDepth 100000 in
set_option maxHeartbeats 4000000 in
theorem counted18_pan1 (A0 k : Nat) (s : ByteArray) (R : RO) (h : ¬ k + 2 ≤ s.size) : Gives Tryz.prog 48 [.pointer (some ⟨A0, 0, none⟩)] R [some (A0, .row [.string (dr s k)] 60 1)] (.pan (.iface 56 (.agg #[]))) [none] :=
  Does.of_wp_eq (VC := ((Gives Tryz.prog 25 [.pointer (some ⟨A0, 0, none⟩), .int .i64 2] R [some (A0, .row [.string (dr s k)] 60 1)] (.pan (.iface 56 (.agg #[]))) [none]) ∧ GQ R (.pan (.iface 56 (.agg #[]))) [none] (.pan (.iface 56 (.agg #[]))) R [none])) (ops [.d, .d, .call0 [0] [] (fun e v => .pan (.iface 56 (.agg #[]))) (fun e v => [none])] (.fin [99] [])) Tryz.func48 (by kernel_rfl) (by kernel_rfl)
    (⟨(take_pan A0 k s 2 R (by decide) h (.inr (by decide))), ⟨rfl, (by rfl), (by rfl)⟩⟩)

set_option maxRecDepth 100000 in
set_option maxHeartbeats 4000000 in
theorem counted18_pan2 (A0 k : Nat) (s : ByteArray) (R : RO) (h2 : k + 2 ≤ s.size) (h : ¬ nx s k ≤ s.size) : Gives Tryz.prog 48 [.pointer (some ⟨A0, 0, none⟩)] R [some (A0, .row [.string (dr s k)] 60 1)] (.pan (.iface 56 (.agg #[]))) [none] :=
  Does.of_wp_eq (VC := (let z0 := (bt (s.extract k (k + 2)) 0); (Gives Tryz.prog 25 [.pointer (some ⟨A0, 0, none⟩), .int .i64 2] R [some (A0, .row [.string (dr s k)] 60 1)] (.ret (.string (s.extract k (k + 2)))) [some (A0, .row [.string (dr s (k + 2))] 60 1)]) ∧ (CT Tryz.prog (sub (bodyOf Tryz.f48) [1, 1, 0]) ⟨[.pointer (some ⟨A0, 0, none⟩), undef, .string ByteArray.empty, .string (s.extract k (k + 2)), .pointer (some ⟨A0, 0, none⟩), .string (s.extract k (k + 2)), undef, undef, undef, undef, undef, undef, undef, undef, undef, undef], [], [some (A0, .row [.string (dr s (k + 2))] 60 1)]⟩ R (altPost R (.alt (Unit) (fun _ => True) (fun zx => ((.panic (.iface 56 (.agg #[]))), ⟨[.pointer (some ⟨A0, 0, none⟩), undef, .string ByteArray.empty, .string (s.extract k (k + 2)), .pointer (some ⟨A0, 0, none⟩), .string (s.extract k (k + 2)), .pointer (some ⟨A0, 0, none⟩), .string (s.extract k (k + 2)), .int .u8 z0, .int .i64 z0, .int .i64 (sHl .i64 z0 8), .string (s.extract k (k + 2)), .int .u8 (bt (s.extract k (k + 2)) 1), .int .i64 (bt (s.extract k (k + 2)) 1), .int .i64 (bOr .i64 (sHl .i64 z0 8) (bt (s.extract k (k + 2)) 1)), undef], [], [none]⟩)) (fun _ => .altn) .altn))) ∧ (∀ x0 : Unit, (True) → GQ R (.pan (.iface 56 (.agg #[]))) [none] (.pan (.iface 56 (.agg #[]))) R [none]) ∧ True)) (ops [.d, .d, .call0 [0] [] (fun e v => .ret (.string (s.extract k (k + 2)))) (fun e v => [some (A0, .row [.string (dr s (k + 2))] 60 1)]), .d] (.un 0 (.alt (Unit) (fun zx => True) (fun zx => ((.panic (.iface 56 (.agg #[]))), ⟨[.pointer (some ⟨A0, 0, none⟩), undef, .string ByteArray.empty, .string (s.extract k (k + 2)), .pointer (some ⟨A0, 0, none⟩), .string (s.extract k (k + 2)), .pointer (some ⟨A0, 0, none⟩), .string (s.extract k (k + 2)), .int .u8 (bt (s.extract k (k + 2)) 0), .int .i64 (bt (s.extract k (k + 2)) 0), .int .i64 (sHl .i64 (bt (s.extract k (k + 2)) 0) 8), .string (s.extract k (k + 2)), .int .u8 (bt (s.extract k (k + 2)) 1), .int .i64 (bt (s.extract k (k + 2)) 1), .int .i64 (bOr .i64 (sHl .i64 (bt (s.extract k (k + 2)) 0) 8) (bt (s.extract k (k + 2)) 1)), undef], [], [none]⟩)) (fun x0 => (.fin [99] [])) .altn))) Tryz.func48 (by kernel_rfl) (by kernel_rfl)
    (⟨(take_ok A0 k s 2 R (by decide) h2), ⟨CT.draw_pan_c (VC := (let z2 := (bt (s.extract k (k + 2)) 1); let z1 := (bt (s.extract k (k + 2)) 0); let z0 : List Value := [.pointer (some ⟨A0, 0, none⟩), undef, .string ByteArray.empty, .string (s.extract k (k + 2)), .pointer (some ⟨A0, 0, none⟩), .string (s.extract k (k + 2)), .pointer (some ⟨A0, 0, none⟩), .string (s.extract k (k + 2)), .int .u8 z1, .int .i64 z1, .int .i64 (sHl .i64 z1 8), .string (s.extract k (k + 2)), .int .u8 z2, .int .i64 z2, .int .i64 (bOr .i64 (sHl .i64 z1 8) z2), undef]; ((0 : Int) ≤ 0 ∧ (0 : Int) < ((s.extract k (k + 2)).size : Int)) ∧ (IntKind.i64.wrap z1 = z1) ∧ ((0 : Int) ≤ 1 ∧ (1 : Int) < ((s.extract k (k + 2)).size : Int)) ∧ (IntKind.i64.wrap z2 = z2) ∧ (Gives Tryz.prog 25 [.pointer (some ⟨A0, 0, none⟩), .int .i64 (bOr .i64 (sHl .i64 z1 8) z2)] R [some (A0, .row [.string (dr s (k + 2))] 60 1)] (.pan (.iface 56 (.agg #[]))) [none]) ∧ altPost R (.alt (Unit) (fun _ => True) (fun zx => ((.panic (.iface 56 (.agg #[]))), ⟨z0, [], [none]⟩)) (fun _ => .altn) .altn) (.panic (.iface 56 (.agg #[]))) ⟨z0, [], [none]⟩ R)) [some (.d), some (.d), some (.ix), some (.nw), some (.d), some (.d), some (.ix), some (.nw), some (.d)] (.call0 [0] [] (fun e v => .pan (.iface 56 (.agg #[]))) (fun e v => [none])) (.alt (Unit) (fun _ => True) (fun zx => ((.panic (.iface 56 (.agg #[]))), ⟨[.pointer (some ⟨A0, 0, none⟩), undef, .string ByteArray.empty, .string (s.extract k (k + 2)), .pointer (some ⟨A0, 0, none⟩), .string (s.extract k (k + 2)), .pointer (some ⟨A0, 0, none⟩), .string (s.extract k (k + 2)), .int .u8 (bt (s.extract k (k + 2)) 0), .int .i64 (bt (s.extract k (k + 2)) 0), .int .i64 (sHl .i64 (bt (s.extract k (k + 2)) 0) 8), .string (s.extract k (k + 2)), .int .u8 (bt (s.extract k (k + 2)) 1), .int .i64 (bt (s.extract k (k + 2)) 1), .int .i64 (bOr .i64 (sHl .i64 (bt (s.extract k (k + 2)) 0) 8) (bt (s.extract k (k + 2)) 1)), undef], [], [none]⟩)) (fun _ => .altn) .altn) (by kernel_rfl) (by kernel_rfl) (by kernel_rfl) (by kernel_rfl) (no_skip (by kernel_rfl)) (by kernel_rfl) (⟨(by rw [ByteArray.size_extract]; omega), ⟨(wrapI (by have := bt_bd (s.extract k (k + 2)) 0; have := bt_bd (s.extract k (k + 2)) 1; omega) (by have := bt_bd (s.extract k (k + 2)) 0; have := bt_bd (s.extract k (k + 2)) 1; omega)), ⟨(by rw [ByteArray.size_extract]; omega), ⟨(wrapI (by have := bt_bd (s.extract k (k + 2)) 0; have := bt_bd (s.extract k (k + 2)) 1; omega) (by have := bt_bd (s.extract k (k + 2)) 0; have := bt_bd (s.extract k (k + 2)) 1; omega)), ⟨(take_pan A0 (k + 2) s (bOr .i64 (sHl .i64 (bt (s.extract k (k + 2)) 0) 8) (bt (s.extract k (k + 2)) 1)) R (by rw [tw_ex h2]; exact (tw_bd s k).1) (by rw [tw_ex h2]; exact h) (.inl h2)), Or.inl ⟨rfl, (()), trivial, rfl, ⟨rfl, rfl, rfl⟩⟩⟩⟩⟩⟩⟩), ⟨fun x0 qx0 => ⟨rfl, (by rfl), (by rfl)⟩, trivial⟩⟩⟩)

theorem counted18_pan (A0 k : Nat) (s : ByteArray) (R : RO) (h : ¬ nx s k ≤ s.size) : Gives Tryz.prog 48 [.pointer (some ⟨A0, 0, none⟩)] R [some (A0, .row [.string (dr s k)] 60 1)] (.pan (.iface 56 (.agg #[]))) [none] := by
  by_cases h2 : k + 2 ≤ s.size
  · exact counted18_pan2 A0 k s R h2 h
  · exact counted18_pan1 A0 k s R h2

end Go.Proofs.YtlfhlbhgmgkbpaaGreat
