import Derived.Test.YtlfhlbhgmgkbpaaGreatStH
namespace Go.Proofs.YtlfhlbhgmgkbpaaGreat
open Vc Go
set_option linter.unusedVariables false
set_option linter.unusedSimpArgs false

def ckI (ka va : ByteArray) : Int := if (ka.toList == ByteArray.empty.toList) = true then 2 else if decide ((ka.size : Int) > 80) = true then 5 else if decide ((va.size : Int) > 4096) = true then 5 else 0
def enC (t : ByteArray) (k : Nat) : Nat := nx t (nx t k) + 1
def atC (t : ByteArray) (k : Nat) : Chg := ⟨t.extract (k + 2) (nx t k), t.extract (nx t k + 2) (nx t (nx t k)), bt t ((nx t (nx t k) : Nat) : Int) == 1⟩
structure OkC (t : ByteArray) (k : Nat) : Prop where
  e : enC t k ≤ t.size
  g : bt t ((nx t (nx t k) : Nat) : Int) ≤ 1
  c : ckI (atC t k).key (atC t k).val = 0
theorem bt_one {s : ByteArray} {q : Nat} (h : q + 1 ≤ s.size) : bt (s.extract q (q + 1)) 0 = bt s (q : Int) := bt_ext (m := 0) (by omega) h
theorem enC_ge (t : ByteArray) (k : Nat) : k + 5 ≤ enC t k := by
  have := nx_ge t k; have := nx_ge t (nx t k); unfold enC; omega

set_option maxRecDepth 100000 in
set_option maxHeartbeats 4000000 in
theorem check_gen (ka va : ByteArray) (ga : Bool) (R : RO)  : Gives Tryz.prog 40 [.agg #[.string ka, .string va, .bool ga]] R [] (.ret (.int .i64 (ckI ka va))) [] :=
  Does.of_wp_eq (VC := (∀ a0 : Nat, (a0 = a0) ∧ ((ka.toList == ByteArray.empty.toList) = true → GQ R (.ret (.int .i64 (ckI ka va))) [] (.ret (.int .i64 2)) R []) ∧ ((ka.toList == ByteArray.empty.toList) = false → (a0 = a0) ∧ ((decide ((ka.size : Int) > 80)) = true → GQ R (.ret (.int .i64 (ckI ka va))) [] (.ret (.int .i64 5)) R []) ∧ ((decide ((ka.size : Int) > 80)) = false → (a0 = a0) ∧ ((decide ((va.size : Int) > 4096)) = true → GQ R (.ret (.int .i64 (ckI ka va))) [] (.ret (.int .i64 5)) R []) ∧ ((decide ((va.size : Int) > 4096)) = false → GQ R (.ret (.int .i64 (ckI ka va))) [] (.ret (.int .i64 0)) R []))))) (.opn 0 (fun a0 => (ops [.d, .d, .p 0, .d, .d] (.sp 3 (ops [.d] (.fin [] [])) (ops [.d, .p 0, .d, .d, .d] (.sp 12 (ops [.d, .d, .d] (.fin [] [])) (ops [.d, .p 0, .d, .d, .d, .d] (.sp 7 (ops [.d] (.fin [] [])) (ops [.d] (.fin [] [])))))))))) Tryz.func40 (by kernel_rfl) (by kernel_rfl)
    (fun a0 => ⟨rfl, ⟨fun h1 => ⟨rfl, (by first | rfl | (simp only [ckI, *]; rfl)), (by rfl)⟩, fun h1 => ⟨rfl, ⟨fun h2 => ⟨rfl, (by first | rfl | (simp only [ckI, *]; rfl)), (by rfl)⟩, fun h2 => ⟨rfl, ⟨fun h3 => ⟨rfl, (by first | rfl | (simp only [ckI, *]; rfl)), (by rfl)⟩, fun h3 => ⟨rfl, (by first | rfl | (simp only [ckI, *]; rfl)), (by rfl)⟩⟩⟩⟩⟩⟩⟩)

set_option maxRecDepth 100000 in
set_option maxHeartbeats 4000000 in
theorem change_ok0 (A0 k : Nat) (s : ByteArray) (R : RO) (hc : nx s (nx s k) + 1 ≤ s.size) (hg : bt s ((nx s (nx s k) : Nat) : Int) ≤ 1) (hk : ckI (atC s k).key (atC s k).val = 0) : Gives Tryz.prog 26 [.pointer (some ⟨A0, 0, none⟩)] R [some (A0, .row [.string (dr s k)] 60 1)] (.ret (.agg #[.string ((atC s k).key), .string ((atC s k).val), .bool ((atC s k).gone)])) [some (A0, .row [.string (dr s ((nx s (nx s k)) + 1))] 60 1)] :=
  Does.of_wp_eq (VC := (let z3 := (s.extract (k + 2) (nx s k)); let z2 : Hp := [some (A0, .row [.string (dr s ((nx s (nx s k)) + 1))] 60 1)]; let z1 := (s.extract (nx s (nx s k)) ((nx s (nx s k)) + 1)); let z0 := (s.extract ((nx s k) + 2) (nx s (nx s k))); ∀ a0 : Nat, (Gives Tryz.prog 48 [.pointer (some ⟨A0, 0, none⟩)] R [some (A0, .row [.string (dr s k)] 60 1)] (.ret (.string z3)) [some (A0, .row [.string (dr s (nx s k))] 60 1)]) ∧ (Gives Tryz.prog 48 [.pointer (some ⟨A0, 0, none⟩)] R [some (A0, .row [.string (dr s (nx s k))] 60 1)] (.ret (.string z0)) [some (A0, .row [.string (dr s (nx s (nx s k)))] 60 1)]) ∧ ∀ a1 : Nat, (a1 = a1) ∧ (Gives Tryz.prog 25 [.pointer (some ⟨A0, 0, none⟩), .int .i64 1] R [some (A0, .row [.string (dr s (nx s (nx s k)))] 60 1)] (.ret (.string z1)) z2) ∧ ((0 : Int) ≤ 0 ∧ (0 : Int) < (z1.size : Int)) ∧ (decide ((bt z1 0) > 1)) = false ∧ (a1 = a1) ∧ (Gives Tryz.prog 40 [.agg #[.string z3, .string z0, .bool false]] R [] (.ret (.int .i64 (ckI z3 z0))) []) ∧ ((ckI z3 z0) != 0) = false ∧ (a1 = a1) ∧ (a1 = a1) ∧ (a0 = a0) ∧ (a0 = a0) ∧ GQ R (.ret (.agg #[.string ((atC s k).key), .string ((atC s k).val), .bool ((atC s k).gone)])) z2 (.ret (.agg #[.string z3, .string z0, .bool ((bt z1 0) == 1)])) R z2)) (.opn 1 (fun a0 => (ops [.d, .call0 [0] [] (fun e v => .ret (.string (s.extract (k + 2) (nx s k)))) (fun e v => [some (A0, .row [.string (dr s (nx s k))] 60 1)]), .d, .call0 [0] [] (fun e v => .ret (.string (s.extract ((nx s k) + 2) (nx s (nx s k))))) (fun e v => [some (A0, .row [.string (dr s (nx s (nx s k)))] 60 1)]), .d] (.opn 2 (fun a1 => (ops [.p 2, .d, .call0 [0] [] (fun e v => .ret (.string (s.extract (nx s (nx s k)) ((nx s (nx s k)) + 1)))) (fun e v => [some (A0, .row [.string (dr s ((nx s (nx s k)) + 1))] 60 1)]), .ix, .d, .d, .d, .d] (.br 15 false (ops [.p 2, .call0 [] [] (fun e v => .ret (.int .i64 (ckI (s.extract (k + 2) (nx s k)) (s.extract ((nx s k) + 2) (nx s (nx s k)))))) (fun e v => []), .d, .d] (.br 19 false (ops [.d, .d, .d, .p 2, .p 2, .p 1] (.fin [0] [(1, none)]))))))))))) Tryz.func26 (by kernel_rfl) (by kernel_rfl)
    (fun a0 => ⟨(counted18_ok A0 k s R (by have n1 := nx_ge s k; have n2 := nx_ge s (nx s k); omega) (by have n1 := nx_ge s k; have n2 := nx_ge s (nx s k); omega)), ⟨(counted18_ok A0 (nx s k) s R (by have n1 := nx_ge s k; have n2 := nx_ge s (nx s k); omega) (by have n1 := nx_ge s k; have n2 := nx_ge s (nx s k); omega)), fun a1 => ⟨rfl, ⟨(take_ok A0 (nx s (nx s k)) s 1 R (by decide) hc), ⟨(by have n1 := nx_ge s k; have n2 := nx_ge s (nx s k); rw [ByteArray.size_extract]; omega), ⟨(decide_eq_false (by rw [bt_one hc]; have := hg; omega)), ⟨rfl, ⟨(check_gen (s.extract (k + 2) (nx s k)) (s.extract ((nx s k) + 2) (nx s (nx s k))) false R), ⟨(by have h9 : ckI (s.extract (k + 2) (nx s k)) (s.extract (nx s k + 2) (nx s (nx s k))) = 0 := hk; rw [h9]; rfl), ⟨rfl, ⟨rfl, ⟨rfl, ⟨rfl, ⟨rfl, (by (rw [bt_one hc]; rfl)), (by rfl)⟩⟩⟩⟩⟩⟩⟩⟩⟩⟩⟩⟩⟩⟩)

set_option maxRecDepth 100000 in
set_option maxHeartbeats 4000000 in
theorem change_pan1 (A0 k : Nat) (s : ByteArray) (R : RO) (h : ¬ nx s k ≤ s.size) : Gives Tryz.prog 26 [.pointer (some ⟨A0, 0, none⟩)] R [some (A0, .row [.string (dr s k)] 60 1)] (.pan (.iface 56 (.agg #[]))) [none] :=
  Does.of_wp_eq (VC := (∀ a0 : Nat, (Gives Tryz.prog 48 [.pointer (some ⟨A0, 0, none⟩)] R [some (A0, .row [.string (dr s k)] 60 1)] (.pan (.iface 56 (.agg #[]))) [none]) ∧ GQ R (.pan (.iface 56 (.agg #[]))) [none] (.pan (.iface 56 (.agg #[]))) R [none])) (.opn 1 (fun a0 => (ops [.d, .call0 [0] [] (fun e v => .pan (.iface 56 (.agg #[]))) (fun e v => [none])] (.fin [99] [])))) Tryz.func26 (by kernel_rfl) (by kernel_rfl)
    (fun a0 => ⟨(counted18_pan A0 k s R h), ⟨rfl, (by rfl), (by rfl)⟩⟩)

set_option maxRecDepth 100000 in
set_option maxHeartbeats 4000000 in
theorem change_pan2 (A0 k : Nat) (s : ByteArray) (R : RO) (h1 : nx s k ≤ s.size) (h : ¬ nx s (nx s k) ≤ s.size) : Gives Tryz.prog 26 [.pointer (some ⟨A0, 0, none⟩)] R [some (A0, .row [.string (dr s k)] 60 1)] (.pan (.iface 56 (.agg #[]))) [none] :=
  Does.of_wp_eq (VC := (∀ a0 : Nat, (Gives Tryz.prog 48 [.pointer (some ⟨A0, 0, none⟩)] R [some (A0, .row [.string (dr s k)] 60 1)] (.ret (.string (s.extract (k + 2) (nx s k)))) [some (A0, .row [.string (dr s (nx s k))] 60 1)]) ∧ (Gives Tryz.prog 48 [.pointer (some ⟨A0, 0, none⟩)] R [some (A0, .row [.string (dr s (nx s k))] 60 1)] (.pan (.iface 56 (.agg #[]))) [none]) ∧ GQ R (.pan (.iface 56 (.agg #[]))) [none] (.pan (.iface 56 (.agg #[]))) R [none])) (.opn 1 (fun a0 => (ops [.d, .call0 [0] [] (fun e v => .ret (.string (s.extract (k + 2) (nx s k)))) (fun e v => [some (A0, .row [.string (dr s (nx s k))] 60 1)]), .d, .call0 [0] [] (fun e v => .pan (.iface 56 (.agg #[]))) (fun e v => [none])] (.fin [99] [])))) Tryz.func26 (by kernel_rfl) (by kernel_rfl)
    (fun a0 => ⟨(counted18_ok A0 k s R (by have n1 := nx_ge s k; have n2 := nx_ge s (nx s k); omega) h1), ⟨(counted18_pan A0 (nx s k) s R h), ⟨rfl, (by rfl), (by rfl)⟩⟩⟩)

set_option maxRecDepth 100000 in
set_option maxHeartbeats 4000000 in
theorem change_pan3 (A0 k : Nat) (s : ByteArray) (R : RO) (h1 : nx s (nx s k) ≤ s.size) (h : ¬ nx s (nx s k) + 1 ≤ s.size) : Gives Tryz.prog 26 [.pointer (some ⟨A0, 0, none⟩)] R [some (A0, .row [.string (dr s k)] 60 1)] (.pan (.iface 56 (.agg #[]))) [none] :=
  Does.of_wp_eq (VC := (∀ a0 : Nat, (Gives Tryz.prog 48 [.pointer (some ⟨A0, 0, none⟩)] R [some (A0, .row [.string (dr s k)] 60 1)] (.ret (.string (s.extract (k + 2) (nx s k)))) [some (A0, .row [.string (dr s (nx s k))] 60 1)]) ∧ (Gives Tryz.prog 48 [.pointer (some ⟨A0, 0, none⟩)] R [some (A0, .row [.string (dr s (nx s k))] 60 1)] (.ret (.string (s.extract ((nx s k) + 2) (nx s (nx s k))))) [some (A0, .row [.string (dr s (nx s (nx s k)))] 60 1)]) ∧ ∀ a1 : Nat, (a1 = a1) ∧ (Gives Tryz.prog 25 [.pointer (some ⟨A0, 0, none⟩), .int .i64 1] R [some (A0, .row [.string (dr s (nx s (nx s k)))] 60 1)] (.pan (.iface 56 (.agg #[]))) [none]) ∧ GQ R (.pan (.iface 56 (.agg #[]))) [none] (.pan (.iface 56 (.agg #[]))) R [none])) (.opn 1 (fun a0 => (ops [.d, .call0 [0] [] (fun e v => .ret (.string (s.extract (k + 2) (nx s k)))) (fun e v => [some (A0, .row [.string (dr s (nx s k))] 60 1)]), .d, .call0 [0] [] (fun e v => .ret (.string (s.extract ((nx s k) + 2) (nx s (nx s k))))) (fun e v => [some (A0, .row [.string (dr s (nx s (nx s k)))] 60 1)]), .d] (.opn 2 (fun a1 => (ops [.p 2, .d, .call0 [0] [] (fun e v => .pan (.iface 56 (.agg #[]))) (fun e v => [none])] (.fin [99] []))))))) Tryz.func26 (by kernel_rfl) (by kernel_rfl)
    (fun a0 => ⟨(counted18_ok A0 k s R (by have n1 := nx_ge s k; have n2 := nx_ge s (nx s k); omega) (by have n1 := nx_ge s k; have n2 := nx_ge s (nx s k); omega)), ⟨(counted18_ok A0 (nx s k) s R (by have n1 := nx_ge s k; have n2 := nx_ge s (nx s k); omega) (by have n1 := nx_ge s k; have n2 := nx_ge s (nx s k); omega)), fun a1 => ⟨rfl, ⟨(take_pan A0 (nx s (nx s k)) s 1 R (by decide) h (.inl h1)), ⟨rfl, (by rfl), (by rfl)⟩⟩⟩⟩⟩)

set_option maxRecDepth 100000 in
set_option maxHeartbeats 4000000 in
theorem change_pan4 (A0 k : Nat) (s : ByteArray) (R : RO) (hc : nx s (nx s k) + 1 ≤ s.size) (h : ¬ bt s ((nx s (nx s k) : Nat) : Int) ≤ 1) : Gives Tryz.prog 26 [.pointer (some ⟨A0, 0, none⟩)] R [some (A0, .row [.string (dr s k)] 60 1)] (.pan (.iface 56 (.agg #[]))) [none] :=
  Does.of_wp_eq (VC := (∀ a0 : Nat, (Gives Tryz.prog 48 [.pointer (some ⟨A0, 0, none⟩)] R [some (A0, .row [.string (dr s k)] 60 1)] (.ret (.string (s.extract (k + 2) (nx s k)))) [some (A0, .row [.string (dr s (nx s k))] 60 1)]) ∧ (Gives Tryz.prog 48 [.pointer (some ⟨A0, 0, none⟩)] R [some (A0, .row [.string (dr s (nx s k))] 60 1)] (.ret (.string (s.extract ((nx s k) + 2) (nx s (nx s k))))) [some (A0, .row [.string (dr s (nx s (nx s k)))] 60 1)]) ∧ ∀ a1 : Nat, (a1 = a1) ∧ (Gives Tryz.prog 25 [.pointer (some ⟨A0, 0, none⟩), .int .i64 1] R [some (A0, .row [.string (dr s (nx s (nx s k)))] 60 1)] (.ret (.string (s.extract (nx s (nx s k)) ((nx s (nx s k)) + 1)))) [some (A0, .row [.string (dr s ((nx s (nx s k)) + 1))] 60 1)]) ∧ ((0 : Int) ≤ 0 ∧ (0 : Int) < ((s.extract (nx s (nx s k)) ((nx s (nx s k)) + 1)).size : Int)) ∧ (decide ((bt (s.extract (nx s (nx s k)) ((nx s (nx s k)) + 1)) 0) > 1)) = true ∧ GQ R (.pan (.iface 56 (.agg #[]))) [none] (.pan (.iface 56 (.agg #[]))) R [none])) (.opn 1 (fun a0 => (ops [.d, .call0 [0] [] (fun e v => .ret (.string (s.extract (k + 2) (nx s k)))) (fun e v => [some (A0, .row [.string (dr s (nx s k))] 60 1)]), .d, .call0 [0] [] (fun e v => .ret (.string (s.extract ((nx s k) + 2) (nx s (nx s k))))) (fun e v => [some (A0, .row [.string (dr s (nx s (nx s k)))] 60 1)]), .d] (.opn 2 (fun a1 => (ops [.p 2, .d, .call0 [0] [] (fun e v => .ret (.string (s.extract (nx s (nx s k)) ((nx s (nx s k)) + 1)))) (fun e v => [some (A0, .row [.string (dr s ((nx s (nx s k)) + 1))] 60 1)]), .ix, .d, .d, .d, .d] (.br 15 true (ops [.d, .d, .d, .pan] (.fin [99] []))))))))) Tryz.func26 (by kernel_rfl) (by kernel_rfl)
    (fun a0 => ⟨(counted18_ok A0 k s R (by have n1 := nx_ge s k; have n2 := nx_ge s (nx s k); omega) (by have n1 := nx_ge s k; have n2 := nx_ge s (nx s k); omega)), ⟨(counted18_ok A0 (nx s k) s R (by have n1 := nx_ge s k; have n2 := nx_ge s (nx s k); omega) (by have n1 := nx_ge s k; have n2 := nx_ge s (nx s k); omega)), fun a1 => ⟨rfl, ⟨(take_ok A0 (nx s (nx s k)) s 1 R (by decide) hc), ⟨(by have n1 := nx_ge s k; have n2 := nx_ge s (nx s k); rw [ByteArray.size_extract]; omega), ⟨(decide_eq_true (by rw [bt_one hc]; have := h; omega)), ⟨rfl, (by rfl), (by rfl)⟩⟩⟩⟩⟩⟩⟩)

set_option maxRecDepth 100000 in
set_option maxHeartbeats 4000000 in
theorem change_pan5 (A0 k : Nat) (s : ByteArray) (R : RO) (hc : nx s (nx s k) + 1 ≤ s.size) (hg : bt s ((nx s (nx s k) : Nat) : Int) ≤ 1) (h : ¬ ckI (atC s k).key (atC s k).val = 0) : Gives Tryz.prog 26 [.pointer (some ⟨A0, 0, none⟩)] R [some (A0, .row [.string (dr s k)] 60 1)] (.pan (.iface 56 (.agg #[]))) [none] :=
  Does.of_wp_eq (VC := (let z2 := (s.extract (k + 2) (nx s k)); let z1 := (s.extract (nx s (nx s k)) ((nx s (nx s k)) + 1)); let z0 := (s.extract ((nx s k) + 2) (nx s (nx s k))); ∀ a0 : Nat, (Gives Tryz.prog 48 [.pointer (some ⟨A0, 0, none⟩)] R [some (A0, .row [.string (dr s k)] 60 1)] (.ret (.string z2)) [some (A0, .row [.string (dr s (nx s k))] 60 1)]) ∧ (Gives Tryz.prog 48 [.pointer (some ⟨A0, 0, none⟩)] R [some (A0, .row [.string (dr s (nx s k))] 60 1)] (.ret (.string z0)) [some (A0, .row [.string (dr s (nx s (nx s k)))] 60 1)]) ∧ ∀ a1 : Nat, (a1 = a1) ∧ (Gives Tryz.prog 25 [.pointer (some ⟨A0, 0, none⟩), .int .i64 1] R [some (A0, .row [.string (dr s (nx s (nx s k)))] 60 1)] (.ret (.string z1)) [some (A0, .row [.string (dr s ((nx s (nx s k)) + 1))] 60 1)]) ∧ ((0 : Int) ≤ 0 ∧ (0 : Int) < (z1.size : Int)) ∧ (decide ((bt z1 0) > 1)) = false ∧ (a1 = a1) ∧ (Gives Tryz.prog 40 [.agg #[.string z2, .string z0, .bool false]] R [] (.ret (.int .i64 (ckI z2 z0))) []) ∧ ((ckI z2 z0) != 0) = true ∧ GQ R (.pan (.iface 56 (.agg #[]))) [none] (.pan (.iface 56 (.agg #[]))) R [none])) (.opn 1 (fun a0 => (ops [.d, .call0 [0] [] (fun e v => .ret (.string (s.extract (k + 2) (nx s k)))) (fun e v => [some (A0, .row [.string (dr s (nx s k))] 60 1)]), .d, .call0 [0] [] (fun e v => .ret (.string (s.extract ((nx s k) + 2) (nx s (nx s k))))) (fun e v => [some (A0, .row [.string (dr s (nx s (nx s k)))] 60 1)]), .d] (.opn 2 (fun a1 => (ops [.p 2, .d, .call0 [0] [] (fun e v => .ret (.string (s.extract (nx s (nx s k)) ((nx s (nx s k)) + 1)))) (fun e v => [some (A0, .row [.string (dr s ((nx s (nx s k)) + 1))] 60 1)]), .ix, .d, .d, .d, .d] (.br 15 false (ops [.p 2, .call0 [] [] (fun e v => .ret (.int .i64 (ckI (s.extract (k + 2) (nx s k)) (s.extract ((nx s k) + 2) (nx s (nx s k)))))) (fun e v => []), .d, .d] (.br 19 true (ops [.d, .d, .pan] (.fin [99] []))))))))))) Tryz.func26 (by kernel_rfl) (by kernel_rfl)
    (fun a0 => ⟨(counted18_ok A0 k s R (by have n1 := nx_ge s k; have n2 := nx_ge s (nx s k); omega) (by have n1 := nx_ge s k; have n2 := nx_ge s (nx s k); omega)), ⟨(counted18_ok A0 (nx s k) s R (by have n1 := nx_ge s k; have n2 := nx_ge s (nx s k); omega) (by have n1 := nx_ge s k; have n2 := nx_ge s (nx s k); omega)), fun a1 => ⟨rfl, ⟨(take_ok A0 (nx s (nx s k)) s 1 R (by decide) hc), ⟨(by have n1 := nx_ge s k; have n2 := nx_ge s (nx s k); rw [ByteArray.size_extract]; omega), ⟨(decide_eq_false (by rw [bt_one hc]; have := hg; omega)), ⟨rfl, ⟨(check_gen (s.extract (k + 2) (nx s k)) (s.extract ((nx s k) + 2) (nx s (nx s k))) false R), ⟨(by simp only [bne_iff_ne, ne_eq]; exact h), ⟨rfl, (by rfl), (by rfl)⟩⟩⟩⟩⟩⟩⟩⟩⟩⟩)

theorem change_ok (A0 k : Nat) (s : ByteArray) (R : RO) (h : OkC s k) : Gives Tryz.prog 26 [.pointer (some ⟨A0, 0, none⟩)] R [some (A0, .row [.string (dr s k)] 60 1)] (.ret (.agg #[.string ((atC s k).key), .string ((atC s k).val), .bool ((atC s k).gone)])) [some (A0, .row [.string (dr s (enC s k))] 60 1)] := change_ok0 A0 k s R h.e h.g h.c
theorem change_pan (A0 k : Nat) (s : ByteArray) (R : RO) (h : ¬ OkC s k) : Gives Tryz.prog 26 [.pointer (some ⟨A0, 0, none⟩)] R [some (A0, .row [.string (dr s k)] 60 1)] (.pan (.iface 56 (.agg #[]))) [none] := by
  by_cases h1 : nx s k ≤ s.size
  · by_cases h2 : nx s (nx s k) ≤ s.size
    · by_cases h3 : nx s (nx s k) + 1 ≤ s.size
      · by_cases h4 : bt s ((nx s (nx s k) : Nat) : Int) ≤ 1
        · exact change_pan5 A0 k s R h3 h4 fun h5 => h ⟨h3, h4, h5⟩
        · exact change_pan4 A0 k s R h3 h4
      · exact change_pan3 A0 k s R h2 h3
    · exact change_pan2 A0 k s R h1 h2
  · exact change_pan1 A0 k s R h1


/-- The place of the part numbered so, and the changes ahead of it. -/
def kS (t : ByteArray) : Nat → Nat
  | 0 => 1
  | i + 1 => enC t (kS t i)
def lS (t : ByteArray) : Nat → List Chg
  | 0 => []
  | i + 1 => lS t i ++ [atC t (kS t i)]
def Run (t : ByteArray) (n : Nat) : Prop := ∀ j, j < n → kS t j < t.size ∧ OkC t (kS t j)
theorem kS_ge (t : ByteArray) : ∀ i, 1 + 5 * i ≤ kS t i
  | 0 => by simp [kS]
  | i + 1 => by have := kS_ge t i; have := enC_ge t (kS t i); rw [kS]; omega
theorem lS_len (t : ByteArray) : ∀ i, (lS t i).length = i
  | 0 => rfl
  | i + 1 => by rw [lS, List.length_append, lS_len t i]; rfl
theorem Run.le {t : ByteArray} {n : Nat} (h : Run t n) (h1 : 1 ≤ t.size) : ∀ i, i ≤ n → kS t i ≤ t.size
  | 0, _ => h1
  | i + 1, hi => (h i (by omega)).2.e
theorem run_or (t : ByteArray) : ∀ n, Run t n ∨ ∃ N, N < n ∧ Run t N ∧ ¬ (kS t N < t.size ∧ OkC t (kS t N))
  | 0 => .inl fun j hj => by omega
  | n + 1 => by
    rcases run_or t n with h | ⟨N, h1, h2⟩
    · by_cases hc : kS t n < t.size ∧ OkC t (kS t n)
      · refine .inl fun j hj => ?_
        by_cases he : j = n
        · subst he; exact hc
        · exact h j (by omega)
      · exact .inr ⟨n, by omega, h, hc⟩
    · exact .inr ⟨N, by omega, h2⟩
theorem run_end (t : ByteArray) (h1 : 1 ≤ t.size) : ∃ N, Run t N ∧ (kS t N = t.size ∨ (kS t N < t.size ∧ ¬ OkC t (kS t N))) := by
  rcases run_or t (t.size + 1) with h | ⟨N, _, h2, h3⟩
  · have := (h t.size (by omega)).1
    have := kS_ge t t.size
    omega
  · refine ⟨N, h2, ?_⟩
    have := h2.le h1 N (Nat.le_refl _)
    by_cases hc : kS t N < t.size
    · exact .inr ⟨hc, fun ho => h3 ⟨hc, ho⟩⟩
    · exact .inl (by omega)
theorem dr_emp {t : ByteArray} {k : Nat} (h : k ≤ t.size) : ((dr t k).toList == ByteArray.empty.toList) = decide (k = t.size) := by
  rw [seq, decide_eq_decide]
  constructor
  · intro he
    have h2 := dr_size t k
    rw [he] at h2
    simp at h2; omega
  · intro he
    apply ba_ext'
    unfold dr
    rw [ext_list, List.drop_eq_nil_of_le (by rw [List.length_take, len_size]; omega)]
    rfl

end Go.Proofs.YtlfhlbhgmgkbpaaGreat
