/- Parts of the proof: what the texts behind this one need. -/
import Derived.Test.YtejpoojgbnppoaaDoorPt5
set_option maxRecDepth 100000
set_option maxHeartbeats 4000000
namespace Go.Proofs.YtejpoojgbnppoaaDoor
open Vc Go
set_option linter.unusedVariables false
set_option linter.unusedSimpArgs false
theorem qn {n : Int} (h : 0 ≤ n∧n ≤ 18446744073709551615) : IntKind.u64.wrap (Int.tdiv n 10) = n / 10∧Int.tmod n 10 = n % 10 := by
  have h1 : IntKind.u64.wrap (Int.tdiv n 10) = Int.tdiv n 10 % 18446744073709551616 := rfl
  rw [h1, Int.tdiv_eq_ediv_of_nonneg h.1, Int.tmod_eq_emod_of_nonneg h.1]
  exact ⟨by omega, rfl⟩
def DI (u n : Int) (s : ByteArray) : Prop := (0 ≤ n∧n ≤ 18446744073709551615)∧Lib.decDigits u.toNat = Lib.decDigits n.toNat ++ s.data.toList∧s.size + (Lib.nDigits n.toNat) ≤ 20
theorem ofI1 (x : Int) : (ofI [x]).size = 1 := rfl
theorem b10 {n : Int} (h : 0 ≤ n) : (IntKind.u8.wrap (IntKind.u64.wrap (48 + Int.tmod n 10))).toNat = 48 + n.toNat % 10 := by
  have h1 : ∀ x : Int, IntKind.u64.wrap x = x % 18446744073709551616 := fun _ => rfl
  have h2 : ∀ x : Int, IntKind.u8.wrap x = x % 256 := fun _ => rfl
  rw [Int.tmod_eq_emod_of_nonneg h, h2, h1]
  omega
theorem dig_app {n : Int} (h : 0 ≤ n) (s : ByteArray) : (ofI [IntKind.u8.wrap (IntKind.u64.wrap (48 + Int.tmod n 10))] ++ s).data.toList = UInt8.ofNat (48 + n.toNat % 10)::s.data.toList := by
  simp [ofI, b10 h]
theorem dec_len {u : Int} (h1 : u ≤ 18446744073709551615) : (ByteArray.empty.size) + Lib.nDigits u.toNat ≤ 20 := by
  have := nDig_le 20 u.toNat (by omega) (by omega)
  show 0 + _ ≤ 20
  omega
theorem div10 {n : Int} (h : 0 ≤ n) : (n / 10).toNat = n.toNat / 10 := by omega
theorem dI_mu {u n : Int} {s : ByteArray} (h : DI u n s) (h10 : (IntKind.u64.wrap (Int.tdiv n 10) == 0) = false) : (IntKind.u64.wrap (Int.tdiv n 10)).toNat < n.toNat := by
  have h2 := ne_of_beq_false h10
  rw [(qn h.1).1] at h2 ⊢
  have := h.1
  omega
theorem dI_step {u n : Int} {s : ByteArray} (h : DI u n s) (h10 : (IntKind.u64.wrap (Int.tdiv n 10) == 0) = false) : DI u (IntKind.u64.wrap (Int.tdiv n 10)) (ofI [IntKind.u8.wrap (IntKind.u64.wrap (48 + Int.tmod n 10))] ++ s) := by
  have h2 := ne_of_beq_false h10
  obtain ⟨h3, h4, h5⟩ := h
  rw [(qn h3).1] at h2 ⊢
  have hn : ¬ n.toNat < 10 := by omega
  refine ⟨by omega, ?_, ?_⟩
  · rw [dig_app h3.1, h4, Lib.decDigits, dif_neg hn, div10 h3.1]
    simp
  · rw [ByteArray.size_append, ofI1, div10 h3.1]
    rw [Lib.nDigits_big hn] at h5
    omega
theorem dI_end {u n : Int} {s : ByteArray} (h : DI u n s) (h10 : (IntKind.u64.wrap (Int.tdiv n 10) == 0) = true) : ofI [IntKind.u8.wrap (IntKind.u64.wrap (48 + Int.tmod n 10))] ++ s = decB u := by
  have h2 := eq_of_beq h10
  obtain ⟨h3, h4, h5⟩ := h
  rw [(qn h3).1] at h2
  have hn : n.toNat < 10 := by omega
  have e : (ofI [IntKind.u8.wrap (IntKind.u64.wrap (48 + Int.tmod n 10))] ++ s).data.toList = (decB u).data.toList := by
    rw [dig_app h3.1, Nat.mod_eq_of_lt hn]
    show _ = Lib.decDigits u.toNat
    rw [h4, Lib.decDigits_one hn];rfl
  exact ByteArray.ext (Array.ext' e)
noncomputable def rdec_ok_L2_inv (u : Int)  : Int×ByteArray×NV → St := fun zx => ⟨(.int .u64 zx.1::undef::(zx.2.2 2)::.string zx.2.1::urun zx.2.2 4 13 []), [], []⟩
def rdec_ok_L2_I (u : Int)  (R : RO) : Int×ByteArray×NV → RO → Prop := fun zx G => G = R∧(DI u zx.1 zx.2.1)
def rdec_ok_L2_mu (u : Int)  : Int×ByteArray×NV → Nat := fun zx => zx.1.toNat
noncomputable def rdec_ok_L2_K (u : Int)  (R : RO) : Exit' → St → RO → Prop := altPost R (.alt (Int×ByteArray×NV) (fun zx => zx.2.1 = decB u) (fun zx => (.ret, ((rdec_ok_L2_inv u zx).up [(2, .string zx.2.1)] []))) (fun _ => .altn) .altn)
theorem rdec_ok_L2_body (u : Int)  (R : RO) (h0 : 0 ≤ u) (h1 : u ≤ 18446744073709551615) (n : Int) (s : ByteArray) (u0 : Nat → Value) (hI : DI u n s) : CT Tryd.prog (sub (bodyOf Tryd.f50) [1, 1, 0, 0]) (rdec_ok_L2_inv u (n, s, u0)) R (LK (rdec_ok_L2_inv u) (rdec_ok_L2_I u R) (rdec_ok_L2_mu u) (rdec_ok_L2_K u R) (n, s, u0)) :=
  CT.of_wp_eq (VC := (let z1 := (IntKind.u64.wrap (Int.tdiv n 10));let z0 := (IntKind.u64.wrap (48 + (Int.tmod n 10)));let z2 := (ofI [IntKind.u8.wrap z0]);∀ a51 : Nat, let z3 : Hp := [some (a51, .row [.int .u8 (IntKind.u8.wrap z0)] 5 1)];(Prim0 Tryd.prog (.cnv 34 9 (slA a51 1 1)) R z3 (.string z2) z3)∧(z2.size + s.size ≤ 9223372036854775807)∧((z1 == 0) = true → LK (rdec_ok_L2_inv u) (rdec_ok_L2_I u R) (rdec_ok_L2_mu u) (rdec_ok_L2_K u R) (n, s, u0) (.ret) ⟨[.int .u64 z1, undef, .string (z2 ++ s), .string (z2 ++ s), .int .u64 n, .int .u64 (Int.tmod n 10), .int .u64 z0, .int .u8 (IntKind.u8.wrap z0), slA a51 1 1, .string z2, .string s, .string (z2 ++ s), .int .u64 n, .int .u64 z1, .int .u64 z1, .bool true, .string (z2 ++ s)], [], z3⟩ R)∧((z1 == 0) = false → LK (rdec_ok_L2_inv u) (rdec_ok_L2_I u R) (rdec_ok_L2_mu u) (rdec_ok_L2_K u R) (n, s, u0) .normal ⟨[.int .u64 z1, undef, (u0 2), .string (z2 ++ s), .int .u64 n, .int .u64 (Int.tmod n 10), .int .u64 z0, .int .u8 (IntKind.u8.wrap z0), slA a51 1 1, .string z2, .string s, .string (z2 ++ s), .int .u64 n, .int .u64 z1, .int .u64 z1, .bool false, (u0 16)], [], z3⟩ R))) (ops [.d, .d, .d, .d] (.opn 0 (fun a51 => (ops [.pr0 [0] [] (fun e v => .string (ofI [IntKind.u8.wrap (IntKind.u64.wrap (48 + (Int.tmod n 10)))])) (fun e v => [some (a51, .row [.int .u8 (IntKind.u8.wrap (IntKind.u64.wrap (48 + (Int.tmod n 10))))] 5 1)]), .d, .cat, .d, .d, .d, .d, .d, .d] (.sp 15 (ops [.d, .d] (.fin [] [])) (.fin [] [])))))) (by kernel_rfl)
    (fun a51 => ⟨(b2s_ok (e := 5) (ns := [IntKind.u8.wrap (IntKind.u64.wrap (48 + (Int.tmod n 10)))]) (by kernel_rfl) (by kernel_rfl) (by kernel_rfl) ⟨rfl, .inr (.inr ⟨_, _, _, rfl, .inl ⟨0, _, _, _, rfl, rfl⟩⟩)⟩ (by simp)), ⟨(by have h9 := hI.2.2;rw [ofI1];omega), ⟨fun h52 => (have := eq_of_beq h52;altA (fun zw => ((IntKind.u64.wrap (Int.tdiv n 10)), ((ofI [IntKind.u8.wrap (IntKind.u64.wrap (48 + (Int.tmod n 10)))]) ++ s), zw)) ⟨(show ((ofI [IntKind.u8.wrap (IntKind.u64.wrap (48 + (Int.tmod n 10)))]) ++ s) = decB u from (dI_end hI h52)), (by show _ = _;kernel_rfl), ⟨(by show _ = _;kernel_rfl), (by show _ = _;kernel_rfl), (by show _ = _;kernel_rfl)⟩⟩), fun h52 => (have := ne_of_beq_false h52;LKn (fun zw => ((IntKind.u64.wrap (Int.tdiv n 10)), ((ofI [IntKind.u8.wrap (IntKind.u64.wrap (48 + (Int.tmod n 10)))]) ++ s), zw)) ⟨⟨rfl, (show DI u (IntKind.u64.wrap (Int.tdiv n 10)) ((ofI [IntKind.u8.wrap (IntKind.u64.wrap (48 + (Int.tmod n 10)))]) ++ s) from (dI_step hI h52))⟩, (show (IntKind.u64.wrap (Int.tdiv n 10)).toNat < n.toNat from (dI_mu hI h52)), ⟨rfl, rfl, rfl⟩⟩)⟩⟩⟩)
theorem rdec_ok_L2_ct (u : Int)  (R : RO) (h0 : 0 ≤ u) (h1 : u ≤ 18446744073709551615)  : CT Tryd.prog (sub (bodyOf Tryd.f50) [1, 1, 0]) ⟨(.int .u64 u::undef::.string ByteArray.empty::.string ByteArray.empty::uns 13 []), [], []⟩ R (rdec_ok_L2_K u R) :=
  CT.loop_eqs (rdec_ok_L2_inv u) (rdec_ok_L2_I u R) (rdec_ok_L2_mu u) (fun zw => (u, ByteArray.empty, zw)) (by kernel_rfl) (by kernel_rfl) ⟨rfl, (show DI u u ByteArray.empty from ⟨⟨h0, h1⟩, by simp, dec_len h1⟩)⟩
    (by
      rintro ⟨n, s, u0⟩ G hG ⟨rfl, hI⟩
      exact rdec_ok_L2_body u _ h0 h1 n s u0 hI)
theorem rdec_ok (u : Int) (R : RO) (h0 : 0 ≤ u) (h1 : u ≤ 18446744073709551615) : Gives Tryd.prog 50 [.int .u64 u] R [] (.ret (.string (decB u))) [] :=
  Does.of_wp_eq (VC := ((CT Tryd.prog (sub (bodyOf Tryd.f50) [1, 1, 0]) ⟨(.int .u64 u::undef::.string ByteArray.empty::.string ByteArray.empty::uns 13 []), [], []⟩ R (rdec_ok_L2_K u R))∧(∀ x1 : Int×ByteArray×NV, (x1.2.1 = decB u) → GQ R (.ret (.string (decB u))) [] (.ret (.string x1.2.1)) R [])∧True)) (ops [.d, .d] (.alt (Int×ByteArray×NV) (fun zx => zx.2.1 = decB u) (fun zx => (.ret, ((rdec_ok_L2_inv u zx).up [(2, .string zx.2.1)] []))) (fun x1 => (.fin [] [])) .altn)) Tryd.func50 (by kernel_rfl) (by kernel_rfl)
    (⟨rdec_ok_L2_ct u R h0 h1, ⟨fun x1 qx1 => ⟨rfl, (by simp [*]), (by rfl)⟩, trivial⟩⟩)
theorem ito_neg {n : Int} (h : n < 0) : (⟨#[45]⟩ : ByteArray) ++ decB (-n) = itoB n := by
  refine ByteArray.ext (Array.ext' ?_)
  unfold itoB Lib.itoa decB
  rw [if_pos h]
  have : (-n).toNat = n.natAbs := by omega
  rw [this];simp
theorem ito_pos {n : Int} (h : ¬ n < 0) : decB n = itoB n := by unfold itoB Lib.itoa decB;rw [if_neg h]
theorem decB_len {u : Int} (h1 : u ≤ 18446744073709551615) : (decB u).size ≤ 20 := by
  have := nDig_le 20 u.toNat (by omega) (by omega)
  show (Lib.decDigits u.toNat).toArray.size ≤ 20
  rw [List.size_toArray, Lib.decDigits_length];exact this
theorem negw {n : Int} (h : -9223372036854775808 ≤ n) (h2 : n < 0) : IntKind.u64.wrap ((IntKind.u64.wrap (IntKind.i64.wrap (0 - (IntKind.i64.wrap (n + 1))))) + 1) = -n := by
  have e1 : ∀ x : Int, IntKind.u64.wrap x = x % 18446744073709551616 := fun _ => rfl
  rw [wrapI (n := n + 1) (by omega) (by omega), wrapI (by omega) (by omega), e1, e1]
  omega
theorem posw {n : Int} (h : n ≤ 9223372036854775807) (h2 : ¬ n < 0) : IntKind.u64.wrap n = n := by
  have e1 : ∀ x : Int, IntKind.u64.wrap x = x % 18446744073709551616 := fun _ => rfl
  rw [e1];omega
theorem rDec_ok (n : Int) (R : RO) (h6 : -9223372036854775808 ≤ n) (h7 : n ≤ 9223372036854775807) : Gives Tryd.prog 33 [vi n] R [] (.ret (.string (itoB n))) [] :=
  Does.of_wp_eq (VC := (((decide (n < 0)) = true → (Gives Tryd.prog 50 [.int .u64 (IntKind.u64.wrap ((IntKind.u64.wrap (IntKind.i64.wrap (0 - (IntKind.i64.wrap (n + 1))))) + 1))] R [] (.ret (.string (decB (IntKind.u64.wrap ((IntKind.u64.wrap (IntKind.i64.wrap (0 - (IntKind.i64.wrap (n + 1))))) + 1))))) [])∧((⟨#[45]⟩ : ByteArray).size + (decB (IntKind.u64.wrap ((IntKind.u64.wrap (IntKind.i64.wrap (0 - (IntKind.i64.wrap (n + 1))))) + 1))).size ≤ 9223372036854775807)∧GQ R (.ret (.string (itoB n))) [] (.ret (.string ((⟨#[45]⟩ : ByteArray) ++ (decB (IntKind.u64.wrap ((IntKind.u64.wrap (IntKind.i64.wrap (0 - (IntKind.i64.wrap (n + 1))))) + 1)))))) R [])∧((decide (n < 0)) = false → (Gives Tryd.prog 50 [.int .u64 (IntKind.u64.wrap n)] R [] (.ret (.string (decB (IntKind.u64.wrap n)))) [])∧GQ R (.ret (.string (itoB n))) [] (.ret (.string (decB (IntKind.u64.wrap n)))) R []))) (ops [.d, .d, .d] (.sp 4 (ops [.d, .d, .d, .d, .d, .call0 [] [] (fun e v => .ret (.string (decB (IntKind.u64.wrap ((IntKind.u64.wrap (IntKind.i64.wrap (0 - (IntKind.i64.wrap (n + 1))))) + 1))))) (fun e v => []), .cat, .d] (.fin [] [])) (ops [.d, .d, .call0 [] [] (fun e v => .ret (.string (decB (IntKind.u64.wrap n)))) (fun e v => []), .d] (.fin [] [])))) Tryd.func33 (by kernel_rfl) (by kernel_rfl)
    (⟨fun h0 => (have := of_decide_eq_true h0;⟨(rdec_ok (IntKind.u64.wrap ((IntKind.u64.wrap (IntKind.i64.wrap (0 - (IntKind.i64.wrap (n + 1))))) + 1)) R (by rw [(negw h6 (of_decide_eq_true h0))];omega) (by rw [(negw h6 (of_decide_eq_true h0))];omega)), ⟨(by rw [negw h6 (of_decide_eq_true h0)];have h9 := decB_len (u := -n) (by omega);have h8 : (⟨#[45]⟩ : ByteArray).size = 1 := rfl;omega), ⟨rfl, (by rw [negw h6 (of_decide_eq_true h0), ito_neg (of_decide_eq_true h0)]), (by rfl)⟩⟩⟩), fun h0 => (have := of_decide_eq_false h0;⟨(rdec_ok (IntKind.u64.wrap n) R (by rw [(posw h7 (of_decide_eq_false h0))];omega) (by rw [(posw h7 (of_decide_eq_false h0))];omega)), ⟨rfl, (by rw [posw h7 (of_decide_eq_false h0), ito_pos (of_decide_eq_false h0)]), (by rfl)⟩⟩)⟩)
def qH (s : ByteArray) (j : Nat) : ByteArray := ⟨(34::hexL (s.data.toList.take j)).toArray⟩
theorem qd (s : ByteArray) (i : Int) : (0 ≤ IntKind.i64.wrap (Int.tdiv (bt s i) 16)∧IntKind.i64.wrap (Int.tdiv (bt s i) 16) ≤ 15)∧0 ≤ Int.tmod (bt s i) 16∧Int.tmod (bt s i) 16 ≤ 15 := by
  have h := bt_bd s i
  rw [Int.tdiv_eq_ediv_of_nonneg h.1, Int.tmod_eq_emod_of_nonneg h.1, wrapI (by omega) (by omega)]
  omega
theorem dg16 : (⟨#[48, 49, 50, 51, 52, 53, 54, 55, 56, 57, 97, 98, 99, 100, 101, 102]⟩ : ByteArray).size = 16 := rfl
theorem ex_sz (a b : Nat) : ((⟨#[48, 49, 50, 51, 52, 53, 54, 55, 56, 57, 97, 98, 99, 100, 101, 102]⟩ : ByteArray).extract a b).size ≤ 16 := by rw [ByteArray.size_extract, dg16];omega
theorem ex1 {a : Int} (h : 0 ≤ a) (h2 : a ≤ 15) : (⟨#[48, 49, 50, 51, 52, 53, 54, 55, 56, 57, 97, 98, 99, 100, 101, 102]⟩ : ByteArray).extract a.toNat (a + 1).toNat = ⟨#[digB a.toNat]⟩ := by
  have h0 : ∀ k : Fin 16, ((⟨#[48, 49, 50, 51, 52, 53, 54, 55, 56, 57, 97, 98, 99, 100, 101, 102]⟩ : ByteArray).extract k.1 (k.1 + 1)).data = #[digB k.1] := by decide +kernel
  have h1 := h0 ⟨a.toNat, by omega⟩
  rw [show (a + 1).toNat = a.toNat + 1 by omega]
  exact ByteArray.ext h1
theorem data_len (s : ByteArray) : s.data.toList.length = s.size := Array.length_toList
theorem qH_size {s : ByteArray} {j : Nat} (h : j ≤ s.size) : (qH s j).size = 1 + 2 * j := by
  show (34::hexL (s.data.toList.take j)).toArray.size = _
  rw [List.size_toArray, List.length_cons, hexL_len, List.length_take]
  have := data_len s
  omega
theorem q_step {s : ByteArray} {j : Nat} (h : j < s.size) : (qH s j ++ (⟨#[48, 49, 50, 51, 52, 53, 54, 55, 56, 57, 97, 98, 99, 100, 101, 102]⟩ : ByteArray).extract (IntKind.i64.wrap (Int.tdiv (bt s (j : Int)) 16)).toNat ((IntKind.i64.wrap (Int.tdiv (bt s (j : Int)) 16)) + 1).toNat) ++ (⟨#[48, 49, 50, 51, 52, 53, 54, 55, 56, 57, 97, 98, 99, 100, 101, 102]⟩ : ByteArray).extract (Int.tmod (bt s (j : Int)) 16).toNat ((Int.tmod (bt s (j : Int)) 16) + 1).toNat = qH s (j + 1) := by
  have hd := qd s (j : Int)
  have hb := bt_bd s (j : Int)
  rw [ex1 hd.1.1 hd.1.2, ex1 hd.2.1 hd.2.2]
  have hl : j < s.data.toList.length := by rw [data_len];exact h
  have e : bt s (j : Int) = ((s.data.toList[j]'hl).toNat : Int) := by
    unfold bt
    rw [show ((j : Int)).toNat = j by omega, Array.getElem?_eq_getElem (by simpa using hl)]
    simp
  refine ByteArray.ext (Array.ext' ?_)
  unfold qH
  rw [hexL_take _ _ hl]
  have e1 : (IntKind.i64.wrap (Int.tdiv (bt s (j : Int)) 16)).toNat = (s.data.toList[j]'hl).toNat / 16 := by
    rw [Int.tdiv_eq_ediv_of_nonneg hb.1, wrapI (by omega) (by omega), e];omega
  have e2 : (Int.tmod (bt s (j : Int)) 16).toNat = (s.data.toList[j]'hl).toNat % 16 := by
    rw [Int.tmod_eq_emod_of_nonneg hb.1, e];omega
  rw [e1, e2]
  simp
theorem q_end {s : ByteArray} : qH s s.size ++ (⟨#[34]⟩ : ByteArray) = quotB s := by
  have h : s.data.toList.take s.size = s.data.toList := List.take_of_length_le (Nat.le_of_eq (data_len s))
  unfold qH quotB hexB
  rw [h]
  refine ByteArray.ext (Array.ext' ?_)
  simp
noncomputable def rquoted_ok_L3_inv (s : ByteArray)  : Nat×ByteArray×NV → St := fun zx => ⟨(.string s::undef::.string ByteArray.empty::.string zx.2.1::vi ((zx.1 : Nat) : Int)::urun zx.2.2 5 29 (undef::undef::[])), [], []⟩
def rquoted_ok_L3_I (s : ByteArray)  (R : RO) : Nat×ByteArray×NV → RO → Prop := fun zx G => G = R∧(zx.1 ≤ s.size∧zx.2.1 = qH s zx.1)
def rquoted_ok_L3_mu (s : ByteArray)  : Nat×ByteArray×NV → Nat := fun zx => s.size - zx.1
noncomputable def rquoted_ok_L3_K (s : ByteArray)  (R : RO) : Exit' → St → RO → Prop := altPost R (.alt (Nat×ByteArray×NV) (fun zx => zx.2.1 = qH s s.size) (fun zx => (.exit 0, ((rquoted_ok_L3_inv s zx).up [] []))) (fun _ => .altn) .altn)
theorem rquoted_ok_L3_body (s : ByteArray)  (R : RO) (hs : s.size ≤ 1000000) (j : Nat) (qo : ByteArray) (u0 : Nat → Value) (hI : j ≤ s.size∧qo = qH s j) : CT Tryd.prog (sub (bodyOf Tryd.f34) [1, 1, 0, 1, 0, 0]) (rquoted_ok_L3_inv s (j, qo, u0)) R (LK (rquoted_ok_L3_inv s) (rquoted_ok_L3_I s R) (rquoted_ok_L3_mu s) (rquoted_ok_L3_K s R) (j, qo, u0)) :=
  CT.of_wp_eq (VC := (let z6 := ((0 : Int) ≤ (j : Int)∧((j : Int) : Int) < (s.size : Int));let z2 := (⟨#[48, 49, 50, 51, 52, 53, 54, 55, 56, 57, 97, 98, 99, 100, 101, 102]⟩ : ByteArray);let z1 := (bt s (j : Int));let z5 := ((Int.tmod z1 16) + 1);let z4 := (z2.extract (Int.tmod z1 16).toNat z5.toNat);let z3 := (IntKind.i64.wrap (Int.tdiv z1 16));let z0 := (z2.extract z3.toNat (z3 + 1).toNat);((decide ((j : Int) < (s.size : Int))) = true → z6∧(IntKind.i64.wrap z1 = z1)∧z6∧(IntKind.i64.wrap z1 = z1)∧(NW .i64 (z3 + 1))∧((0 : Int) ≤ z3∧(z3 : Int) ≤ (z3 + 1)∧((z3 + 1) : Int) ≤ (z2.size : Int))∧(qo.size + z0.size ≤ 9223372036854775807)∧(NW .i64 z5)∧((0 : Int) ≤ (Int.tmod z1 16)∧((Int.tmod z1 16) : Int) ≤ z5∧(z5 : Int) ≤ (z2.size : Int))∧((qo ++ z0).size + z4.size ≤ 9223372036854775807)∧(NW .i64 ((j : Int) + 1))∧LK (rquoted_ok_L3_inv s) (rquoted_ok_L3_I s R) (rquoted_ok_L3_mu s) (rquoted_ok_L3_K s R) (j, qo, u0) .normal ⟨[.string s, undef, .string ByteArray.empty, .string ((qo ++ z0) ++ z4), vi ((j : Int) + 1), vi z3, vi (Int.tmod z1 16), vi (j : Int), .string s, vi (s.size : Int), .bool true, vi (j : Int), vi ((j : Int) + 1), .string s, vi (j : Int), .int .u8 z1, vi z1, vi z3, .string s, vi (j : Int), .int .u8 z1, vi z1, vi (Int.tmod z1 16), .string qo, vi z3, vi z3, vi (z3 + 1), .string z0, .string (qo ++ z0), vi (Int.tmod z1 16), vi (Int.tmod z1 16), vi z5, .string z4, .string ((qo ++ z0) ++ z4), undef, undef], [], []⟩ R)∧((decide ((j : Int) < (s.size : Int))) = false → LK (rquoted_ok_L3_inv s) (rquoted_ok_L3_I s R) (rquoted_ok_L3_mu s) (rquoted_ok_L3_K s R) (j, qo, u0) (.exit 0) ((rquoted_ok_L3_inv s (j, qo, u0)).up [(7, vi (j : Int)), (8, .string s), (9, vi (s.size : Int)), (10, .bool false)] []) R))) (ops [.d, .d, .d, .d] (.sp 10 (.dr [some (.d), some (.d), some (.ix), some (.nw), some (.d), some (.d), some (.d), some (.ix), some (.nw), some (.d), some (.d), some (.d)] (.dr [some (.d), some (.d), some (.d), some (.nw), some (.ss), some (.cat), some (.d), some (.d), some (.nw), some (.ss), some (.cat), some (.d)] (ops [.d, .nw, .d] (.fin [] [])))) (.fin [] []))) (by kernel_rfl)
    (⟨fun h51 => (have := of_decide_eq_true h51;⟨(by have h9 := qd s j;have h8 := dg16;omega), ⟨(wrapI (by have h9 := bt_bd s (j : Int);omega) (by have h9 := bt_bd s (j : Int);omega)), ⟨(by have h9 := qd s j;have h8 := dg16;omega), ⟨(wrapI (by have h9 := bt_bd s (j : Int);omega) (by have h9 := bt_bd s (j : Int);omega)), ⟨(nwI (by have h9 := qd s j;omega) (by have h9 := qd s j;omega)), ⟨(by have h9 := qd s j;have h8 := dg16;omega), ⟨(by have h7 := ex_sz (IntKind.i64.wrap (Int.tdiv (bt s (j : Int)) 16)).toNat ((IntKind.i64.wrap (Int.tdiv (bt s (j : Int)) 16)) + 1).toNat;have h6 := ex_sz (Int.tmod (bt s (j : Int)) 16).toNat ((Int.tmod (bt s (j : Int)) 16) + 1).toNat;have h5 := qH_size hI.1;rw [← hI.2] at h5;omega), ⟨(nwI (by have h9 := qd s j;omega) (by have h9 := qd s j;omega)), ⟨(by have h9 := qd s j;have h8 := dg16;omega), ⟨(by rw [ByteArray.size_append];have h7 := ex_sz (IntKind.i64.wrap (Int.tdiv (bt s (j : Int)) 16)).toNat ((IntKind.i64.wrap (Int.tdiv (bt s (j : Int)) 16)) + 1).toNat;have h6 := ex_sz (Int.tmod (bt s (j : Int)) 16).toNat ((Int.tmod (bt s (j : Int)) 16) + 1).toNat;have h5 := qH_size hI.1;rw [← hI.2] at h5;omega), ⟨(nwI (by have h9 := qd s j;omega) (by have h9 := qd s j;omega)), LKn (fun zw => ((j + 1), ((qo ++ ((⟨#[48, 49, 50, 51, 52, 53, 54, 55, 56, 57, 97, 98, 99, 100, 101, 102]⟩ : ByteArray).extract (IntKind.i64.wrap (Int.tdiv (bt s (j : Int)) 16)).toNat ((IntKind.i64.wrap (Int.tdiv (bt s (j : Int)) 16)) + 1).toNat)) ++ ((⟨#[48, 49, 50, 51, 52, 53, 54, 55, 56, 57, 97, 98, 99, 100, 101, 102]⟩ : ByteArray).extract (Int.tmod (bt s (j : Int)) 16).toNat ((Int.tmod (bt s (j : Int)) 16) + 1).toNat)), zw)) ⟨⟨rfl, (show (j + 1) ≤ s.size∧((qo ++ ((⟨#[48, 49, 50, 51, 52, 53, 54, 55, 56, 57, 97, 98, 99, 100, 101, 102]⟩ : ByteArray).extract (IntKind.i64.wrap (Int.tdiv (bt s (j : Int)) 16)).toNat ((IntKind.i64.wrap (Int.tdiv (bt s (j : Int)) 16)) + 1).toNat)) ++ ((⟨#[48, 49, 50, 51, 52, 53, 54, 55, 56, 57, 97, 98, 99, 100, 101, 102]⟩ : ByteArray).extract (Int.tmod (bt s (j : Int)) 16).toNat ((Int.tmod (bt s (j : Int)) 16) + 1).toNat)) = qH s (j + 1) from ⟨by omega, by rw [hI.2];exact q_step (by omega)⟩)⟩, (show s.size - (j + 1) < s.size - j from (by omega)), ⟨rfl, rfl, rfl⟩⟩⟩⟩⟩⟩⟩⟩⟩⟩⟩⟩⟩), fun h51 => (have := of_decide_eq_false h51;altA (fun zw => (j, qo, zw)) ⟨(show qo = qH s s.size from (by rw [hI.2, show j = s.size by omega])), (by show _ = _;kernel_rfl), ⟨(by show _ = _;kernel_rfl), (by show _ = _;kernel_rfl), (by show _ = _;kernel_rfl)⟩⟩)⟩)
theorem rquoted_ok_L3_ct (s : ByteArray)  (R : RO) (hs : s.size ≤ 1000000)  : CT Tryd.prog (sub (bodyOf Tryd.f34) [1, 1, 0, 1, 0]) ⟨(.string s::undef::.string ByteArray.empty::.string (⟨#[34]⟩ : ByteArray)::vi 0::uns 31 []), [], []⟩ R (rquoted_ok_L3_K s R) :=
  CT.loop_eqs (rquoted_ok_L3_inv s) (rquoted_ok_L3_I s R) (rquoted_ok_L3_mu s) (fun zw => (0, (⟨#[34]⟩ : ByteArray), zw)) (by kernel_rfl) (by kernel_rfl) ⟨rfl, (show 0 ≤ s.size∧(⟨#[34]⟩ : ByteArray) = qH s 0 from ⟨Nat.zero_le _, rfl⟩)⟩
    (by
      rintro ⟨j, qo, u0⟩ G hG ⟨rfl, hI⟩
      exact rquoted_ok_L3_body s _ hs j qo u0 hI)
theorem rquoted_ok (s : ByteArray) (R : RO) (hs : s.size ≤ 1000000) : Gives Tryd.prog 34 [.string s] R [] (.ret (.string (quotB s))) [] :=
  Does.of_wp_eq (VC := ((CT Tryd.prog (sub (bodyOf Tryd.f34) [1, 1, 0, 1, 0]) ⟨(.string s::undef::.string ByteArray.empty::.string (⟨#[34]⟩ : ByteArray)::vi 0::uns 31 []), [], []⟩ R (rquoted_ok_L3_K s R))∧(∀ x1 : Nat×ByteArray×NV, (x1.2.1 = qH s s.size) → (x1.2.1.size + (⟨#[34]⟩ : ByteArray).size ≤ 9223372036854775807)∧GQ R (.ret (.string (quotB s))) [] (.ret (.string (x1.2.1 ++ (⟨#[34]⟩ : ByteArray)))) R [])∧True)) (ops [.d, .d, .d] (.alt (Nat×ByteArray×NV) (fun zx => zx.2.1 = qH s s.size) (fun zx => (.exit 0, ((rquoted_ok_L3_inv s zx).up [] []))) (fun x1 => (ops [.d, .cat, .d] (.fin [] []))) .altn)) Tryd.func34 (by kernel_rfl) (by kernel_rfl)
    (⟨rquoted_ok_L3_ct s R hs, ⟨fun x1 qx1 => ⟨(by rw [qx1, qH_size (Nat.le_refl _)];have h8 : (⟨#[34]⟩ : ByteArray).size = 1 := rfl;omega), ⟨rfl, (by rw [qx1, q_end]), (by rfl)⟩⟩, trivial⟩⟩)
theorem rjoin_snoc (l : List ByteArray) (x : ByteArray) (h : 0 < l.length) : joinC (l ++ [x]) = joinC l ++ (⟨#[44]⟩ : ByteArray) ++ x := by
  refine ByteArray.ext (Array.ext' ?_)
  unfold joinC
  cases l with
  | nil => exact absurd h (Nat.lt_irrefl 0)
  | cons a l =>
    rw [List.cons_append, List.map_cons, Lib.join_cons, List.map_cons, Lib.join_cons]
    simp [Lib.joinTail]
theorem rjoin_one (x : ByteArray) : joinC [x] = x := by
  refine ByteArray.ext (Array.ext' ?_)
  unfold joinC
  rw [List.map_singleton, Lib.join_one]
theorem rjoin_nil : joinC [] = ByteArray.empty := rfl
noncomputable def rjH (y : L) (j : Nat) : ByteArray := quotB y.s ++ (⟨#[40]⟩ : ByteArray) ++ joinC ((List.range j).map fun i => T.txt (y.kid i).t)
theorem rjH_zero (y : L) : quotB y.s ++ (⟨#[40]⟩ : ByteArray) = rjH y 0 := by
  unfold rjH
  rw [show (List.range 0).map (fun i => T.txt (y.kid i).t) = [] from rfl, rjoin_nil]
  simp
theorem rjH_first (y : L) : rjH y 0 ++ T.txt (y.kid 0).t = rjH y 1 := by
  rw [← rjH_zero];unfold rjH
  rw [show (List.range 1).map (fun i => T.txt (y.kid i).t) = [T.txt (y.kid 0).t] from rfl, rjoin_one]
theorem rjH_step (y : L) {j : Nat} (h : 0 < j) : rjH y j ++ (⟨#[44]⟩ : ByteArray) ++ T.txt (y.kid j).t = rjH y (j + 1) := by
  unfold rjH
  rw [List.range_succ, List.map_append, List.map_singleton, rjoin_snoc _ _ (by simpa using h)]
  simp [ByteArray.append_assoc]
theorem sum_mono (f : Nat → Nat) {j n : Nat} (h : j ≤ n) : ((List.range j).map f).sum ≤ ((List.range n).map f).sum := by
  induction h with
  | refl => exact Nat.le_refl _
  | step _ ih => rw [List.range_succ, List.map_append, List.sum_append];omega
theorem rjH_len {y : L} (h : y.t.good) {j : Nat} (hj : j ≤ y.n) : (rjH y j).size + 1 ≤ y.t.wt∧(j < y.n → (rjH y j).size + (T.txt (y.kid j).t).size + 2 ≤ y.t.wt) := by
  have h1 := T.joinC_size ((List.range j).map fun i => T.txt (y.kid i).t)
  have h2 := T.txtL_size ((List.range y.n).map fun j => (y.kid j).t) ((T.goodL_iff _).2 fun t ht => by
    obtain ⟨j, hj, rfl⟩ := List.mem_map.1 ht
    exact ((L.good_eq y).1 h).2.2.2 j (List.mem_range.1 hj))
  rw [L.txt_xs, List.map_map] at h2
  rw [List.map_map] at h1
  have h3 := L.wt_eq y
  have h4 := quotB_size y.s
  have h5 : (rjH y j).size = (quotB y.s).size + 1 + (joinC ((List.range j).map fun i => T.txt (y.kid i).t)).size := by
    unfold rjH;rw [ByteArray.size_append, ByteArray.size_append];rfl
  have h6 := sum_mono ((fun s : ByteArray => s.size + 1) ∘ fun j => T.txt (y.kid j).t) hj
  refine ⟨by omega, fun hlt => ?_⟩
  have h7 := sum_mono ((fun s : ByteArray => s.size + 1) ∘ fun j => T.txt (y.kid j).t) (Nat.succ_le_of_lt hlt)
  rw [List.range_succ, List.map_append, List.sum_append] at h7
  have h8 : (([j].map ((fun s : ByteArray => s.size + 1) ∘ fun j => T.txt (y.kid j).t)) : List Nat).sum = (T.txt (y.kid j).t).size + 1 := by simp
  omega
theorem rpow_step {y : L} {j : Nat} (s : ByteArray) (h : ¬ (y.pw j).1 < 0) : s ++ (⟨#[94]⟩ : ByteArray) ++ itoB (y.pw j).1 ++ (⟨#[58]⟩ : ByteArray) ++ itoB (y.pw j).2 = s ++ T.powB (y.pw j) := by
  unfold T.powB;rw [ito_pos h];simp [ByteArray.append_assoc]
noncomputable def rtext_own_L8_inv (y : L) (a0 : Nat)  : Nat×ByteArray×NV → St := fun zx => ⟨(.agg y.row.toArray::ptA a0::.string ByteArray.empty::.string zx.2.1::(zx.2.2 4)::(zx.2.2 5)::undef::undef::undef::ptA a0::vi y.k::.bool false::uns 5 (ptA a0::vi y.k::.bool false::undef::undef::undef::ptA a0::vi y.k::.bool true::(ptO a0 (2))::.string y.s::.string (quotB y.s)::.string ((quotB y.s) ++ (⟨#[40]⟩ : ByteArray))::(ptO a0 (3))::.slice y.aa y.n y.ac::vi (y.n : Int)::vi ((zx.1 : Nat) : Int)::urun zx.2.2 34 13 (uns 28 []))), [], [some (a0, .row y.row 47 5)]⟩
def rtext_own_L8_I (y : L) (a0 : Nat)  (R : RO) : Nat×ByteArray×NV → RO → Prop := fun zx G => G = R∧(zx.1 ≤ y.n∧zx.2.1 = rjH y zx.1)
def rtext_own_L8_mu (y : L) (a0 : Nat)  : Nat×ByteArray×NV → Nat := fun zx => y.n - zx.1
noncomputable def rtext_own_L8_K (y : L) (a0 : Nat)  (R : RO) : Exit' → St → RO → Prop := altPost R (.alt (Nat×ByteArray×NV) (fun zx => zx.1 = y.n∧zx.2.1 = rjH y y.n) (fun zx => (.exit 0, ((rtext_own_L8_inv y a0 zx).up [] [some (a0, .row y.row 47 5)]))) (fun _ => .altn) .altn)
theorem rtext_own_L8_body (y : L) (a0 : Nat)  (R : RO) (hrec : ∀ (j : Nat) (R : RO), y.ok R → j < y.n → Gives Tryd.prog 20 [(y.kid j).v] R [] (.ret (.string (T.txt (y.kid j).t))) []) (hy : y.ok R) (hg : y.t.good) (hw : y.t.wt ≤ 1000000) (j : Nat) (s3 : ByteArray) (u4 : Nat → Value) (hI : j ≤ y.n∧s3 = rjH y j) : CT Tryd.prog (sub (bodyOf Tryd.f20) [1, 1, 1, 0, 1, 0, 1, 0, 1, 0, 0]) (rtext_own_L8_inv y a0 (j, s3, u4)) R (LK (rtext_own_L8_inv y a0) (rtext_own_L8_I y a0 R) (rtext_own_L8_mu y a0) (rtext_own_L8_K y a0 R) (j, s3, u4)) :=
  CT.of_wp_eq (VC := (let z6 := (rtext_own_L8_inv y a0 (j, s3, u4));let z4 := ((j : Int) + 1);let z3 := (s3 ++ (⟨#[44]⟩ : ByteArray));let z2 : List Value := y.row;let z1 : List Value := [vi ((y.kid j).k), vu ((y.kid j).id), .string ((y.kid j).s), .slice (y.kid j).aa ((y.kid j).n) ((y.kid j).ac), .slice (y.kid j).pa ((y.kid j).m) ((y.kid j).pc)];let z0 : Array Value := #[vi ((y.kid j).k), vu ((y.kid j).id), .string ((y.kid j).s), .slice (y.kid j).aa ((y.kid j).n) ((y.kid j).ac), .slice (y.kid j).pa ((y.kid j).m) ((y.kid j).pc)];let z5 := (Gives Tryd.prog 20 [.agg z0] R [] (.ret (.string (T.txt (y.kid j).t))) []);((decide ((j : Int) < (y.n : Int))) = true → (y.aa = some ⟨y.AB, y.AO, none⟩∧(0 : Int) ≤ (j : Int)∧((j : Int) : Int) < (y.n : Int))∧(R.cells y.AB (y.AO + Int.toNat (j : Int) * 5) z1)∧∀ a56 : Nat, (a56 = a56)∧((decide ((j : Int) > 0)) = true → (s3.size + (⟨#[44]⟩ : ByteArray).size ≤ 9223372036854775807)∧(a56 = a56)∧z5∧(z3.size + (T.txt (y.kid j).t).size ≤ 9223372036854775807)∧(NW .i64 z4)∧LK (rtext_own_L8_inv y a0) (rtext_own_L8_I y a0 R) (rtext_own_L8_mu y a0) (rtext_own_L8_K y a0 R) (j, s3, u4) .normal (z6.up [(3, .string (z3 ++ (T.txt (y.kid j).t))), (4, vi (j : Int)), (5, ptA a56), (33, vi z4), (34, .bool true), (35, vi (j : Int)), (36, (ptO y.AB (y.AO + Int.toNat (j : Int) * 5))), (37, .agg z0), (38, vi (j : Int)), (39, .bool true), (40, .string s3), (41, .string z3), (42, .string z3), (43, .agg z0), (44, .string (T.txt (y.kid j).t)), (45, .string (z3 ++ (T.txt (y.kid j).t))), (46, vi z4)] [some (a0, .row z2 47 5), some (a56, .row z1 47 5)]) R)∧((decide ((j : Int) > 0)) = false → (a56 = a56)∧z5∧(s3.size + (T.txt (y.kid j).t).size ≤ 9223372036854775807)∧(NW .i64 z4)∧LK (rtext_own_L8_inv y a0) (rtext_own_L8_I y a0 R) (rtext_own_L8_mu y a0) (rtext_own_L8_K y a0 R) (j, s3, u4) .normal (z6.up [(3, .string (s3 ++ (T.txt (y.kid j).t))), (4, vi (j : Int)), (5, ptA a56), (33, vi z4), (34, .bool true), (35, vi (j : Int)), (36, (ptO y.AB (y.AO + Int.toNat (j : Int) * 5))), (37, .agg z0), (38, vi (j : Int)), (39, .bool false), (42, .string s3), (43, .agg z0), (44, .string (T.txt (y.kid j).t)), (45, .string (s3 ++ (T.txt (y.kid j).t))), (46, vi z4)] [some (a0, .row z2 47 5), some (a56, .row z1 47 5)]) R))∧((decide ((j : Int) < (y.n : Int))) = false → LK (rtext_own_L8_inv y a0) (rtext_own_L8_I y a0 R) (rtext_own_L8_mu y a0) (rtext_own_L8_K y a0 R) (j, s3, u4) (.exit 0) (z6.up [(34, .bool false)] [some (a0, .row z2 47 5)]) R))) (ops [.d] (.sp 34 (ops [.d, .ib y.AB y.AO, .ro (fun v => [vi ((y.kid j).k), vu ((y.kid j).id), .string ((y.kid j).s), .slice (y.kid j).aa ((y.kid j).n) ((y.kid j).ac), .slice (y.kid j).pa ((y.kid j).m) ((y.kid j).pc)])] (.opn 1 (fun a56 => (ops [.d, .p 1, .d, .d] (.sp 39 (ops [.d, .cat, .d, .d, .p 1, .call0 [] [] (fun e v => .ret (.string (T.txt (y.kid j).t))) (fun e v => []), .cat, .d, .nw, .d] (.fin [] [])) (ops [.d, .p 1, .call0 [] [] (fun e v => .ret (.string (T.txt (y.kid j).t))) (fun e v => []), .cat, .d, .nw, .d] (.fin [] []))))))) (.fin [] []))) (by kernel_rfl)
    (⟨fun h55 => (have := of_decide_eq_true h55;⟨⟨(hy.arg (j := j) (by omega)).1, by omega, by omega⟩, ⟨(hy.arg (j := j) (by omega)).2, fun a56 => ⟨rfl, ⟨fun h57 => (have := of_decide_eq_true h57;⟨(by have c1 : (⟨#[35]⟩ : ByteArray).size = 1 := rfl;have c2 : (⟨#[40]⟩ : ByteArray).size = 1 := rfl;have c3 : (⟨#[41]⟩ : ByteArray).size = 1 := rfl;have c4 : (⟨#[94]⟩ : ByteArray).size = 1 := rfl;have c5 : (⟨#[58]⟩ : ByteArray).size = 1 := rfl;have c6 : (⟨#[44]⟩ : ByteArray).size = 1 := rfl;have c7 : (⟨#[45]⟩ : ByteArray).size = 1 := rfl;have d8 := rjH_len hg hI.1;have d7 : s3.size = _ := congrArg ByteArray.size hI.2;have d9 := d8.2 (by omega);(try simp only [ByteArray.size_append]);omega), ⟨rfl, ⟨(hrec j R hy (by omega)), ⟨(by have c1 : (⟨#[35]⟩ : ByteArray).size = 1 := rfl;have c2 : (⟨#[40]⟩ : ByteArray).size = 1 := rfl;have c3 : (⟨#[41]⟩ : ByteArray).size = 1 := rfl;have c4 : (⟨#[94]⟩ : ByteArray).size = 1 := rfl;have c5 : (⟨#[58]⟩ : ByteArray).size = 1 := rfl;have c6 : (⟨#[44]⟩ : ByteArray).size = 1 := rfl;have c7 : (⟨#[45]⟩ : ByteArray).size = 1 := rfl;have d8 := rjH_len hg hI.1;have d7 : s3.size = _ := congrArg ByteArray.size hI.2;have d9 := d8.2 (by omega);(try simp only [ByteArray.size_append]);omega), ⟨(nwI (by omega) (by have h9 := L.wt_n y;have h8 := L.wt_m y;omega)), LKn (fun zw => ((j + 1), ((s3 ++ (⟨#[44]⟩ : ByteArray)) ++ (T.txt (y.kid j).t)), zw)) ⟨⟨rfl, (show (j + 1) ≤ y.n∧((s3 ++ (⟨#[44]⟩ : ByteArray)) ++ (T.txt (y.kid j).t)) = rjH y (j + 1) from ⟨by omega, by rw [hI.2];exact rjH_step y (by omega)⟩)⟩, (show y.n - (j + 1) < y.n - j from (by omega)), ⟨(by show _ = _;kernel_rfl), rfl, rfl⟩⟩⟩⟩⟩⟩⟩), fun h57 => (have := of_decide_eq_false h57;⟨rfl, ⟨(hrec j R hy (by omega)), ⟨(by have c1 : (⟨#[35]⟩ : ByteArray).size = 1 := rfl;have c2 : (⟨#[40]⟩ : ByteArray).size = 1 := rfl;have c3 : (⟨#[41]⟩ : ByteArray).size = 1 := rfl;have c4 : (⟨#[94]⟩ : ByteArray).size = 1 := rfl;have c5 : (⟨#[58]⟩ : ByteArray).size = 1 := rfl;have c6 : (⟨#[44]⟩ : ByteArray).size = 1 := rfl;have c7 : (⟨#[45]⟩ : ByteArray).size = 1 := rfl;have d8 := rjH_len hg hI.1;have d7 : s3.size = _ := congrArg ByteArray.size hI.2;have d9 := d8.2 (by omega);(try simp only [ByteArray.size_append]);omega), ⟨(nwI (by omega) (by have h9 := L.wt_n y;have h8 := L.wt_m y;omega)), LKn (fun zw => ((j + 1), (s3 ++ (T.txt (y.kid j).t)), zw)) ⟨⟨rfl, (show (j + 1) ≤ y.n∧(s3 ++ (T.txt (y.kid j).t)) = rjH y (j + 1) from ⟨by omega, by obtain rfl : j = 0 := (by omega);rw [hI.2];exact rjH_first y⟩)⟩, (show y.n - (j + 1) < y.n - j from (by omega)), ⟨(by show _ = _;kernel_rfl), rfl, rfl⟩⟩⟩⟩⟩⟩)⟩⟩⟩⟩), fun h55 => (have := of_decide_eq_false h55;altA (fun zw => (j, s3, zw)) ⟨(show j = y.n∧s3 = rjH y y.n from ⟨by omega, by rw [hI.2, show j = y.n by omega]⟩), (by show _ = _;kernel_rfl), ⟨(by show _ = _;kernel_rfl), (by show _ = _;kernel_rfl), (by show _ = _;kernel_rfl)⟩⟩)⟩)
theorem rtext_own_L8_ct (y : L) (a0 : Nat)  (R : RO) (hrec : ∀ (j : Nat) (R : RO), y.ok R → j < y.n → Gives Tryd.prog 20 [(y.kid j).v] R [] (.ret (.string (T.txt (y.kid j).t))) []) (hy : y.ok R) (hg : y.t.good) (hw : y.t.wt ≤ 1000000)  : CT Tryd.prog (sub (bodyOf Tryd.f20) [1, 1, 1, 0, 1, 0, 1, 0, 1, 0]) ⟨(.agg y.row.toArray::ptA a0::.string ByteArray.empty::.string ((quotB y.s) ++ (⟨#[40]⟩ : ByteArray))::uns 5 (ptA a0::vi y.k::.bool false::uns 5 (ptA a0::vi y.k::.bool false::undef::undef::undef::ptA a0::vi y.k::.bool true::(ptO a0 (2))::.string y.s::.string (quotB y.s)::.string ((quotB y.s) ++ (⟨#[40]⟩ : ByteArray))::(ptO a0 (3))::.slice y.aa y.n y.ac::vi (y.n : Int)::vi 0::uns 41 []))), [], [some (a0, .row y.row 47 5)]⟩ R (rtext_own_L8_K y a0 R) :=
  CT.loop_eqs (rtext_own_L8_inv y a0) (rtext_own_L8_I y a0 R) (rtext_own_L8_mu y a0) (fun zw => (0, ((quotB y.s) ++ (⟨#[40]⟩ : ByteArray)), zw)) (by kernel_rfl) (by kernel_rfl) ⟨rfl, (show 0 ≤ y.n∧((quotB y.s) ++ (⟨#[40]⟩ : ByteArray)) = rjH y 0 from ⟨Nat.zero_le _, rjH_zero y⟩)⟩
    (by
      rintro ⟨j, s3, u4⟩ G hG ⟨rfl, hI⟩
      exact rtext_own_L8_body y a0 _ hrec hy hg hw j s3 u4 hI)
noncomputable def rtext_own_L17_inv (y : L) (a0 : Nat)  : Nat×ByteArray×NV → St := fun zx => ⟨(.agg y.row.toArray::ptA a0::.string ByteArray.empty::undef::undef::undef::.string zx.2.1::undef::(zx.2.2 8)::ptA a0::vi y.k::.bool false::uns 5 (ptA a0::vi y.k::.bool false::undef::undef::undef::ptA a0::vi y.k::.bool false::uns 23 ((ptO a0 (3))::.slice y.aa y.n y.ac::(ptO y.AB (y.AO + Int.toNat 0 * 5))::.agg #[vi ((y.kid 0).k), vu ((y.kid 0).id), .string ((y.kid 0).s), .slice (y.kid 0).aa ((y.kid 0).n) ((y.kid 0).ac), .slice (y.kid 0).pa ((y.kid 0).m) ((y.kid 0).pc)]::.string (T.txt (y.kid 0).t)::(ptO a0 (4))::.slice y.pa y.m y.pc::vi (y.m : Int)::vi ((zx.1 : Nat) : Int)::urun zx.2.2 58 16 (undef::[])))), [], [some (a0, .row y.row 47 5)]⟩
def rtext_own_L17_I (y : L) (a0 : Nat)  (R : RO) : Nat×ByteArray×NV → RO → Prop := fun zx G => G = R∧(zx.1 ≤ y.m∧zx.2.1 = T.powsB (T.txt (y.kid 0).t) ((List.range zx.1).map y.pw))
def rtext_own_L17_mu (y : L) (a0 : Nat)  : Nat×ByteArray×NV → Nat := fun zx => y.m - zx.1
noncomputable def rtext_own_L17_K (y : L) (a0 : Nat)  (R : RO) : Exit' → St → RO → Prop := altPost R (.alt (Nat×ByteArray×NV) (fun zx => zx.1 = y.m∧zx.2.1 = T.powsB (T.txt (y.kid 0).t) ((List.range zx.1).map y.pw)) (fun zx => (.exit 2, ((rtext_own_L17_inv y a0 zx).up [] [some (a0, .row y.row 47 5)]))) (fun _ => .altn) .altn)
theorem rtext_own_L17_body (y : L) (a0 : Nat)  (R : RO) (hn : 0 < y.n) (hrec : ∀ (j : Nat) (R : RO), y.ok R → j < y.n → Gives Tryd.prog 20 [(y.kid j).v] R [] (.ret (.string (T.txt (y.kid j).t))) []) (hy : y.ok R) (hg : y.t.good) (hw : y.t.wt ≤ 1000000) (j : Nat) (s6 : ByteArray) (u4 : Nat → Value) (hI : j ≤ y.m∧s6 = T.powsB (T.txt (y.kid 0).t) ((List.range j).map y.pw)) : CT Tryd.prog (sub (bodyOf Tryd.f20) [1, 1, 1, 1, 1, 0, 1, 0, 0]) (rtext_own_L17_inv y a0 (j, s6, u4)) R (LK (rtext_own_L17_inv y a0) (rtext_own_L17_I y a0 R) (rtext_own_L17_mu y a0) (rtext_own_L17_K y a0 R) (j, s6, u4)) :=
  CT.of_wp_eq (VC := (let z2 : List Value := y.row;let z0 := ((s6 ++ (⟨#[94]⟩ : ByteArray)) ++ (itoB ((y.pw j).1)));let z1 := (z0 ++ (⟨#[58]⟩ : ByteArray));((decide ((j : Int) < (y.m : Int))) = true → (y.pa = some ⟨y.PB, y.PO, none⟩∧(0 : Int) ≤ (j : Int)∧((j : Int) : Int) < (y.m : Int))∧(R.cells y.PB (y.PO + Int.toNat (j : Int) * 2) [vu ((y.pw j).1), vi ((y.pw j).2)])∧∀ a56 : Nat, (a56 = a56)∧(s6.size + (⟨#[94]⟩ : ByteArray).size ≤ 9223372036854775807)∧(a56 = a56)∧(IntKind.i64.wrap ((y.pw j).1) = ((y.pw j).1))∧(Gives Tryd.prog 33 [vi ((y.pw j).1)] R [] (.ret (.string (itoB ((y.pw j).1)))) [])∧((s6 ++ (⟨#[94]⟩ : ByteArray)).size + (itoB ((y.pw j).1)).size ≤ 9223372036854775807)∧(z0.size + (⟨#[58]⟩ : ByteArray).size ≤ 9223372036854775807)∧(a56 = a56)∧(Gives Tryd.prog 33 [vi ((y.pw j).2)] R [] (.ret (.string (itoB ((y.pw j).2)))) [])∧(z1.size + (itoB ((y.pw j).2)).size ≤ 9223372036854775807)∧(NW .i64 ((j : Int) + 1))∧LK (rtext_own_L17_inv y a0) (rtext_own_L17_I y a0 R) (rtext_own_L17_mu y a0) (rtext_own_L17_K y a0 R) (j, s6, u4) .normal ((rtext_own_L17_inv y a0 (j, s6, u4)).up [(6, .string (z1 ++ (itoB ((y.pw j).2)))), (8, ptA a56), (57, vi ((j : Int) + 1)), (58, .bool true), (59, (ptO y.PB (y.PO + Int.toNat (j : Int) * 2))), (60, .agg #[vu ((y.pw j).1), vi ((y.pw j).2)]), (61, .string s6), (62, .string (s6 ++ (⟨#[94]⟩ : ByteArray))), (63, ptA a56), (64, vu ((y.pw j).1)), (65, vi ((y.pw j).1)), (66, .string (itoB ((y.pw j).1))), (67, .string z0), (68, .string z1), (69, (ptO a56 (1))), (70, vi ((y.pw j).2)), (71, .string (itoB ((y.pw j).2))), (72, .string (z1 ++ (itoB ((y.pw j).2)))), (73, vi ((j : Int) + 1))] [some (a0, .row z2 47 5), some (a56, .row [vu ((y.pw j).1), vi ((y.pw j).2)] 65 2)]) R)∧((decide ((j : Int) < (y.m : Int))) = false → LK (rtext_own_L17_inv y a0) (rtext_own_L17_I y a0 R) (rtext_own_L17_mu y a0) (rtext_own_L17_K y a0 R) (j, s6, u4) (.exit 2) ((rtext_own_L17_inv y a0 (j, s6, u4)).up [(58, .bool false)] [some (a0, .row z2 47 5)]) R))) (ops [.d] (.sp 58 (ops [.ib y.PB y.PO, .ro (fun v => [vu ((y.pw j).1), vi ((y.pw j).2)])] (.opn 1 (fun a56 => (ops [.p 1] (.dr [some (.d), some (.cat), some (.d), some (.p 1), some (.nw), some (.call0 [] [] (fun e v => .ret (.string (itoB ((y.pw j).1)))) (fun e v => [])), some (.cat), some (.cat), some (.d), some (.p 1), some (.call0 [] [] (fun e v => .ret (.string (itoB ((y.pw j).2)))) (fun e v => [])), some (.cat), some (.d)] (ops [.nw, .d] (.fin [] []))))))) (.fin [] []))) (by kernel_rfl)
    (⟨fun h55 => (have := of_decide_eq_true h55;⟨⟨(hy.pow j (by omega)).1, by omega, by omega⟩, ⟨(hy.pow j (by omega)).2, fun a56 => ⟨rfl, ⟨(by have c1 : (⟨#[35]⟩ : ByteArray).size = 1 := rfl;have c2 : (⟨#[40]⟩ : ByteArray).size = 1 := rfl;have c3 : (⟨#[41]⟩ : ByteArray).size = 1 := rfl;have c4 : (⟨#[94]⟩ : ByteArray).size = 1 := rfl;have c5 : (⟨#[58]⟩ : ByteArray).size = 1 := rfl;have c6 : (⟨#[44]⟩ : ByteArray).size = 1 := rfl;have c7 : (⟨#[45]⟩ : ByteArray).size = 1 := rfl;have d6 := L.pow_size hg hn (j := j) (by omega);have d7 : s6.size = _ := congrArg ByteArray.size hI.2;(try simp only [ByteArray.size_append]);omega), ⟨rfl, ⟨(wrapI (by have h9 := (L.good_pw hg (j := j) (by omega)).1;omega) (by have h9 := (L.good_pw hg (j := j) (by omega)).1;omega)), ⟨(rDec_ok ((y.pw j).1) R (by have h9 := (L.good_pw hg (j := j) (by omega)).1;omega) (by have h9 := (L.good_pw hg (j := j) (by omega)).1;omega)), ⟨(by have c1 : (⟨#[35]⟩ : ByteArray).size = 1 := rfl;have c2 : (⟨#[40]⟩ : ByteArray).size = 1 := rfl;have c3 : (⟨#[41]⟩ : ByteArray).size = 1 := rfl;have c4 : (⟨#[94]⟩ : ByteArray).size = 1 := rfl;have c5 : (⟨#[58]⟩ : ByteArray).size = 1 := rfl;have c6 : (⟨#[44]⟩ : ByteArray).size = 1 := rfl;have c7 : (⟨#[45]⟩ : ByteArray).size = 1 := rfl;have d1 := itoB_size (n := (y.pw j).1) (by have h9 := (L.good_pw hg (j := j) (by omega)).1;omega) (by have h9 := (L.good_pw hg (j := j) (by omega)).1;omega);have d6 := L.pow_size hg hn (j := j) (by omega);have d7 : s6.size = _ := congrArg ByteArray.size hI.2;(try simp only [ByteArray.size_append]);omega), ⟨(by have c1 : (⟨#[35]⟩ : ByteArray).size = 1 := rfl;have c2 : (⟨#[40]⟩ : ByteArray).size = 1 := rfl;have c3 : (⟨#[41]⟩ : ByteArray).size = 1 := rfl;have c4 : (⟨#[94]⟩ : ByteArray).size = 1 := rfl;have c5 : (⟨#[58]⟩ : ByteArray).size = 1 := rfl;have c6 : (⟨#[44]⟩ : ByteArray).size = 1 := rfl;have c7 : (⟨#[45]⟩ : ByteArray).size = 1 := rfl;have d1 := itoB_size (n := (y.pw j).1) (by have h9 := (L.good_pw hg (j := j) (by omega)).1;omega) (by have h9 := (L.good_pw hg (j := j) (by omega)).1;omega);have d6 := L.pow_size hg hn (j := j) (by omega);have d7 : s6.size = _ := congrArg ByteArray.size hI.2;(try simp only [ByteArray.size_append]);omega), ⟨rfl, ⟨(rDec_ok ((y.pw j).2) R (by have h9 := (L.good_pw hg (j := j) (by omega)).2;omega) (by have h9 := (L.good_pw hg (j := j) (by omega)).2;omega)), ⟨(by have c1 : (⟨#[35]⟩ : ByteArray).size = 1 := rfl;have c2 : (⟨#[40]⟩ : ByteArray).size = 1 := rfl;have c3 : (⟨#[41]⟩ : ByteArray).size = 1 := rfl;have c4 : (⟨#[94]⟩ : ByteArray).size = 1 := rfl;have c5 : (⟨#[58]⟩ : ByteArray).size = 1 := rfl;have c6 : (⟨#[44]⟩ : ByteArray).size = 1 := rfl;have c7 : (⟨#[45]⟩ : ByteArray).size = 1 := rfl;have d1 := itoB_size (n := (y.pw j).1) (by have h9 := (L.good_pw hg (j := j) (by omega)).1;omega) (by have h9 := (L.good_pw hg (j := j) (by omega)).1;omega);have d2 := itoB_size (L.good_pw hg (j := j) (by omega)).2.1 (L.good_pw hg (j := j) (by omega)).2.2;have d6 := L.pow_size hg hn (j := j) (by omega);have d7 : s6.size = _ := congrArg ByteArray.size hI.2;(try simp only [ByteArray.size_append]);omega), ⟨(nwI (by omega) (by have h9 := L.wt_n y;have h8 := L.wt_m y;omega)), LKn (fun zw => ((j + 1), ((((s6 ++ (⟨#[94]⟩ : ByteArray)) ++ (itoB ((y.pw j).1))) ++ (⟨#[58]⟩ : ByteArray)) ++ (itoB ((y.pw j).2))), zw)) ⟨⟨rfl, (show (j + 1) ≤ y.m∧((((s6 ++ (⟨#[94]⟩ : ByteArray)) ++ (itoB ((y.pw j).1))) ++ (⟨#[58]⟩ : ByteArray)) ++ (itoB ((y.pw j).2))) = T.powsB (T.txt (y.kid 0).t) ((List.range (j + 1)).map y.pw) from ⟨by omega, (by rw [rpow_step _ (by have h9 := (L.good_pw hg (j := j) (by omega)).1;omega), List.range_succ, List.map_append, List.map_singleton, T.powsB_snoc, ← hI.2])⟩)⟩, (show y.m - (j + 1) < y.m - j from (by omega)), ⟨(by show _ = _;kernel_rfl), rfl, rfl⟩⟩⟩⟩⟩⟩⟩⟩⟩⟩⟩⟩⟩⟩⟩), fun h55 => (have := of_decide_eq_false h55;altA (fun zw => (j, s6, zw)) ⟨(show j = y.m∧s6 = T.powsB (T.txt (y.kid 0).t) ((List.range j).map y.pw) from ⟨by omega, hI.2⟩), (by show _ = _;kernel_rfl), ⟨(by show _ = _;kernel_rfl), (by show _ = _;kernel_rfl), (by show _ = _;kernel_rfl)⟩⟩)⟩)
theorem rtext_own_L17_ct (y : L) (a0 : Nat)  (R : RO) (hn : 0 < y.n) (hrec : ∀ (j : Nat) (R : RO), y.ok R → j < y.n → Gives Tryd.prog 20 [(y.kid j).v] R [] (.ret (.string (T.txt (y.kid j).t))) []) (hy : y.ok R) (hg : y.t.good) (hw : y.t.wt ≤ 1000000)  : CT Tryd.prog (sub (bodyOf Tryd.f20) [1, 1, 1, 1, 1, 0, 1, 0]) ⟨(.agg y.row.toArray::ptA a0::.string ByteArray.empty::undef::undef::undef::.string (T.txt (y.kid 0).t)::undef::undef::ptA a0::vi y.k::.bool false::uns 5 (ptA a0::vi y.k::.bool false::undef::undef::undef::ptA a0::vi y.k::.bool false::uns 23 ((ptO a0 (3))::.slice y.aa y.n y.ac::(ptO y.AB (y.AO + Int.toNat 0 * 5))::.agg #[vi ((y.kid 0).k), vu ((y.kid 0).id), .string ((y.kid 0).s), .slice (y.kid 0).aa ((y.kid 0).n) ((y.kid 0).ac), .slice (y.kid 0).pa ((y.kid 0).m) ((y.kid 0).pc)]::.string (T.txt (y.kid 0).t)::(ptO a0 (4))::.slice y.pa y.m y.pc::vi (y.m : Int)::vi 0::uns 17 []))), [], [some (a0, .row y.row 47 5)]⟩ R (rtext_own_L17_K y a0 R) :=
  CT.loop_eqs (rtext_own_L17_inv y a0) (rtext_own_L17_I y a0 R) (rtext_own_L17_mu y a0) (fun zw => (0, (T.txt (y.kid 0).t), zw)) (by kernel_rfl) (by kernel_rfl) ⟨rfl, (show 0 ≤ y.m∧(T.txt (y.kid 0).t) = T.powsB (T.txt (y.kid 0).t) ((List.range 0).map y.pw) from ⟨Nat.zero_le _, rfl⟩)⟩
    (by
      rintro ⟨j, s6, u4⟩ G hG ⟨rfl, hI⟩
      exact rtext_own_L17_body y a0 _ hn hrec hy hg hw j s6 u4 hI)
theorem rtext_own (y : L) (R : RO) (hrec : ∀ (j : Nat) (R : RO), y.ok R → j < y.n → Gives Tryd.prog 20 [(y.kid j).v] R [] (.ret (.string (T.txt (y.kid j).t))) []) (hy : y.ok R) (hg : y.t.good) (hw : y.t.wt ≤ 1000000) (h4 : ¬ y.k = 1 → ¬ y.k = 2 → ¬ y.k = 3 → y.k = 4∧0 < y.n) : Gives Tryd.prog 20 [.agg y.row.toArray] R [] (.ret (.string (T.txt y.t))) [] :=
  Does.of_wp_eq (VC := (let z3 := (Gives Tryd.prog 34 [.string y.s] R [] (.ret (.string (quotB y.s))) []);let z2 : Array Value := y.row.toArray;let z0 : Array Value := #[vi ((y.kid 0).k), vu ((y.kid 0).id), .string ((y.kid 0).s), .slice (y.kid 0).aa ((y.kid 0).n) ((y.kid 0).ac), .slice (y.kid 0).pa ((y.kid 0).m) ((y.kid 0).pc)];∀ a0 : Nat, let z1 : Hp := [some (a0, .row y.row 47 5)];(a0 = a0)∧((y.k == 1) = true → (a0 = a0)∧(IntKind.i64.wrap y.id = y.id)∧(Gives Tryd.prog 33 [vi y.id] R [] (.ret (.string (itoB y.id))) [])∧((⟨#[35]⟩ : ByteArray).size + (itoB y.id).size ≤ 9223372036854775807)∧GQ R (.ret (.string (T.txt y.t))) [] (.ret (.string ((⟨#[35]⟩ : ByteArray) ++ (itoB y.id)))) R [])∧((y.k == 1) = false → (a0 = a0)∧((y.k == 2) = true → (a0 = a0)∧z3∧GQ R (.ret (.string (T.txt y.t))) [] (.ret (.string (quotB y.s))) R [])∧((y.k == 2) = false → (a0 = a0)∧((y.k == 3) = true → (a0 = a0)∧z3∧((quotB y.s).size + (⟨#[40]⟩ : ByteArray).size ≤ 9223372036854775807)∧(a0 = a0)∧(CT Tryd.prog (sub (bodyOf Tryd.f20) [1, 1, 1, 0, 1, 0, 1, 0, 1, 0]) ⟨(.agg z2::ptA a0::.string ByteArray.empty::.string ((quotB y.s) ++ (⟨#[40]⟩ : ByteArray))::uns 5 (ptA a0::vi y.k::.bool false::uns 5 (ptA a0::vi y.k::.bool false::undef::undef::undef::ptA a0::vi y.k::.bool true::(ptO a0 (2))::.string y.s::.string (quotB y.s)::.string ((quotB y.s) ++ (⟨#[40]⟩ : ByteArray))::(ptO a0 (3))::.slice y.aa y.n y.ac::vi (y.n : Int)::vi 0::uns 41 []))), [], z1⟩ R (rtext_own_L8_K y a0 R))∧(∀ x5 : Nat×ByteArray×NV, (x5.1 = y.n∧x5.2.1 = rjH y y.n) → (x5.2.1.size + (⟨#[41]⟩ : ByteArray).size ≤ 9223372036854775807)∧GQ R (.ret (.string (T.txt y.t))) [] (.ret (.string (x5.2.1 ++ (⟨#[41]⟩ : ByteArray)))) R [])∧True)∧((y.k == 3) = false → (a0 = a0)∧(y.aa = some ⟨y.AB, y.AO, none⟩∧(0 : Int) ≤ 0∧(0 : Int) < (y.n : Int))∧(R.cells y.AB (y.AO + Int.toNat 0 * 5) [vi ((y.kid 0).k), vu ((y.kid 0).id), .string ((y.kid 0).s), .slice (y.kid 0).aa ((y.kid 0).n) ((y.kid 0).ac), .slice (y.kid 0).pa ((y.kid 0).m) ((y.kid 0).pc)])∧(Gives Tryd.prog 20 [.agg z0] R [] (.ret (.string (T.txt (y.kid 0).t))) [])∧(a0 = a0)∧(CT Tryd.prog (sub (bodyOf Tryd.f20) [1, 1, 1, 1, 1, 0, 1, 0]) ⟨(.agg z2::ptA a0::.string ByteArray.empty::undef::undef::undef::.string (T.txt (y.kid 0).t)::undef::undef::ptA a0::vi y.k::.bool false::uns 5 (ptA a0::vi y.k::.bool false::undef::undef::undef::ptA a0::vi y.k::.bool false::uns 23 ((ptO a0 (3))::.slice y.aa y.n y.ac::(ptO y.AB (y.AO + Int.toNat 0 * 5))::.agg z0::.string (T.txt (y.kid 0).t)::(ptO a0 (4))::.slice y.pa y.m y.pc::vi (y.m : Int)::vi 0::uns 17 []))), [], z1⟩ R (rtext_own_L17_K y a0 R))∧(∀ x5 : Nat×ByteArray×NV, (x5.1 = y.m∧x5.2.1 = T.powsB (T.txt (y.kid 0).t) ((List.range x5.1).map y.pw)) → GQ R (.ret (.string (T.txt y.t))) [] (.ret (.string x5.2.1)) R [])∧True))))) (.opn 0 (fun a0 => let y_0 : Hp := [some (a0, .row y.row 47 5)];(ops [.d, .d, .p 0, .d] (.sp 11 (ops [.d, .p 0, .nw, .call0 [] [] (fun e v => .ret (.string (itoB y.id))) (fun e v => []), .cat, .d] (.fin [] [])) (ops [.d, .p 0, .d] (.sp 19 (ops [.d, .p 0, .call0 [] [] (fun e v => .ret (.string (quotB y.s))) (fun e v => []), .d] (.fin [] [])) (ops [.d, .p 0, .d] (.sp 25 (ops [.d, .p 0, .call0 [] [] (fun e v => .ret (.string (quotB y.s))) (fun e v => []), .cat, .d, .d, .p 0, .d, .d] (.alt (Nat×ByteArray×NV) (fun zx => zx.1 = y.n∧zx.2.1 = rjH y y.n) (fun zx => (.exit 0, ((rtext_own_L8_inv y a0 zx).up [] y_0))) (fun x5 => (ops [.d, .cat, .d] (.fin [] []))) .altn)) (ops [.d, .p 0, .ib y.AB y.AO, .ro (fun v => [vi ((y.kid 0).k), vu ((y.kid 0).id), .string ((y.kid 0).s), .slice (y.kid 0).aa ((y.kid 0).n) ((y.kid 0).ac), .slice (y.kid 0).pa ((y.kid 0).m) ((y.kid 0).pc)]), .call0 [] [] (fun e v => .ret (.string (T.txt (y.kid 0).t))) (fun e v => []), .d, .d, .p 0, .d, .d] (.alt (Nat×ByteArray×NV) (fun zx => zx.1 = y.m∧zx.2.1 = T.powsB (T.txt (y.kid 0).t) ((List.range zx.1).map y.pw)) (fun zx => (.exit 2, ((rtext_own_L17_inv y a0 zx).up [] y_0))) (fun x5 => (ops [.d, .d] (.fin [] []))) .altn)))))))))) Tryd.func20 (by kernel_rfl) (by kernel_rfl)
    (fun a0 => ⟨rfl, ⟨fun h1 => (have := eq_of_beq h1;⟨rfl, ⟨(wrapI (by have h9 := ((L.good_eq y).1 hg).1;omega) (by have h9 := ((L.good_eq y).1 hg).1;omega)), ⟨(rDec_ok y.id R (by have h9 := ((L.good_eq y).1 hg).1;omega) (by have h9 := ((L.good_eq y).1 hg).1;omega)), ⟨(by have c1 : (⟨#[35]⟩ : ByteArray).size = 1 := rfl;have c2 : (⟨#[40]⟩ : ByteArray).size = 1 := rfl;have c3 : (⟨#[41]⟩ : ByteArray).size = 1 := rfl;have c4 : (⟨#[94]⟩ : ByteArray).size = 1 := rfl;have c5 : (⟨#[58]⟩ : ByteArray).size = 1 := rfl;have c6 : (⟨#[44]⟩ : ByteArray).size = 1 := rfl;have c7 : (⟨#[45]⟩ : ByteArray).size = 1 := rfl;have d1 := itoB_size (n := y.id) (by have h9 := ((L.good_eq y).1 hg).1;omega) (by have h9 := ((L.good_eq y).1 hg).1;omega);(try simp only [ByteArray.size_append]);omega), ⟨rfl, (by exact congrArg (fun z => Out.ret (.string z)) ((txt_atom (by omega)).trans (by rw [ito_pos (by have h9 := ((L.good_eq y).1 hg).1;omega)])).symm), (by rfl)⟩⟩⟩⟩⟩), fun h1 => (have := ne_of_beq_false h1;⟨rfl, ⟨fun h2 => (have := eq_of_beq h2;⟨rfl, ⟨(rquoted_ok y.s R (by have h9 := L.wt_eq y;omega)), ⟨rfl, (by exact congrArg (fun z => Out.ret (.string z)) (txt_word (by omega)).symm), (by rfl)⟩⟩⟩), fun h2 => (have := ne_of_beq_false h2;⟨rfl, ⟨fun h3 => (have := eq_of_beq h3;⟨rfl, ⟨(rquoted_ok y.s R (by have h9 := L.wt_eq y;omega)), ⟨(by have c1 : (⟨#[35]⟩ : ByteArray).size = 1 := rfl;have c2 : (⟨#[40]⟩ : ByteArray).size = 1 := rfl;have c3 : (⟨#[41]⟩ : ByteArray).size = 1 := rfl;have c4 : (⟨#[94]⟩ : ByteArray).size = 1 := rfl;have c5 : (⟨#[58]⟩ : ByteArray).size = 1 := rfl;have c6 : (⟨#[44]⟩ : ByteArray).size = 1 := rfl;have c7 : (⟨#[45]⟩ : ByteArray).size = 1 := rfl;have d3 := quotB_size y.s;have d4 := L.wt_eq y;(try simp only [ByteArray.size_append]);omega), ⟨rfl, ⟨rtext_own_L8_ct y a0 R hrec hy hg hw, ⟨fun x5 qx5 => ⟨(by have c1 : (⟨#[35]⟩ : ByteArray).size = 1 := rfl;have c2 : (⟨#[40]⟩ : ByteArray).size = 1 := rfl;have c3 : (⟨#[41]⟩ : ByteArray).size = 1 := rfl;have c4 : (⟨#[94]⟩ : ByteArray).size = 1 := rfl;have c5 : (⟨#[58]⟩ : ByteArray).size = 1 := rfl;have c6 : (⟨#[44]⟩ : ByteArray).size = 1 := rfl;have c7 : (⟨#[45]⟩ : ByteArray).size = 1 := rfl;have d8 := rjH_len hg (Nat.le_refl y.n);rw [qx5.2];(try simp only [ByteArray.size_append]);omega), ⟨rfl, (by exact congrArg (fun z => Out.ret (.string z)) ((txt_hash (by omega)).trans (by rw [qx5.2];rfl)).symm), (by rfl)⟩⟩, trivial⟩⟩⟩⟩⟩⟩), fun h3 => (have := ne_of_beq_false h3;⟨rfl, ⟨⟨(hy.arg (j := 0) (by omega)).1, by omega, by omega⟩, ⟨(hy.arg (j := 0) (by omega)).2, ⟨(hrec 0 R hy (by omega)), ⟨rfl, ⟨rtext_own_L17_ct y a0 R (by omega) hrec hy hg hw, ⟨fun x5 qx5 => ⟨rfl, (by exact congrArg (fun z => Out.ret (.string z)) ((txt_pow (by omega) (by omega)).trans (by rw [qx5.2, qx5.1])).symm), (by rfl)⟩, trivial⟩⟩⟩⟩⟩⟩⟩)⟩⟩)⟩⟩)⟩⟩)
theorem rtext_ok : ∀ (h : Nat) (y : L) (R : RO), y.t.ht ≤ h → y.ok R → y.t.good → y.t.wt ≤ 1000000 → Gives Tryd.prog 20 [y.v] R [] (.ret (.string (T.txt y.t))) [] := by
  intro h
  induction h with
  | zero => intro y R hh;have := T.ht_pos y.t;omega
  | succ h ih =>
    intro y R hh hy hg hw
    have hg' := (L.good_eq y).1 hg
    exact rtext_own y R (fun j S hS hj => ih (y.kid j) S (by have := L.ht_kid hj;omega) (hS.kid hj) (hg'.2.2.2 j hj) (by have := L.wt_kid y hj;omega)) hy hg hw
      (fun h1 h2 h3 => by rcases hg'.2.2.1 with h | h | h | h <;> first | exact h | omega)
theorem add_ok (u : U) (n : Int) (R : RO) (hu : u.ok R) (hn : u.n ≤ 1000000) : Does Tryd.prog 40 [.slice u.a u.n u.c, vu n] R [] (fun r G B => ∃ v : U, (v.ok G∧v.l = addL n u.l)∧r = .ret (.slice v.a v.n v.c)∧B = []) := by
  refine (Does.freeze (X := AD) (q := fun x G => ∃ Lr, AR x.k x.b x.cap Lr x.xs∧x.xs = addL n u.l) (g := fun x => (gsv x.b x.k x.cap, [gsb x.b (x.xs.map (Value.int .u32)) 23 (x.cap * 1)])) (add_own u n R hu hn)).mono ?_
  rintro o G B hle ⟨x, G0, h0, ⟨Lr, q1, q2⟩, hc, rfl, rfl⟩
  exact ⟨rU x, ⟨rU_ok q1 (fun a ha => hc 0 a _ 23 _ (by show Hp.at [gsb x.b _ 23 _] 0 = _;rw [ha];rfl)), by rw [rU_l q1.1, q2]⟩, rfl, rfl⟩
namespace T
mutual
noncomputable def atR : T → List Int → List Int
  | .mk k i _ xs ps, l => atRL xs (ps.foldl (fun l p => addL p.1 l) (if k = 1 then addL i l else l))
noncomputable def atRL : List T → List Int → List Int
  | [], l => l
  | a::xs, l => atRL xs (atR a l)
end
theorem atRL_fold : ∀ (xs : List T) (l : List Int), atRL xs l = xs.foldl (fun l t => atR t l) l
  | [], _ => by rw [atRL];rfl
  | a::xs, l => by rw [atRL, List.foldl_cons];exact atRL_fold xs _
theorem addP_len : ∀ (ps : List PW) (l : List Int), (ps.foldl (fun l p => addL p.1 l) l).length ≤ l.length + ps.length
  | [], _ => Nat.le_refl _
  | p::ps, l => by
    have h1 := addP_len ps (addL p.1 l)
    have h2 := addL_len p.1 l
    rw [List.foldl_cons, List.length_cons];omega
mutual
theorem atR_len : ∀ (t : T) (l : List Int), (atR t l).length ≤ l.length + t.wt
  | .mk k i s xs ps, l => by
    have h1 := atRL_len xs (ps.foldl (fun l p => addL p.1 l) (if k = 1 then addL i l else l))
    have h2 := addP_len ps (if k = 1 then addL i l else l)
    have h3 : (if k = 1 then addL i l else l).length ≤ l.length + 1 := by split;exact addL_len i l;omega
    rw [atR]
    show _ ≤ l.length + (300 + 2 * s.size + 60 * ps.length + T.wtL xs)
    omega
theorem atRL_len : ∀ (xs : List T) (l : List Int), (atRL xs l).length ≤ l.length + wtL xs
  | [], _ => by rw [atRL];exact Nat.le_add_right _ _
  | a::xs, l => by
    have h1 := atRL_len xs (atR a l)
    have h2 := atR_len a l
    rw [atRL, wtL];omega
end
theorem wtL_sum : ∀ l : List T, wtL l = (l.map fun t => t.wt + 1).sum
  | [] => rfl
  | a::l => by rw [wtL, List.map_cons, List.sum_cons, wtL_sum l]
end T
noncomputable def arP (y : L) (l : List Int) (j : Nat) : List Int := ((List.range j).map y.pw).foldl (fun l p => addL p.1 l) (if y.k = 1 then addL y.id l else l)
noncomputable def arK (y : L) (l : List Int) (j : Nat) : List Int := ((List.range j).map fun i => (y.kid i).t).foldl (fun l t => T.atR t l) (arP y l y.m)
theorem arP_step (y : L) (l : List Int) (j : Nat) : arP y l (j + 1) = addL (y.pw j).1 (arP y l j) := by simp [arP, List.range_succ]
theorem arK_step (y : L) (l : List Int) (j : Nat) : arK y l (j + 1) = T.atR (y.kid j).t (arK y l j) := by simp [arK, List.range_succ]
theorem arK_all (y : L) (l : List Int) : arK y l y.n = T.atR y.t l := by rw [L.t_eq, T.atR, T.atRL_fold];rfl
theorem arP_len (y : L) (l : List Int) (j : Nat) : (arP y l j).length ≤ l.length + 1 + j := by
  have h2 := T.addP_len ((List.range j).map y.pw) (if y.k = 1 then addL y.id l else l)
  have h3 : (if y.k = 1 then addL y.id l else l).length ≤ l.length + 1 := by split;exact addL_len _ l;omega
  rw [List.length_map, List.length_range] at h2
  unfold arP;omega
theorem arK_len {y : L} (l : List Int) {j : Nat} (hj : j < y.n) : (arK y l j).length + (y.kid j).t.wt ≤ l.length + y.t.wt := by
  have h1 := T.atRL_len ((List.range j).map fun i => (y.kid i).t) (arP y l y.m)
  rw [T.atRL_fold] at h1
  have h2 := arP_len y l y.m
  have h3 := L.wt_eq y
  have h4 : T.wtL ((List.range j).map fun i => (y.kid i).t) + ((y.kid j).t.wt + 1) ≤ T.wtL ((List.range y.n).map fun i => (y.kid i).t) := by
    rw [T.wtL_sum, T.wtL_sum, List.map_map, List.map_map]
    have h5 := sum_mono ((fun t : T => t.wt + 1) ∘ fun i => (y.kid i).t) (Nat.succ_le_of_lt hj)
    rw [List.range_succ, List.map_append, List.sum_append] at h5
    have h6 : (([j].map ((fun t : T => t.wt + 1) ∘ fun i => (y.kid i).t)) : List Nat).sum = (y.kid j).t.wt + 1 := by simp
    omega
  unfold arK;omega
noncomputable def ratoms_own_L4_inv (y : L) (u : U) (a0 : Nat) (x1 : U×NV)  : Nat×U×NV → St := fun zx => ⟨(.agg y.row.toArray::.slice zx.2.1.a zx.2.1.n zx.2.1.c::ptA a0::undef::.slice none 0 0::undef::(zx.2.2 6)::undef::undef::ptA a0::vi y.k::urun x1.2 11 5 ((ptO a0 (4))::.slice y.pa y.m y.pc::vi (y.m : Int)::vi ((zx.1 : Nat) : Int)::urun zx.2.2 20 8 (uns 12 []))), [], [some (a0, .row y.row 47 5)]⟩
def ratoms_own_L4_I (y : L) (u : U) (a0 : Nat) (x1 : U×NV)  (R : RO) : Nat×U×NV → RO → Prop := fun zx G => R.le G∧(zx.1 ≤ y.m∧zx.2.1.ok G∧zx.2.1.l = arP y u.l zx.1)
def ratoms_own_L4_mu (y : L) (u : U) (a0 : Nat) (x1 : U×NV)  : Nat×U×NV → Nat := fun zx => y.m - zx.1
noncomputable def ratoms_own_L4_K (y : L) (u : U) (a0 : Nat) (x1 : U×NV)  (R : RO) : Exit' → St → RO → Prop := altPost R (.altG (Nat×U×NV) (fun zx G => zx.1 = y.m∧zx.2.1.ok G∧zx.2.1.l = arP y u.l zx.1) (fun zx => (.exit 0, ((ratoms_own_L4_inv y u a0 x1 zx).up [] [some (a0, .row y.row 47 5)]))) (fun _ => .altn) .altn)
theorem ratoms_own_L4_body (y : L) (u : U) (a0 : Nat) (x1 : U×NV)  (R0 R : RO) (hle : R0.le R) (hy : y.ok R) (hu : u.ok R) (hn : u.n + y.t.wt ≤ 1000000) (j : Nat) (v : U) (u33 : Nat → Value) (hI : j ≤ y.m∧v.ok R∧v.l = arP y u.l j) : CT Tryd.prog (sub (bodyOf Tryd.f23) [1, 1, 0, 1, 0, 0]) (ratoms_own_L4_inv y u a0 x1 (j, v, u33)) R (LK (ratoms_own_L4_inv y u a0 x1) (ratoms_own_L4_I y u a0 x1 R0) (ratoms_own_L4_mu y u a0 x1) (ratoms_own_L4_K y u a0 x1 R0) (j, v, u33)) :=
  CT.of_wp_eq (VC := (let z0 : List Value := y.row;((decide ((j : Int) < (y.m : Int))) = true → (y.pa = some ⟨y.PB, y.PO, none⟩∧(0 : Int) ≤ (j : Int)∧((j : Int) : Int) < (y.m : Int))∧(R.cells y.PB (y.PO + Int.toNat (j : Int) * 2) [vu ((y.pw j).1), vi ((y.pw j).2)])∧∀ a85 : Nat, (a85 = a85)∧(a85 = a85)∧(Does Tryd.prog 40 [.slice v.a v.n v.c, vu ((y.pw j).1)] R [] (fun r G B => ∃ u86 : U, (u86.ok G∧u86.l = addL ((y.pw j).1) v.l)∧r = .ret (.slice u86.a u86.n u86.c)∧B = []))∧∀ (u86 : U) (G87 : RO), R.le G87 → (u86.ok G87∧u86.l = addL ((y.pw j).1) v.l) → (NW .i64 ((j : Int) + 1))∧LK (ratoms_own_L4_inv y u a0 x1) (ratoms_own_L4_I y u a0 x1 R0) (ratoms_own_L4_mu y u a0 x1) (ratoms_own_L4_K y u a0 x1 R0) (j, v, u33) .normal ((ratoms_own_L4_inv y u a0 x1 (j, v, u33)).up [(1, .slice u86.a u86.n u86.c), (6, ptA a85), (19, vi ((j : Int) + 1)), (20, .bool true), (21, (ptO y.PB (y.PO + Int.toNat (j : Int) * 2))), (22, .agg #[vu ((y.pw j).1), vi ((y.pw j).2)]), (23, .slice v.a v.n v.c), (24, ptA a85), (25, vu ((y.pw j).1)), (26, .slice u86.a u86.n u86.c), (27, vi ((j : Int) + 1))] [some (a0, .row z0 47 5), some (a85, .row [vu ((y.pw j).1), vi ((y.pw j).2)] 65 2)]) G87)∧((decide ((j : Int) < (y.m : Int))) = false → LK (ratoms_own_L4_inv y u a0 x1) (ratoms_own_L4_I y u a0 x1 R0) (ratoms_own_L4_mu y u a0 x1) (ratoms_own_L4_K y u a0 x1 R0) (j, v, u33) (.exit 0) ((ratoms_own_L4_inv y u a0 x1 (j, v, u33)).up [(20, .bool false)] [some (a0, .row z0 47 5)]) R))) (ops [.d] (.sp 20 (ops [.ib y.PB y.PO, .ro (fun v => [vu ((y.pw j).1), vi ((y.pw j).2)])] (.opn 1 (fun a85 => (ops [.p 1, .d, .d, .p 1] (.opg [] [] (U) (fun u86 G => u86.ok G∧u86.l = addL ((y.pw j).1) v.l) (fun u86 => (.slice u86.a u86.n u86.c, [])) (fun u86 => (ops [.d, .nw, .d] (.fin [] [])))))))) (.fin [] []))) (by kernel_rfl)
    (⟨fun h84 => (have := of_decide_eq_true h84;⟨⟨(hy.pow j (by omega)).1, by omega, by omega⟩, ⟨(hy.pow j (by omega)).2, fun a85 => ⟨rfl, ⟨rfl, ⟨(add_ok v ((y.pw j).1) R hI.2.1 (by have h9 := congrArg List.length hI.2.2;rw [U.l_len] at h9;have h8 := arP_len y u.l j;rw [U.l_len] at h8;have h7 := L.wt_m y;omega)), fun u86 G87 hG87 qu86 => (have hle := RO.le_trans hle hG87;have hy := L.ok_mono hG87 _ hy;have hu := U.ok_mono hG87 hu;have hI := And.intro hI.1 (And.intro (U.ok_mono hG87 hI.2.1) hI.2.2);⟨(nwI (by omega) (by have h9 := L.wt_n y;have h8 := L.wt_m y;omega)), LKn (fun zw => ((j + 1), u86, zw)) ⟨⟨hle, (show (j + 1) ≤ y.m∧u86.ok G87∧u86.l = arP y u.l (j + 1) from ⟨by omega, qu86.1, by rw [arP_step, ← hI.2.2];exact qu86.2⟩)⟩, (show y.m - (j + 1) < y.m - j from (by omega)), ⟨(by show _ = _;kernel_rfl), rfl, rfl⟩⟩⟩)⟩⟩⟩⟩⟩), fun h84 => (have := of_decide_eq_false h84;LKe (altGA (G := R) (fun zw => (j, v, zw)) ⟨(show j = y.m∧v.ok R∧v.l = arP y u.l j from ⟨by omega, hI.2⟩), (by show _ = _;kernel_rfl), ⟨(by show _ = _;kernel_rfl), (by show _ = _;kernel_rfl), (by show _ = _;kernel_rfl)⟩⟩))⟩)
theorem ratoms_own_L4_ct (y : L) (u : U) (a0 : Nat) (x1 : U×NV)  (R : RO) (hy : y.ok R) (hu : u.ok R) (hn : u.n + y.t.wt ≤ 1000000) (h0 : x1.1.ok R∧x1.1.l = arP y u.l 0) : CT Tryd.prog (sub (bodyOf Tryd.f23) [1, 1, 0, 1, 0]) ⟨(.agg y.row.toArray::.slice x1.1.a x1.1.n x1.1.c::ptA a0::undef::.slice none 0 0::uns 4 (ptA a0::vi y.k::urun x1.2 11 5 ((ptO a0 (4))::.slice y.pa y.m y.pc::vi (y.m : Int)::vi 0::uns 20 []))), [], [some (a0, .row y.row 47 5)]⟩ R (ratoms_own_L4_K y u a0 x1 R) :=
  CT.loop_eqs (ratoms_own_L4_inv y u a0 x1) (ratoms_own_L4_I y u a0 x1 R) (ratoms_own_L4_mu y u a0 x1) (fun zw => (0, x1.1, zw)) (by kernel_rfl) (by kernel_rfl) ⟨RO.le_refl R, (show 0 ≤ y.m∧x1.1.ok R∧x1.1.l = arP y u.l 0 from ⟨Nat.zero_le _, h0⟩)⟩
    (by
      rintro ⟨j, v, u33⟩ G hG ⟨hle, hI⟩
      have hy := L.ok_mono hle _ hy
      have hu := U.ok_mono hle hu
      exact ratoms_own_L4_body y u a0 x1 R G hle hy hu hn j v u33 hI)
noncomputable def ratoms_own_L9_inv (y : L) (u : U) (a0 : Nat) (x1 : U×NV) (x34 : Nat×U×NV)  : Nat×U×NV → St := fun zx => ⟨(.agg y.row.toArray::.slice zx.2.1.a zx.2.1.n zx.2.1.c::ptA a0::undef::.slice none 0 0::undef::(x34.2.2 6)::undef::(zx.2.2 8)::ptA a0::vi y.k::urun x1.2 11 5 ((ptO a0 (4))::.slice y.pa y.m y.pc::vi (y.m : Int)::vi (x34.1 : Int)::urun x34.2.2 20 8 ((ptO a0 (3))::.slice y.aa y.n y.ac::vi (y.n : Int)::vi ((zx.1 : Nat) : Int)::urun zx.2.2 32 7 (undef::[])))), [], [some (a0, .row y.row 47 5)]⟩
def ratoms_own_L9_I (y : L) (u : U) (a0 : Nat) (x1 : U×NV) (x34 : Nat×U×NV)  (R : RO) : Nat×U×NV → RO → Prop := fun zx G => R.le G∧(zx.1 ≤ y.n∧zx.2.1.ok G∧zx.2.1.l = arK y u.l zx.1)
def ratoms_own_L9_mu (y : L) (u : U) (a0 : Nat) (x1 : U×NV) (x34 : Nat×U×NV)  : Nat×U×NV → Nat := fun zx => y.n - zx.1
noncomputable def ratoms_own_L9_K (y : L) (u : U) (a0 : Nat) (x1 : U×NV) (x34 : Nat×U×NV)  (R : RO) : Exit' → St → RO → Prop := altPost R (.altG (Nat×U×NV) (fun zx G => zx.1 = y.n∧zx.2.1.ok G∧zx.2.1.l = arK y u.l zx.1) (fun zx => (.exit 2, ((ratoms_own_L9_inv y u a0 x1 x34 zx).up [] [some (a0, .row y.row 47 5)]))) (fun _ => .altn) .altn)
theorem ratoms_own_L9_body (y : L) (u : U) (a0 : Nat) (x1 : U×NV) (x34 : Nat×U×NV)  (R0 R : RO) (hle : R0.le R) (hrec : ∀ (j : Nat) (v : U) (R : RO), y.ok R → v.ok R → j < y.n → v.n + (y.kid j).t.wt ≤ 1000000 → Does Tryd.prog 23 [(y.kid j).v, .slice v.a v.n v.c] R [] (fun r G B => ∃ w : U, (w.ok G∧w.l = T.atR (y.kid j).t v.l)∧r = .ret (.slice w.a w.n w.c)∧B = [])) (hy : y.ok R) (hu : u.ok R) (hn : u.n + y.t.wt ≤ 1000000) (j : Nat) (v : U) (u40 : Nat → Value) (hI : j ≤ y.n∧v.ok R∧v.l = arK y u.l j) : CT Tryd.prog (sub (bodyOf Tryd.f23) [1, 1, 1, 0, 1, 0, 0]) (ratoms_own_L9_inv y u a0 x1 x34 (j, v, u40)) R (LK (ratoms_own_L9_inv y u a0 x1 x34) (ratoms_own_L9_I y u a0 x1 x34 R0) (ratoms_own_L9_mu y u a0 x1 x34) (ratoms_own_L9_K y u a0 x1 x34 R0) (j, v, u40)) :=
  CT.of_wp_eq (VC := (let z2 : List Value := y.row;let z1 : List Value := [vi ((y.kid j).k), vu ((y.kid j).id), .string ((y.kid j).s), .slice (y.kid j).aa ((y.kid j).n) ((y.kid j).ac), .slice (y.kid j).pa ((y.kid j).m) ((y.kid j).pc)];let z0 : Array Value := #[vi ((y.kid j).k), vu ((y.kid j).id), .string ((y.kid j).s), .slice (y.kid j).aa ((y.kid j).n) ((y.kid j).ac), .slice (y.kid j).pa ((y.kid j).m) ((y.kid j).pc)];((decide ((j : Int) < (y.n : Int))) = true → (y.aa = some ⟨y.AB, y.AO, none⟩∧(0 : Int) ≤ (j : Int)∧((j : Int) : Int) < (y.n : Int))∧(R.cells y.AB (y.AO + Int.toNat (j : Int) * 5) z1)∧∀ a92 : Nat, (a92 = a92)∧(a92 = a92)∧(Does Tryd.prog 23 [.agg z0, .slice v.a v.n v.c] R [] (fun r G B => ∃ u93 : U, (u93.ok G∧u93.l = T.atR (y.kid j).t v.l)∧r = .ret (.slice u93.a u93.n u93.c)∧B = []))∧∀ (u93 : U) (G94 : RO), R.le G94 → (u93.ok G94∧u93.l = T.atR (y.kid j).t v.l) → (NW .i64 ((j : Int) + 1))∧LK (ratoms_own_L9_inv y u a0 x1 x34) (ratoms_own_L9_I y u a0 x1 x34 R0) (ratoms_own_L9_mu y u a0 x1 x34) (ratoms_own_L9_K y u a0 x1 x34 R0) (j, v, u40) .normal ((ratoms_own_L9_inv y u a0 x1 x34 (j, v, u40)).up [(1, .slice u93.a u93.n u93.c), (8, ptA a92), (31, vi ((j : Int) + 1)), (32, .bool true), (33, (ptO y.AB (y.AO + Int.toNat (j : Int) * 5))), (34, .agg z0), (35, .agg z0), (36, .slice v.a v.n v.c), (37, .slice u93.a u93.n u93.c), (38, vi ((j : Int) + 1))] [some (a0, .row z2 47 5), some (a92, .row z1 47 5)]) G94)∧((decide ((j : Int) < (y.n : Int))) = false → LK (ratoms_own_L9_inv y u a0 x1 x34) (ratoms_own_L9_I y u a0 x1 x34 R0) (ratoms_own_L9_mu y u a0 x1 x34) (ratoms_own_L9_K y u a0 x1 x34 R0) (j, v, u40) (.exit 2) ((ratoms_own_L9_inv y u a0 x1 x34 (j, v, u40)).up [(32, .bool false)] [some (a0, .row z2 47 5)]) R))) (ops [.d] (.sp 32 (ops [.ib y.AB y.AO, .ro (fun v => [vi ((y.kid j).k), vu ((y.kid j).id), .string ((y.kid j).s), .slice (y.kid j).aa ((y.kid j).n) ((y.kid j).ac), .slice (y.kid j).pa ((y.kid j).m) ((y.kid j).pc)])] (.opn 1 (fun a92 => (ops [.p 1, .p 1, .d] (.opg [] [] (U) (fun u93 G => u93.ok G∧u93.l = T.atR (y.kid j).t v.l) (fun u93 => (.slice u93.a u93.n u93.c, [])) (fun u93 => (ops [.d, .nw, .d] (.fin [] [])))))))) (.fin [] []))) (by kernel_rfl)
    (⟨fun h91 => (have := of_decide_eq_true h91;⟨⟨(hy.arg (j := j) (by omega)).1, by omega, by omega⟩, ⟨(hy.arg (j := j) (by omega)).2, fun a92 => ⟨rfl, ⟨rfl, ⟨(hrec j v R hy hI.2.1 (by omega) (by have h9 := congrArg List.length hI.2.2;rw [U.l_len] at h9;have h8 := arK_len u.l (y := y) (j := j) (by omega);rw [U.l_len] at h8;omega)), fun u93 G94 hG94 qu93 => (have hle := RO.le_trans hle hG94;have hy := L.ok_mono hG94 _ hy;have hu := U.ok_mono hG94 hu;have hI := And.intro hI.1 (And.intro (U.ok_mono hG94 hI.2.1) hI.2.2);⟨(nwI (by omega) (by have h9 := L.wt_n y;have h8 := L.wt_m y;omega)), LKn (fun zw => ((j + 1), u93, zw)) ⟨⟨hle, (show (j + 1) ≤ y.n∧u93.ok G94∧u93.l = arK y u.l (j + 1) from ⟨by omega, qu93.1, by rw [arK_step, ← hI.2.2];exact qu93.2⟩)⟩, (show y.n - (j + 1) < y.n - j from (by omega)), ⟨(by show _ = _;kernel_rfl), rfl, rfl⟩⟩⟩)⟩⟩⟩⟩⟩), fun h91 => (have := of_decide_eq_false h91;LKe (altGA (G := R) (fun zw => (j, v, zw)) ⟨(show j = y.n∧v.ok R∧v.l = arK y u.l j from ⟨by omega, hI.2⟩), (by show _ = _;kernel_rfl), ⟨(by show _ = _;kernel_rfl), (by show _ = _;kernel_rfl), (by show _ = _;kernel_rfl)⟩⟩))⟩)
theorem ratoms_own_L9_ct (y : L) (u : U) (a0 : Nat) (x1 : U×NV) (x34 : Nat×U×NV)  (R : RO) (hrec : ∀ (j : Nat) (v : U) (R : RO), y.ok R → v.ok R → j < y.n → v.n + (y.kid j).t.wt ≤ 1000000 → Does Tryd.prog 23 [(y.kid j).v, .slice v.a v.n v.c] R [] (fun r G B => ∃ w : U, (w.ok G∧w.l = T.atR (y.kid j).t v.l)∧r = .ret (.slice w.a w.n w.c)∧B = [])) (hy : y.ok R) (hu : u.ok R) (hn : u.n + y.t.wt ≤ 1000000) (h0 : x34.1 = y.m∧x34.2.1.ok R∧x34.2.1.l = arP y u.l x34.1) : CT Tryd.prog (sub (bodyOf Tryd.f23) [1, 1, 1, 0, 1, 0]) ⟨(.agg y.row.toArray::.slice x34.2.1.a x34.2.1.n x34.2.1.c::ptA a0::undef::.slice none 0 0::undef::(x34.2.2 6)::undef::undef::ptA a0::vi y.k::urun x1.2 11 5 ((ptO a0 (4))::.slice y.pa y.m y.pc::vi (y.m : Int)::vi (x34.1 : Int)::urun x34.2.2 20 8 ((ptO a0 (3))::.slice y.aa y.n y.ac::vi (y.n : Int)::vi 0::uns 8 []))), [], [some (a0, .row y.row 47 5)]⟩ R (ratoms_own_L9_K y u a0 x1 x34 R) :=
  CT.loop_eqs (ratoms_own_L9_inv y u a0 x1 x34) (ratoms_own_L9_I y u a0 x1 x34 R) (ratoms_own_L9_mu y u a0 x1 x34) (fun zw => (0, x34.2.1, zw)) (by kernel_rfl) (by kernel_rfl) ⟨RO.le_refl R, (show 0 ≤ y.n∧x34.2.1.ok R∧x34.2.1.l = arK y u.l 0 from ⟨Nat.zero_le _, h0.2.1, by rw [h0.2.2, h0.1];rfl⟩)⟩
    (by
      rintro ⟨j, v, u40⟩ G hG ⟨hle, hI⟩
      have hy := L.ok_mono hle _ hy
      have hu := U.ok_mono hle hu
      exact ratoms_own_L9_body y u a0 x1 x34 R G hle hrec hy hu hn j v u40 hI)
theorem ratoms_own (y : L) (u : U) (R : RO) (hrec : ∀ (j : Nat) (v : U) (R : RO), y.ok R → v.ok R → j < y.n → v.n + (y.kid j).t.wt ≤ 1000000 → Does Tryd.prog 23 [(y.kid j).v, .slice v.a v.n v.c] R [] (fun r G B => ∃ w : U, (w.ok G∧w.l = T.atR (y.kid j).t v.l)∧r = .ret (.slice w.a w.n w.c)∧B = [])) (hy : y.ok R) (hu : u.ok R) (hn : u.n + y.t.wt ≤ 1000000) : Does Tryd.prog 23 [.agg y.row.toArray, .slice u.a u.n u.c] R [] (fun (r : Out) (G : RO) (B : Hp) => ∃ x : U, (x.ok G∧x.l = T.atR y.t u.l)∧r = .ret (.slice x.a x.n x.c)∧B = []) :=
  Does.of_wp_eq (VC := (let z1 : Array Value := y.row.toArray;∀ a0 : Nat, let z0 : Hp := [some (a0, .row y.row 47 5)];(a0 = a0)∧(CT Tryd.prog (sub (bodyOf Tryd.f23) [1, 0, 1]) ⟨(.agg z1::.slice u.a u.n u.c::ptA a0::undef::.slice none 0 0::uns 4 (ptA a0::vi y.k::.bool (y.k == 1)::uns 28 [])), [], z0⟩ R (altPost R (.altG (U×NV) (fun zx G => zx.1.ok G∧zx.1.l = arP y u.l 0) (fun zx => (.normal, ⟨(.agg z1::.slice zx.1.a zx.1.n zx.1.c::ptA a0::undef::.slice none 0 0::uns 4 (ptA a0::vi y.k::urun zx.2 11 5 (uns 24 []))), [], z0⟩)) (fun _ => .altn) .altn)))∧(∀ (x1 : U×NV) (G2 : RO), R.le G2 → (x1.1.ok G2∧x1.1.l = arP y u.l 0) → (a0 = a0)∧(CT Tryd.prog (sub (bodyOf Tryd.f23) [1, 1, 0, 1, 0]) ⟨(.agg z1::.slice x1.1.a x1.1.n x1.1.c::ptA a0::undef::.slice none 0 0::uns 4 (ptA a0::vi y.k::urun x1.2 11 5 ((ptO a0 (4))::.slice y.pa y.m y.pc::vi (y.m : Int)::vi 0::uns 20 []))), [], z0⟩ G2 (ratoms_own_L4_K y u a0 x1 G2))∧(∀ (x34 : Nat×U×NV) (G35 : RO), G2.le G35 → (x34.1 = y.m∧x34.2.1.ok G35∧x34.2.1.l = arP y u.l x34.1) → (a0 = a0)∧(CT Tryd.prog (sub (bodyOf Tryd.f23) [1, 1, 1, 0, 1, 0]) ⟨(.agg z1::.slice x34.2.1.a x34.2.1.n x34.2.1.c::ptA a0::undef::.slice none 0 0::undef::(x34.2.2 6)::undef::undef::ptA a0::vi y.k::urun x1.2 11 5 ((ptO a0 (4))::.slice y.pa y.m y.pc::vi (y.m : Int)::vi (x34.1 : Int)::urun x34.2.2 20 8 ((ptO a0 (3))::.slice y.aa y.n y.ac::vi (y.n : Int)::vi 0::uns 8 []))), [], z0⟩ G35 (ratoms_own_L9_K y u a0 x1 x34 G35))∧(∀ (x41 : Nat×U×NV) (G42 : RO), G35.le G42 → (x41.1 = y.n∧x41.2.1.ok G42∧x41.2.1.l = arK y u.l x41.1) → (fun (r : Out) (G : RO) (B : Hp) => ∃ x : U, (x.ok G∧x.l = T.atR y.t u.l)∧r = .ret (.slice x.a x.n x.c)∧B = []) (.ret (.slice x41.2.1.a x41.2.1.n x41.2.1.c)) G42 [])∧True)∧True)∧True)) (.opn 0 (fun a0 => let y_0 : Hp := [some (a0, .row y.row 47 5)];(ops [.d, .d, .p 0, .d] (.altG (U×NV) (fun zx G => zx.1.ok G∧zx.1.l = arP y u.l 0) (fun zx => (.normal, ⟨(.agg y.row.toArray::.slice zx.1.a zx.1.n zx.1.c::ptA a0::undef::.slice none 0 0::uns 4 (ptA a0::vi y.k::urun zx.2 11 5 (uns 24 []))), [], y_0⟩)) (fun x1 => (ops [.d, .p 0, .d, .d] (.altG (Nat×U×NV) (fun zx G => zx.1 = y.m∧zx.2.1.ok G∧zx.2.1.l = arP y u.l zx.1) (fun zx => (.exit 0, ((ratoms_own_L4_inv y u a0 x1 zx).up [] y_0))) (fun x34 => (ops [.d, .p 0, .d, .d] (.altG (Nat×U×NV) (fun zx G => zx.1 = y.n∧zx.2.1.ok G∧zx.2.1.l = arK y u.l zx.1) (fun zx => (.exit 2, ((ratoms_own_L9_inv y u a0 x1 x34 zx).up [] y_0))) (fun x41 => (ops [.d, .d] (.fin [] []))) .altn))) .altn))) .altn)))) Tryd.func23 (by kernel_rfl) (by kernel_rfl)
    (fun a0 => ⟨rfl, ⟨CT.of_wp_eq (VC := (let z2 : Array Value := y.row.toArray;let z1 : Hp := [some (a0, .row y.row 47 5)];let z0 : Sc := (.altG (U×NV) (fun zx G => zx.1.ok G∧zx.1.l = arP y u.l 0) (fun zx => (.normal, ⟨(.agg z2::.slice zx.1.a zx.1.n zx.1.c::ptA a0::undef::.slice none 0 0::uns 4 (ptA a0::vi y.k::urun zx.2 11 5 (uns 24 []))), [], z1⟩)) (fun _ => .altn) .altn);((y.k == 1) = true → (a0 = a0)∧(Does Tryd.prog 40 [.slice u.a u.n u.c, vu y.id] R [] (fun r G B => ∃ u2 : U, (u2.ok G∧u2.l = addL y.id u.l)∧r = .ret (.slice u2.a u2.n u2.c)∧B = []))∧∀ (u2 : U) (G3 : RO), R.le G3 → (u2.ok G3∧u2.l = addL y.id u.l) → altPost R z0 .normal ⟨(.agg z2::.slice u2.a u2.n u2.c::ptA a0::undef::.slice none 0 0::uns 4 (ptA a0::vi y.k::.bool true::.slice u.a u.n u.c::(ptO a0 (1))::vu y.id::.slice u2.a u2.n u2.c::uns 24 [])), [], z1⟩ G3)∧((y.k == 1) = false → altPost R z0 .normal ⟨(.agg z2::.slice u.a u.n u.c::ptA a0::undef::.slice none 0 0::uns 4 (ptA a0::vi y.k::.bool false::uns 28 [])), [], z1⟩ R))) (.sp 11 (ops [.d, .d, .p 0] (.opg [] [] (U) (fun u2 G => u2.ok G∧u2.l = addL y.id u.l) (fun u2 => (.slice u2.a u2.n u2.c, [])) (fun u2 => (ops [.d] (.fin [] []))))) (.fin [] [])) (by kernel_rfl) (⟨fun h1 => (have := eq_of_beq h1;⟨rfl, ⟨(add_ok u y.id R hu (by omega)), fun u2 G3 hG3 qu2 => (have hy := L.ok_mono hG3 _ hy;have hu := U.ok_mono hG3 hu;altGA (fun zw => (u2, zw)) ⟨(show u2.ok G3∧u2.l = arP y u.l 0 from ⟨qu2.1, by rw [qu2.2];exact (if_pos (by omega)).symm⟩), rfl, ⟨rfl, rfl, rfl⟩⟩)⟩⟩), fun h1 => (have := ne_of_beq_false h1;altGA (fun zw => (u, zw)) ⟨(show u.ok R∧u.l = arP y u.l 0 from ⟨hu, (if_neg (by omega)).symm⟩), rfl, ⟨rfl, rfl, rfl⟩⟩)⟩), ⟨fun x1 G2 hG2 qx1 => (have hy := L.ok_mono hG2 _ hy;have hu := U.ok_mono hG2 hu;⟨rfl, ⟨ratoms_own_L4_ct y u a0 x1 G2 hy hu hn qx1, ⟨fun x34 G35 hG35 qx34 => (have hy := L.ok_mono hG35 _ hy;have hu := U.ok_mono hG35 hu;have qx1 := And.intro (U.ok_mono hG35 qx1.1) qx1.2;⟨rfl, ⟨ratoms_own_L9_ct y u a0 x1 x34 G35 hrec hy hu hn qx34, ⟨fun x41 G42 hG42 qx41 => (have hy := L.ok_mono hG42 _ hy;have hu := U.ok_mono hG42 hu;have qx1 := And.intro (U.ok_mono hG42 qx1.1) qx1.2;have qx34 := And.intro qx34.1 (And.intro (U.ok_mono hG42 qx34.2.1) qx34.2.2);⟨x41.2.1, ⟨qx41.2.1, by rw [qx41.2.2, qx41.1, arK_all]⟩, (by rfl), (by rfl)⟩), trivial⟩⟩⟩), trivial⟩⟩⟩), trivial⟩⟩⟩)
theorem ratoms_ok : ∀ (h : Nat) (y : L) (u : U) (R : RO), y.t.ht ≤ h → y.ok R → u.ok R → u.n + y.t.wt ≤ 1000000 → Does Tryd.prog 23 [y.v, .slice u.a u.n u.c] R [] (fun r G B => ∃ w : U, (w.ok G∧w.l = T.atR y.t u.l)∧r = .ret (.slice w.a w.n w.c)∧B = []) := by
  intro h
  induction h with
  | zero => intro y u R hh;have := T.ht_pos y.t;omega
  | succ h ih => exact fun y u R hh hy hu hn => ratoms_own y u R (fun j v S h1 h2 hj h3 => ih (y.kid j) v S (by have := L.ht_kid hj;omega) (h1.kid hj) h2 h3) hy hu hn
end Go.Proofs.YtejpoojgbnppoaaDoor
namespace Go.Proofs.YtejpoojgbnppoaaDoor
open Vc Go
set_option linter.unusedVariables false
set_option linter.unusedSimpArgs false
structure Bij (f g : Int → Int) : Prop where
  fr : ∀ a, 0 ≤ a∧a ≤ 4294967295 → 0 ≤ f a∧f a ≤ 4294967295
  gr : ∀ a, 0 ≤ a∧a ≤ 4294967295 → 0 ≤ g a∧g a ≤ 4294967295
  gf : ∀ a, 0 ≤ a∧a ≤ 4294967295 → g (f a) = a
  fg : ∀ a, 0 ≤ a∧a ≤ 4294967295 → f (g a) = a
theorem Bij.symm {f g : Int → Int} (h : Bij f g) : Bij g f := ⟨h.gr, h.fr, h.fg, h.gf⟩
namespace T
theorem prod_src' {l : List PW} {p : PW} (h : p ∈ prod l) : ∃ q ∈ l, q.1 = p.1 := by
  obtain ⟨h1, h2⟩ := prod_mem.1 h
  refine Classical.byContradiction fun hn => h2 ?_
  rw [h1, sm_zero (fun q hq e => hn ⟨q, hq, e⟩), wrap_zero]
theorem atm_mk' (k i : Int) (s : ByteArray) (xs : List T) (ps : List PW) : atm (.mk k i s xs ps) = (if k = 1 then [i] else []) ++ ps.map (·.1) ++ atmL xs := rfl
theorem atm_head' {x : T} {a : Int} (h : a ∈ atm (x.xs.headD (word .empty))) : a ∈ atm x := by
  obtain ⟨k, i, s, xs, ps⟩ := x
  cases xs with
  | nil => rw [show List.headD (mk k i s [] ps).xs (word .empty) = word .empty from rfl] at h;simp [word, atm, atmL] at h
  | cons y l =>
    have h : a ∈ atm y := h
    rw [atm_mk']
    exact List.mem_append_right _ (List.mem_append_left _ h)
theorem atm_ps' {x : T} {p : PW} (h : p ∈ x.ps) : p.1 ∈ atm x := by
  obtain ⟨k, i, s, xs, ps⟩ := x
  rw [atm_mk']
  exact List.mem_append_left _ (List.mem_append_right _ (List.mem_map.2 ⟨p, h, rfl⟩))
theorem atm_one' {x : T} {l : List PW} {a : Int} (h : a ∈ atm (.mk 4 0 .empty [x] l)) : (∃ p ∈ l, p.1 = a) ∨ a ∈ atm x := by
  rw [atm_mk'] at h
  simpa [atmL] using h
theorem atm_pow' {x : T} {l : List PW} {a : Int} (h : a ∈ atm (pow x l)) : a ∈ atm x ∨ ∃ p ∈ l, p.1 = a := by
  unfold pow at h
  split at h
  · split at h
    · exact .inl (atm_head' h)
    · rcases atm_one' h with ⟨p, hp, rfl⟩ | h
      · obtain ⟨q, hq, e⟩ := prod_src' hp
        rcases List.mem_append.1 hq with hq | hq
        · rw [← e];exact .inl (atm_ps' hq)
        · exact .inr ⟨q, hq, e⟩
      · exact .inl (atm_head' h)
  · split at h
    · exact .inl h
    · rcases atm_one' h with ⟨p, hp, rfl⟩ | h
      · obtain ⟨q, hq, e⟩ := prod_src' hp
        exact .inr ⟨q, hq, e⟩
      · exact .inl h
def mpP (f : Int → Int) (ps : List PW) : List PW := ps.map fun p => (f p.1, p.2)
mutual
def ren (f : Int → Int) : T → T
  | .mk k i s xs ps => .mk k (if k = 1 then f i else i) s (renL f xs) (mpP f ps)
def renL (f : Int → Int) : List T → List T
  | [] => []
  | a::l => ren f a::renL f l
end
mutual
def rn (f : Int → Int) : T → T
  | .mk k i s xs ps => if k = 1 then atom (f i) else if k = 3 then .mk 3 0 s (rnL f xs) [] else if k = 4 then .mk 4 0 .empty (rnL f xs) (prod (mpP f ps)) else .mk k i s xs ps
def rnL (f : Int → Int) : List T → List T
  | [] => []
  | a::l => rn f a::rnL f l
end
theorem rn_k (f : Int → Int) (x : T) : (rn f x).k = x.k := by
  obtain ⟨k, i, s, xs, ps⟩ := x
  rw [rn]
  split
  · rename_i h;subst h;rfl
  · split
    · rename_i h;subst h;rfl
    · split
      · rename_i h;subst h;rfl
      · rfl
def rg (a : Int) : Prop := 0 ≤ a∧a ≤ 4294967295
theorem sm_mp {f g : Int → Int} (B : Bij f g) : ∀ {l : List PW}, (∀ p ∈ l, rg p.1) → ∀ {a : Int}, rg a → sm (mpP f l) a = sm l (g a)
  | [], _, _, _ => rfl
  | p::l, h, a, ha => by
    have ih := sm_mp B (l := l) (fun q hq => h q (List.mem_cons_of_mem _ hq)) ha
    have hp := h p (List.mem_cons_self ..)
    have e : (f p.1 = a) ↔ (p.1 = g a) := ⟨fun e => by rw [← e, B.gf _ hp], fun e => by rw [e, B.fg _ ha]⟩
    show (if f p.1 = a then p.2 else 0) + sm (mpP f l) a = (if p.1 = g a then p.2 else 0) + sm l (g a)
    rw [ih]
    by_cases h9 : p.1 = g a
    · rw [if_pos (e.2 h9), if_pos h9]
    · rw [if_neg (fun h8 => h9 (e.1 h8)), if_neg h9]
theorem mp_rg {f g : Int → Int} (B : Bij f g) {l : List PW} (h : ∀ p ∈ l, rg p.1) : ∀ p ∈ mpP f l, rg p.1 := fun p hp => by
  obtain ⟨q, hq, rfl⟩ := List.mem_map.1 hp
  exact B.fr _ (h q hq)
theorem prod_rg {l : List PW} (h : ∀ p ∈ l, rg p.1) : ∀ p ∈ prod l, rg p.1 := fun p hp => by
  obtain ⟨h1, h2⟩ := prod_mem.1 hp
  refine Classical.byContradiction fun hn => h2 ?_
  rw [h1, sm_zero (l := l) (fun q hq (e : q.1 = p.1) => hn (by rw [← e];exact h q hq)), wrap_zero]
theorem mem_mp {f g : Int → Int} (B : Bij f g) {ps : List PW} (h : ∀ p ∈ ps, rg p.1) (hp : prod ps = ps) {p : PW} (hm : p ∈ ps) : (f p.1, p.2) ∈ prod (mpP f ps) := by
  have h1 := prod_mem.1 (show p ∈ prod ps by rw [hp];exact hm)
  have hr := h p hm
  refine prod_mem.2 ⟨?_, h1.2⟩
  show p.2 = IntKind.i64.wrap (sm (mpP f ps) (f p.1))
  rw [sm_mp B h (B.fr _ hr), B.gf _ hr]
  exact h1.1
theorem mp_ne {f g : Int → Int} (B : Bij f g) {ps : List PW} (h : ∀ p ∈ ps, rg p.1) (hp : prod ps = ps) (hn : ps ≠ []) : prod (mpP f ps) ≠ [] := fun e => by
  cases ps with
  | nil => exact hn rfl
  | cons p l => have := mem_mp B h hp (List.mem_cons_self ..);rw [e] at this;cases this
theorem mp_back {f g : Int → Int} (B : Bij f g) {ps : List PW} (h : ∀ p ∈ ps, rg p.1) (hp : prod ps = ps) : prod (mpP g (prod (mpP f ps))) = ps := by
  rw [← hp]
  conv => rhs;rw [hp]
  have key : ∀ a, IntKind.i64.wrap (sm (mpP g (prod (mpP f (prod ps)))) a) = IntKind.i64.wrap (sm ps a) := fun a => by
    rw [hp]
    by_cases ha : rg a
    · rw [sm_mp B.symm (prod_rg (mp_rg B h)) ha, sm_prod, wrap_wrap, sm_mp B h (B.fr _ ha), B.gf _ ha]
    · rw [sm_zero (l := ps) (fun p hp (e : p.1 = a) => ha (by rw [← e];exact h p hp)), sm_zero (l := mpP g (prod (mpP f ps))) (fun p hp (e : p.1 = a) => ha (by rw [← e];exact mp_rg B.symm (prod_rg (mp_rg B h)) p hp))]
  rw [prod_congr key, hp]
def rng (t : T) : Prop := ∀ a ∈ atm t, rg a
theorem rng_kids {k i : Int} {s : ByteArray} {xs : List T} {ps : List PW} (h : rng (.mk k i s xs ps)) : (∀ a ∈ atmL xs, rg a)∧(∀ p ∈ ps, rg p.1)∧(k = 1 → rg i) :=
  ⟨fun a ha => h a (by rw [atm_mk'];exact List.mem_append_right _ ha), fun p hp => h _ (by rw [atm_mk'];exact List.mem_append_left _ (List.mem_append_right _ (List.mem_map.2 ⟨p, hp, rfl⟩))),
    fun hk => h i (by rw [atm_mk', if_pos hk];exact List.mem_append_left _ (List.mem_append_left _ (List.mem_singleton.2 rfl)))⟩
theorem rng_cons {a : T} {l : List T} (h : ∀ x ∈ atmL (a::l), rg x) : rng a∧∀ x ∈ atmL l, rg x :=
  ⟨fun x hx => h x (List.mem_append_left _ hx), fun x hx => h x (List.mem_append_right _ hx)⟩
mutual
theorem nrm_ren {f g : Int → Int} (B : Bij f g) : ∀ (x : T) (e e' : Nat), isN e x → rng x → e' ≤ e → nrm e' (ren f x) = rn f x
  | .mk k i s xs ps, e, e', hN, hr, he => by
    obtain ⟨r1, r2, r3⟩ := rng_kids hr
    have ihL := nrmL_ren B xs (e + 1) (e' + 1)
    by_cases hd : 40 < e
    · have hw := (isN_deep hd).1 hN
      simp only [word, mk.injEq] at hw
      obtain ⟨rfl, rfl, rfl, rfl, rfl⟩ := hw
      rw [ren, rn, nrm]
      simp [renL, mpP, word]
    · rw [isN, if_neg hd] at hN
      rw [ren, rn, nrm, if_neg (by omega)]
      rcases hN with ⟨rfl, rfl, rfl, rfl⟩ | ⟨rfl, rfl, rfl, rfl⟩ | ⟨rfl, rfl, rfl, h4⟩ | ⟨rfl, rfl, rfl, ⟨a, rfl, ha⟩, h5, h6, h7⟩
      · simp
      · simp [renL, mpP, word]
      · have ih := ihL h4 r1 (by omega)
        simp [ih, mpP]
      · have ih := ihL h5 r1 (by omega)
        simp only [renL, nrmL, rnL, List.cons.injEq, and_true] at ih
        have hne := mp_ne B r2 h6 h7
        simp only [renL, nrmL, ih, rnL, if_neg (show ¬ (4 : Int) = 1 by decide), if_neg (show ¬ (4 : Int) = 2 by decide), if_neg (show ¬ (4 : Int) = 3 by decide), if_true]
        unfold pow
        rw [if_neg (by rw [rn_k];exact ha), if_neg hne]
theorem nrmL_ren {f g : Int → Int} (B : Bij f g) : ∀ (l : List T) (e e' : Nat), isNL e l → (∀ a ∈ atmL l, rg a) → e' ≤ e → nrmL e' (renL f l) = rnL f l
  | [], _, _, _, _, _ => rfl
  | a::l, e, e', hN, hr, he => by
    have h1 := nrm_ren B a e e' hN.1 (rng_cons hr).1 he
    have h2 := nrmL_ren B l e e' hN.2 (rng_cons hr).2 he
    rw [renL, nrmL, rnL, h1, h2]
end
mutual
theorem rn_back {f g : Int → Int} (B : Bij f g) : ∀ (x : T) (e : Nat), isN e x → rng x → rn g (rn f x) = x
  | .mk k i s xs ps, e, hN, hr => by
    obtain ⟨r1, r2, r3⟩ := rng_kids hr
    have ihL := rnL_back B xs (e + 1)
    by_cases hd : 40 < e
    · have hw := (isN_deep hd).1 hN
      simp only [word, mk.injEq] at hw
      obtain ⟨rfl, rfl, rfl, rfl, rfl⟩ := hw
      simp [rn]
    · rw [isN, if_neg hd] at hN
      rcases hN with ⟨rfl, rfl, rfl, rfl⟩ | ⟨rfl, rfl, rfl, rfl⟩ | ⟨rfl, rfl, rfl, h4⟩ | ⟨rfl, rfl, rfl, ⟨a, rfl, ha⟩, h5, h6, h7⟩
      · simp [rn, atom, B.gf i (r3 rfl)]
      · simp [rn]
      · have ih := ihL h4 r1
        simp [rn, ih]
      · have ih := ihL h5 r1
        simp [rn, ih, mp_back B r2 h6]
theorem rnL_back {f g : Int → Int} (B : Bij f g) : ∀ (l : List T) (e : Nat), isNL e l → (∀ a ∈ atmL l, rg a) → rnL g (rnL f l) = l
  | [], _, _, _ => rfl
  | a::l, e, hN, hr => by rw [rnL, rnL, rn_back B a e hN.1 (rng_cons hr).1, rnL_back B l e hN.2 (rng_cons hr).2]
end
mutual
theorem rn_atm {f g : Int → Int} (B : Bij f g) : ∀ (x : T) (e : Nat), isN e x → rng x → ∀ a, a ∈ atm (rn f x) ↔ ∃ b ∈ atm x, f b = a
  | .mk k i s xs ps, e, hN, hr, a => by
    obtain ⟨r1, r2, r3⟩ := rng_kids hr
    have ihL := rnL_atm B xs (e + 1)
    by_cases hd : 40 < e
    · have hw := (isN_deep hd).1 hN
      simp only [word, mk.injEq] at hw
      obtain ⟨rfl, rfl, rfl, rfl, rfl⟩ := hw
      simp [rn, atm, atmL]
    · rw [isN, if_neg hd] at hN
      rcases hN with ⟨rfl, rfl, rfl, rfl⟩ | ⟨rfl, rfl, rfl, rfl⟩ | ⟨rfl, rfl, rfl, h4⟩ | ⟨rfl, rfl, rfl, ⟨y, rfl, ha⟩, h5, h6, h7⟩
      · simp [rn, atom, atm, atmL, eq_comm]
      · simp [rn, atm, atmL]
      · have ih := ihL h4 r1 a
        simp [rn, atm, ih]
      · have ih := ihL h5 r1 a
        simp only [rn, if_neg (show ¬ (4 : Int) = 1 by decide), if_neg (show ¬ (4 : Int) = 3 by decide), if_true, atm_mk', List.nil_append, List.mem_append, ih, List.mem_map]
        constructor
        · rintro (⟨p, hp, rfl⟩ | ⟨b, hb, rfl⟩)
          · obtain ⟨q, hq, e⟩ := prod_src' hp
            obtain ⟨q', hq', rfl⟩ := List.mem_map.1 hq
            exact ⟨q'.1, .inl ⟨q', hq', rfl⟩, e⟩
          · exact ⟨b, .inr hb, rfl⟩
        · rintro ⟨b, ⟨p, hp, rfl⟩ | hb, rfl⟩
          · exact .inl ⟨(f p.1, p.2), mem_mp B r2 h6 hp, rfl⟩
          · exact .inr ⟨b, hb, rfl⟩
theorem rnL_atm {f g : Int → Int} (B : Bij f g) : ∀ (l : List T) (e : Nat), isNL e l → (∀ a ∈ atmL l, rg a) → ∀ a, a ∈ atmL (rnL f l) ↔ ∃ b ∈ atmL l, f b = a
  | [], _, _, _, a => by simp [rnL, atmL]
  | y::l, e, hN, hr, a => by
    have h1 := rn_atm B y e hN.1 (rng_cons hr).1 a
    have h2 := rnL_atm B l e hN.2 (rng_cons hr).2 a
    rw [rnL]
    show a ∈ atm (rn f y) ++ atmL (rnL f l) ↔ ∃ b ∈ atm y ++ atmL l, f b = a
    rw [List.mem_append, h1, h2]
    constructor
    · rintro (⟨b, hb, e⟩ | ⟨b, hb, e⟩)
      · exact ⟨b, List.mem_append_left _ hb, e⟩
      · exact ⟨b, List.mem_append_right _ hb, e⟩
    · rintro ⟨b, hb, e⟩
      rcases List.mem_append.1 hb with hb | hb
      · exact .inl ⟨b, hb, e⟩
      · exact .inr ⟨b, hb, e⟩
end
mutual
theorem atm_okn : ∀ (t : T), okn t → rng t
  | .mk k i s xs ps, h => by
    obtain ⟨h1, h2, h3, h4⟩ := h
    have ih := atmL_okn xs h4
    intro a ha
    rw [atm_mk'] at ha
    rcases List.mem_append.1 ha with ha | ha
    · rcases List.mem_append.1 ha with ha | ha
      · split at ha
        · rcases List.mem_singleton.1 ha with rfl;exact h2
        · cases ha
      · obtain ⟨p, hp, rfl⟩ := List.mem_map.1 ha
        exact (h3 p hp).1
    · exact ih a ha
theorem atmL_okn : ∀ (l : List T), oknL l → ∀ a ∈ atmL l, rg a
  | [], _, a, ha => by cases ha
  | x::l, h, a, ha => by
    rcases List.mem_append.1 ha with ha | ha
    · exact atm_okn x h.1 a ha
    · exact atmL_okn l h.2 a ha
end
mutual
theorem atm_const (c : Int) : ∀ (x : T), ∀ a ∈ atm (ren (fun _ => c) x), a = c
  | .mk k i s xs ps, a, ha => by
    have ih := atmL_const c xs a
    rw [ren, atm_mk'] at ha
    rcases List.mem_append.1 ha with ha | ha
    · rcases List.mem_append.1 ha with ha | ha
      · split at ha
        · exact List.mem_singleton.1 ha
        · cases ha
      · obtain ⟨p, hp, rfl⟩ := List.mem_map.1 ha
        obtain ⟨q, hq, rfl⟩ := List.mem_map.1 hp
        rfl
    · exact ih ha
theorem atmL_const (c : Int) : ∀ (l : List T), ∀ a ∈ atmL (renL (fun _ => c) l), a = c
  | [], a, ha => by cases ha
  | x::l, a, ha => by
    rcases List.mem_append.1 ha with ha | ha
    · exact atm_const c x a ha
    · exact atmL_const c l a ha
end
mutual
theorem atm_nrm : ∀ (d : Nat) (t : T), ∀ a ∈ atm (nrm d t), a ∈ atm t
  | d, .mk k i s xs ps, a, ha => by
    have ih := atmL_nrm (d + 1) xs a
    rw [atm_mk']
    rw [nrm] at ha
    split at ha
    · simp [word, atm, atmL] at ha
    · split at ha
      · rename_i h
        simp only [atom, atm, atmL, List.map_nil, List.append_nil, if_true, List.mem_singleton] at ha
        subst ha
        rw [if_pos h];simp
      · split at ha
        · simp [word, atm, atmL] at ha
        · split at ha
          · have ha : a ∈ atmL (nrmL (d + 1) xs) := by simpa [atm] using ha
            exact List.mem_append_right _ (ih ha)
          · split at ha
            · split at ha
              · rename_i y e
                rw [e] at ih
                rcases atm_pow' ha with h | ⟨p, hp, rfl⟩
                · exact List.mem_append_right _ (ih (by simpa [atmL] using h))
                · exact List.mem_append_left _ (List.mem_append_right _ (List.mem_map.2 ⟨p, hp, rfl⟩))
              · simp [word, atm, atmL] at ha
            · simp [word, atm, atmL] at ha
theorem atmL_nrm : ∀ (d : Nat) (l : List T), ∀ a ∈ atmL (nrmL d l), a ∈ atmL l
  | d, [], a, ha => ha
  | d, x::l, a, ha => by
    rcases List.mem_append.1 ha with ha | ha
    · exact List.mem_append_left _ (atm_nrm d x a ha)
    · exact List.mem_append_right _ (atmL_nrm d l a ha)
end
end T
theorem strict_ext {l m : List Int} (hl : l.Pairwise (· < ·)) (hm : m.Pairwise (· < ·)) (h : ∀ a, a ∈ l ↔ a ∈ m) : l = m := by
  have e := T.sorted_ext (l := l.map fun x => (x, 0)) (m := m.map fun x => (x, 0)) (List.pairwise_map.2 hl) (List.pairwise_map.2 hm) (fun p => by
    simp only [List.mem_map]
    constructor
    · rintro ⟨a, ha, rfl⟩;exact ⟨a, (h a).1 ha, rfl⟩
    · rintro ⟨a, ha, rfl⟩;exact ⟨a, (h a).2 ha, rfl⟩)
  have := congrArg (List.map Prod.fst) e
  simpa [Function.comp_def] using this
theorem sortA_le (xs : List Int) : ∀ i j, i < j → j < xs.length → (sortA xs.toArray)[i]! ≤ (sortA xs.toArray)[j]! := by
  have hs := List.pairwise_mergeSort (le := fun (x y : Int) => decide (x ≤ y)) (fun a b c h1 h2 => by simp at *;omega) (fun a b => by simp;omega) xs
  have hsz : (sortA xs.toArray).size = xs.length := by rw [sortA_size];simp
  intro i j hij hj
  have h1 := List.pairwise_iff_getElem.1 hs i j (by simp;omega) (by simp;omega) hij
  rw [getElem!_pos _ i (by omega), getElem!_pos _ j (by omega)]
  simpa [sortA] using h1
theorem ddA_strict {d : Array Int} : ∀ {n : Nat}, (∀ i j, i < j → j < n → d[i]! ≤ d[j]!) → (ddA d n).Pairwise (· < ·)∧∀ x ∈ ddA d n, 0 < n∧x ≤ d[n - 1]!
  | 0, _ => by simp [ddA]
  | 1, _ => by simp [ddA]
  | n + 2, h => by
    obtain ⟨h1, h2⟩ := ddA_strict (n := n + 1) (fun i j hij hj => h i j hij (by omega))
    have h3 := h n (n + 1) (by omega) (by omega)
    rw [ddA]
    split
    · rename_i e
      refine ⟨h1, fun x hx => ⟨by omega, ?_⟩⟩
      have := (h2 x hx).2
      rw [Nat.add_sub_cancel] at this
      show x ≤ d[n + 1]!
      omega
    · rename_i e
      refine ⟨List.pairwise_append.2 ⟨h1, by simp, fun x hx y hy => ?_⟩, fun x hx => ⟨by omega, ?_⟩⟩
      · rcases List.mem_singleton.1 hy with rfl
        have := (h2 x hx).2
        rw [Nat.add_sub_cancel] at this
        omega
      · show x ≤ d[n + 1]!
        rcases List.mem_append.1 hx with hx | hx
        · have := (h2 x hx).2
          rw [Nat.add_sub_cancel] at this
          omega
        · rcases List.mem_singleton.1 hx with rfl;exact Int.le_refl _
theorem atS_strict (ts : List T) : (atS ts).Pairwise (· < ·) := (ddA_strict (sortA_le (atL ts))).1
end Go.Proofs.YtejpoojgbnppoaaDoor
namespace Go.Proofs.YtejpoojgbnppoaaDoor
open Vc Go
set_option linter.unusedVariables false
set_option linter.unusedSimpArgs false
def insI (n : Int) : List Int → List Int
  | [] => [n]
  | x::l => if x = n then x::l else if n < x then n::x::l else x::insI n l
theorem adA {n : Int} : ∀ (l xs : List Int), l.foldl (addS n) (xs, true) = (xs ++ l, true)
  | [], xs => by simp
  | x::l, xs => by
    rw [List.foldl_cons, show addS n (xs, true) x = (xs ++ [x], true) from rfl, adA l]
    simp
theorem adB {n : Int} : ∀ (l xs : List Int), (if (l.foldl (addS n) (xs, false)).2 = true then (l.foldl (addS n) (xs, false)).1 else (l.foldl (addS n) (xs, false)).1 ++ [n]) = xs ++ insI n l
  | [], xs => rfl
  | x::l, xs => by
    rw [List.foldl_cons, insI]
    by_cases e1 : x = n
    · have e : addS n (xs, false) x = (xs ++ [x], true) := by
        unfold addS addM
        rw [show (x == n) = true from beq_of_eq e1];rfl
      rw [e, adA, if_pos rfl, if_pos e1];simp
    · by_cases e2 : n < x
      · have e : addS n (xs, false) x = (xs ++ [n] ++ [x], true) := by
          unfold addS addM
          rw [show (x == n) = false from beq_false_of_ne e1, show decide (n < x) = true from decide_eq_true e2];rfl
        rw [e, adA, if_pos rfl, if_neg e1, if_pos e2];simp
      · have e : addS n (xs, false) x = (xs ++ [x], false) := by
          unfold addS addM
          rw [show (x == n) = false from beq_false_of_ne e1, show decide (n < x) = false from decide_eq_false e2];rfl
        rw [e, adB l, if_neg e1, if_neg e2];simp
theorem addL_ins (n : Int) (l : List Int) : addL n l = insI n l := by
  have := adB (n := n) l []
  rw [List.nil_append] at this
  exact this
theorem insI_mem {n a : Int} : ∀ {l : List Int}, a ∈ insI n l ↔ a = n ∨ a ∈ l
  | [] => by simp [insI]
  | x::l => by
    rw [insI]
    split
    · rename_i e;subst e;simp
    · split
      · simp
      · rw [List.mem_cons, insI_mem, List.mem_cons]
        constructor
        · rintro (h | h | h)
          · exact .inr (.inl h)
          · exact .inl h
          · exact .inr (.inr h)
        · rintro (h | h | h)
          · exact .inr (.inl h)
          · exact .inl h
          · exact .inr (.inr h)
theorem insI_sort {n : Int} : ∀ {l : List Int}, l.Pairwise (· < ·) → (insI n l).Pairwise (· < ·)
  | [], _ => List.pairwise_singleton _ _
  | x::l, h => by
    obtain ⟨h1, h2⟩ := List.pairwise_cons.1 h
    rw [insI]
    split
    · exact h
    · split
      · rename_i hlt
        refine List.pairwise_cons.2 ⟨fun q hq => ?_, h⟩
        rcases List.mem_cons.1 hq with rfl | hq
        · exact hlt
        · have := h1 q hq;omega
      · refine List.pairwise_cons.2 ⟨fun q hq => ?_, insI_sort h2⟩
        rcases insI_mem.1 hq with rfl | hq
        · omega
        · exact h1 q hq
abbrev ASp (l m : List Int) (s : List Int) : Prop := l.Pairwise (· < ·)∧∀ a, a ∈ l ↔ a ∈ m ∨ a ∈ s
theorem addP_sp : ∀ (ps : List PW) (l : List Int), l.Pairwise (· < ·) → ASp (ps.foldl (fun l p => addL p.1 l) l) l (ps.map (·.1))
  | [], l, h => ⟨h, by simp⟩
  | p::ps, l, h => by
    obtain ⟨h1, h2⟩ := addP_sp ps (addL p.1 l) (by rw [addL_ins];exact insI_sort h)
    refine ⟨h1, fun a => ?_⟩
    rw [List.foldl_cons, h2, addL_ins, insI_mem, List.map_cons, List.mem_cons]
    constructor
    · rintro ((h | h) | h)
      · exact .inr (.inl h)
      · exact .inl h
      · exact .inr (.inr h)
    · rintro (h | h | h)
      · exact .inl (.inr h)
      · exact .inl (.inl h)
      · exact .inr h
namespace T
mutual
theorem atR_sp : ∀ (t : T) (l : List Int), l.Pairwise (· < ·) → ASp (atR t l) l t.atm
  | .mk k i s xs ps, l, h => by
    have h0 : ASp (if k = 1 then addL i l else l) l (if k = 1 then [i] else []) := by
      split
      · rw [addL_ins]
        refine ⟨insI_sort h, fun a => ?_⟩
        rw [insI_mem, List.mem_singleton];exact Or.comm
      · exact ⟨h, by simp⟩
    obtain ⟨h1, h2⟩ := addP_sp ps _ h0.1
    obtain ⟨h3, h4⟩ := atRL_sp xs _ h1
    rw [atR]
    refine ⟨h3, fun a => ?_⟩
    rw [h4, h2, h0.2]
    show _ ↔ _ ∨ a ∈ (if k = 1 then [i] else []) ++ ps.map (·.1) ++ atmL xs
    rw [List.mem_append, List.mem_append, or_assoc, or_assoc, or_assoc]
theorem atRL_sp : ∀ (xs : List T) (l : List Int), l.Pairwise (· < ·) → ASp (atRL xs l) l (atmL xs)
  | [], l, h => by rw [atRL];exact ⟨h, by simp [atmL]⟩
  | a::xs, l, h => by
    obtain ⟨h1, h2⟩ := atR_sp a l h
    obtain ⟨h3, h4⟩ := atRL_sp xs _ h1
    rw [atRL]
    refine ⟨h3, fun b => ?_⟩
    rw [h4, h2]
    show _ ↔ _ ∨ b ∈ atm a ++ atmL xs
    rw [List.mem_append, or_assoc]
end
theorem atR_two (a b : T) : atS [a, b] = atR (nrm 1 b) (atR (nrm 1 a) []) := by
  obtain ⟨h1, h2⟩ := atR_sp (nrm 1 a) [] List.Pairwise.nil
  obtain ⟨h3, h4⟩ := atR_sp (nrm 1 b) _ h1
  refine strict_ext (atS_strict _) h3 fun x => ?_
  rw [mem_atS, h4, h2]
  simp
end T
end Go.Proofs.YtejpoojgbnppoaaDoor
namespace Go.Proofs.YtejpoojgbnppoaaDoor
open Vc Go
set_option linter.unusedVariables false
set_option linter.unusedSimpArgs false
abbrev KI (n : Nat) (F : Nat → T) (G : RO) (j : Nat) (b : Option Nat) (cap : Nat) (Lr : List Value) (zs : List L) : Prop :=
  j ≤ n∧(b = none → cap = 0)∧j ≤ cap∧cap ≤ maxLen∧zs.length = j∧Lr = rowsL zs∧(∀ z ∈ zs, z.ok G)∧zs.map L.t = (List.range j).map F
theorem kI_mono {R S : RO} (h : R.le S) {n j : Nat} {F : Nat → T} {b : Option Nat} {cap : Nat} {Lr : List Value} {zs : List L} (hI : KI n F R j b cap Lr zs) : KI n F S j b cap Lr zs :=
  ⟨hI.1, hI.2.1, hI.2.2.1, hI.2.2.2.1, hI.2.2.2.2.1, hI.2.2.2.2.2.1, fun z hz => L.ok_mono h z (hI.2.2.2.2.2.2.1 z hz), hI.2.2.2.2.2.2.2⟩
theorem kI_step {R : RO} {n j : Nat} {F : Nat → T} {b : Option Nat} {cap a c : Nat} {Lr : List Value} {zs : List L} {z : L} (hI : KI n F R j b cap Lr zs) (hj : j < n) (h1 : j + 1 ≤ c) (h2 : c ≤ maxLen) (h3 : z.ok R) (h4 : z.t = F j) :
    KI n F R (j + 1) (some a) c (Lr ++ z.row) (zs ++ [z]) := by
  refine ⟨hj, fun h => (by cases h), h1, h2, ?_, ?_, fun x hx => ?_, ?_⟩
  · rw [List.length_append, hI.2.2.2.2.1];rfl
  · rw [rowsL_snoc, hI.2.2.2.2.2.1]
  · rcases List.mem_append.1 hx with hx | hx
    · exact hI.2.2.2.2.2.2.1 x hx
    · rcases List.mem_singleton.1 hx with rfl;exact h3
  · rw [List.map_append, hI.2.2.2.2.2.2.2, List.range_succ, List.map_append]
    simp [h4]
theorem zat_map {zs : List L} {n : Nat} {F : Nat → T} (h : zs.map L.t = (List.range n).map F) {i : Nat} (hi : i < n) : (zat zs i).t = F i∧zat zs i ∈ zs := by
  have hl : zs.length = n := by have := congrArg List.length h;simpa using this
  have hz : i < zs.length := by omega
  rw [zat_get hz]
  have := congrArg (fun l => l[i]?) h
  simp [hz, hi] at this
  exact ⟨this, List.getElem_mem hz⟩
abbrev PI (n : Nat) (f : Nat → PW) (j : Nat) (b : Option Nat) (cap : Nat) (Lp : List Value) : Prop := j ≤ n∧Lp = powR ((List.range j).map f)∧(b = none → cap = 0)∧j ≤ cap∧cap ≤ maxLen
theorem pI_step {n j : Nat} {f : Nat → PW} {b : Option Nat} {cap a c : Nat} {Lp : List Value} (hI : PI n f j b cap Lp) (hj : j < n) (h1 : j + 1 ≤ c) (h2 : c ≤ maxLen) : PI n f (j + 1) (some a) c (Lp ++ ([vu (f j).1, vi (f j).2] : List Value)) :=
  ⟨hj, by rw [hI.2.1, List.range_succ, List.map_append];exact (powR_snoc _ _).symm, fun h => (by cases h), h1, h2⟩
structure TX where
  ab : Option Nat
  acap : Nat
  zs : List L
  pb : Option Nat
  pcap : Nat
structure TX.ok (n : Nat) (F : Nat → T) (m : Nat) (G : RO) (x : TX) : Prop where
  ok : ∀ z ∈ x.zs, z.ok G
  ts : x.zs.map L.t = (List.range n).map F
  a0 : x.ab = none → x.acap = 0
  ac : n ≤ x.acap
  am : x.acap ≤ maxLen
  p0 : x.pb = none → x.pcap = 0
  pc : m ≤ x.pcap
  pm : x.pcap ≤ maxLen
def TX.L (k i : Int) (s : ByteArray) (n m : Nat) (f : Nat → PW) (x : TX) : L := ⟨k, i, s, x.ab.map fun a => ⟨a, 0, none⟩, n, x.acap, x.ab.getD 0, 0, fun i => zat x.zs i, x.pb.map fun a => ⟨a, 0, none⟩, m, x.pcap, x.pb.getD 0, 0, f⟩
theorem TX.t {k i : Int} {s : ByteArray} {n m : Nat} {f : Nat → PW} {F : Nat → T} {G : RO} {x : TX} (h : x.ok n F m G) : (x.L k i s n m f).t = .mk k i s ((List.range n).map F) ((List.range m).map f) := by
  rw [L.t_eq]
  show T.mk k i s _ _ = _
  congr 1
  refine List.map_congr_left fun j hj => ?_
  have hj : j < n := List.mem_range.1 hj
  rw [L.kid_pos (y := x.L k i s n m f) hj]
  exact (zat_map h.ts hj).1
theorem TX.L_ok {k i : Int} {s : ByteArray} {n m : Nat} {f : Nat → PW} {F : Nat → T} {G : RO} {x : TX} (h : x.ok n F m G) (hp : ∀ a, x.pb = some a → G.cells a 0 (powR ((List.range m).map f))) (ha : ∀ a, x.ab = some a → G.cells a 0 (rowsL x.zs)) : (x.L k i s n m f).ok G := by
  rw [L.ok_eq]
  have hl : x.zs.length = n := by have := congrArg List.length h.ts;simpa using this
  refine ⟨⟨h.ac, h.am, h.pc, h.pm⟩, fun j hj => ?_, fun j hj => ?_⟩
  · have hj' : j < n := hj
    have hj2 : j < x.zs.length := by omega
    rw [L.kid_pos hj]
    cases hb : x.ab with
    | none => have := h.a0 hb;have := h.ac;omega
    | some a =>
      have e : (x.L k i s n m f).kd ⟨j, hj⟩ = x.zs[j] := zat_get hj2
      rw [e]
      refine ⟨by show (x.ab.map fun a => (⟨a, 0, none⟩ : Addr)) = some ⟨x.ab.getD 0, 0, none⟩;rw [hb];rfl, ?_, h.ok _ (List.getElem_mem hj2)⟩
      have h6 := RO.cells_sub (i := j * 5) (ha a hb) (l := x.zs[j].row) (rowsL_at hj2)
      show G.cells (x.ab.getD 0) _ _
      rw [hb];exact h6
  · have hj' : j < m := hj
    cases hb : x.pb with
    | none => have := h.p0 hb;have := h.pc;omega
    | some a =>
      refine ⟨by show (x.pb.map fun a => (⟨a, 0, none⟩ : Addr)) = some ⟨x.pb.getD 0, 0, none⟩;rw [hb];rfl, ?_⟩
      have h6 := RO.cells_sub (i := j * 2) (hp a hb) (l := [vu (f j).1, vi (f j).2]) (by
        show List.take 2 _ = _
        rw [powR_at (l := (List.range m).map f) (j := j) (by simpa using hj')];simp)
      show G.cells (x.pb.getD 0) _ _
      rw [hb];exact h6
theorem TX.mono {n m : Nat} {F : Nat → T} {R S : RO} {x : TX} (hle : R.le S) (h : x.ok n F m R) : x.ok n F m S := ⟨fun z hz => L.ok_mono hle z (h.ok z hz), h.ts, h.a0, h.ac, h.am, h.p0, h.pc, h.pm⟩
theorem tx_ok {n m : Nat} {F : Nat → T} {G : RO} {j : Nat} {b : Option Nat} {cap : Nat} {Lr : List Value} {zs : List L} {f : Nat → PW} {j2 : Nat} {pb : Option Nat} {pcap : Nat} {Lp : List Value} (h : j = n∧KI n F G j b cap Lr zs) (p : j2 = m∧PI m f j2 pb pcap Lp) : TX.ok n F m G ⟨b, cap, zs, pb, pcap⟩ := by
  obtain ⟨rfl, h⟩ := h
  obtain ⟨rfl, p⟩ := p
  exact ⟨h.2.2.2.2.2.2.1, h.2.2.2.2.2.2.2, h.2.1, h.2.2.1, h.2.2.2.1, p.2.2.1, p.2.2.2.1, p.2.2.2.2⟩
theorem tx_ret {k i : Int} {s : ByteArray} {j n j2 m cap cap2 : Nat} {b b2 : Option Nat} (h : j = n) (h2 : j2 = m) : Out.ret (.agg #[vi k, vu i, .string s, gsv b j cap, gsv b2 j2 cap2]) = Out.ret (.agg #[vi k, vu i, .string s, gsv b n cap, gsv b2 m cap2]) := by rw [h, h2]
theorem tx_hp {pb ab : Option Nat} {Lp Lr l1 l2 : List Value} {n1 n2 : Nat} (h1 : Lr = l1) (h2 : Lp = l2) : [gsb ab Lr 47 n1, gsb pb Lp 65 n2] = [gsb ab l1 47 n1, gsb pb l2 65 n2] := by rw [h1, h2]
noncomputable def to_own_L3_inv (y : L) (a0 : Nat) (a1 : Nat) (a2 : Nat)  : Nat×Option Nat×Nat×List Value×List L×NV → St := fun zx => ⟨(.agg y.row.toArray::ptA a0::ptA a1::ptA a2::undef::(zx.2.2.2.2.2 5)::undef::undef::ptA a0::vi y.k::(ptO a0 (1))::vu y.id::(ptO a0 (2))::.string y.s::.agg #[vi y.k, vu y.id, .string y.s, .slice none 0 0, .slice none 0 0]::(ptO a0 (3))::.slice y.aa y.n y.ac::vi (y.n : Int)::vi ((zx.1 : Nat) : Int)::urun zx.2.2.2.2.2 19 11 (uns 15 [])), [], [some (a0, .row y.row 30 5), some (a1, .row [vi 0, vu 0, .string ByteArray.empty, .slice none 0 0, .slice none 0 0] 47 5), some (a2, .row [vi y.k, vu y.id, .string y.s, gsv zx.2.1 zx.1 zx.2.2.1, .slice none 0 0] 47 5), gsb zx.2.1 zx.2.2.2.1 47 (zx.2.2.1 * 5)]⟩
def to_own_L3_I (y : L) (a0 : Nat) (a1 : Nat) (a2 : Nat)  (R : RO) : Nat×Option Nat×Nat×List Value×List L×NV → RO → Prop := fun zx G => R.le G∧(KI y.n (fun i => (y.kid i).t) G zx.1 zx.2.1 zx.2.2.1 zx.2.2.2.1 zx.2.2.2.2.1)
def to_own_L3_mu (y : L) (a0 : Nat) (a1 : Nat) (a2 : Nat)  : Nat×Option Nat×Nat×List Value×List L×NV → Nat := fun zx => y.n - zx.1
noncomputable def to_own_L3_K (y : L) (a0 : Nat) (a1 : Nat) (a2 : Nat)  (R : RO) : Exit' → St → RO → Prop := altPost R (.altG (Nat×Option Nat×Nat×List Value×List L×NV) (fun zx G => zx.1 = y.n∧KI y.n (fun i => (y.kid i).t) G zx.1 zx.2.1 zx.2.2.1 zx.2.2.2.1 zx.2.2.2.2.1) (fun zx => (.exit 0, ((to_own_L3_inv y a0 a1 a2 zx).up [] [some (a0, .row y.row 30 5), some (a1, .row [vi 0, vu 0, .string ByteArray.empty, .slice none 0 0, .slice none 0 0] 47 5), some (a2, .row [vi y.k, vu y.id, .string y.s, gsv zx.2.1 zx.1 zx.2.2.1, .slice none 0 0] 47 5), gsb zx.2.1 zx.2.2.2.1 47 (zx.2.2.1 * 5)]))) (fun _ => .altn) .altn)
theorem to_own_L3_body (y : L) (a0 : Nat) (a1 : Nat) (a2 : Nat)  (R0 R : RO) (hle : R0.le R) (hrec : ∀ (j : Nat) (R : RO), y.ok R → j < y.n → Does Tryd.prog 17 [(y.kid j).v] R [] (fun r G B => ∃ z : L, (z.ok G∧z.t = (y.kid j).t)∧r = .ret z.v∧B = [])) (hy : y.ok R) (hw : y.t.wt ≤ 1000000) (j : Nat) (b : Option Nat) (cap : Nat) (Lr : List Value) (zs : List L) (u3 : Nat → Value) (hI : KI y.n (fun i => (y.kid i).t) R j b cap Lr zs) : CT Tryd.prog (sub (bodyOf Tryd.f17) [1, 1, 0, 1, 0, 0]) (to_own_L3_inv y a0 a1 a2 (j, b, cap, Lr, zs, u3)) R (LK (to_own_L3_inv y a0 a1 a2) (to_own_L3_I y a0 a1 a2 R0) (to_own_L3_mu y a0 a1 a2) (to_own_L3_K y a0 a1 a2 R0) (j, b, cap, Lr, zs, u3)) :=
  CT.of_wp_eq (VC := (let z4 : List Value := [vi 0, vu 0, .string ByteArray.empty, .slice none 0 0, .slice none 0 0];let z3 : List Value := y.row;let z2 : List Value := [vi ((y.kid j).k), vu ((y.kid j).id), .string ((y.kid j).s), .slice (y.kid j).aa ((y.kid j).n) ((y.kid j).ac), .slice (y.kid j).pa ((y.kid j).m) ((y.kid j).pc)];let z1 : Array Value := #[vi ((y.kid j).k), vu ((y.kid j).id), .string ((y.kid j).s), .slice (y.kid j).aa ((y.kid j).n) ((y.kid j).ac), .slice (y.kid j).pa ((y.kid j).m) ((y.kid j).pc)];((decide ((j : Int) < (y.n : Int))) = true → (y.aa = some ⟨y.AB, y.AO, none⟩∧(0 : Int) ≤ (j : Int)∧((j : Int) : Int) < (y.n : Int))∧(R.cells y.AB (y.AO + Int.toNat (j : Int) * 5) z2)∧∀ a55 : Nat, (a55 = a55)∧(a2 = a2)∧(a55 = a55)∧(Does Tryd.prog 17 [.agg z1] R [] (fun r G B => ∃ z56 : L, (z56.ok G∧z56.t = (y.kid j).t)∧r = .ret (.agg z56.row.toArray)∧B = []))∧∀ (z56 : L) (G57 : RO), let z0 : List Value := z56.row;R.le G57 → (z56.ok G57∧z56.t = (y.kid j).t) → ∀ a58 : Nat, (PrimOK Tryd.prog (.app 44 44 44 (gsv b j cap) (slA a58 1 1)) G57 [gsb b Lr 47 (cap * 5), some (a58, .row z0 47 5)] (Nat×Nat) (fun y59 => j + 1 ≤ y59.2∧y59.2 ≤ maxLen) (fun y59 => (.slice (some ⟨y59.1, 0, none⟩) (j + 1) y59.2, [some (y59.1, .row (Lr ++ (z0 : List Value)) 47 (y59.2 * 5)), some (a58, .row z0 47 5)])))∧∀ (y59 : Nat×Nat) (qy59 : j + 1 ≤ y59.2∧y59.2 ≤ maxLen), (a2 = a2)∧(NW .i64 ((j : Int) + 1))∧LK (to_own_L3_inv y a0 a1 a2) (to_own_L3_I y a0 a1 a2 R0) (to_own_L3_mu y a0 a1 a2) (to_own_L3_K y a0 a1 a2 R0) (j, b, cap, Lr, zs, u3) .normal ((to_own_L3_inv y a0 a1 a2 (j, b, cap, Lr, zs, u3)).up [(5, ptA a55), (18, vi ((j : Int) + 1)), (19, .bool true), (20, (ptO y.AB (y.AO + Int.toNat (j : Int) * 5))), (21, .agg z1), (22, (ptO a2 (3))), (23, gsv b j cap), (24, .agg z1), (25, .agg z56.row.toArray), (26, slA a58 1 1), (27, .slice (some ⟨y59.1, 0, none⟩) (j + 1) y59.2), (28, (ptO a2 (3))), (29, vi ((j : Int) + 1))] [some (a0, .row z3 30 5), some (a1, .row z4 47 5), some (a2, .row [vi y.k, vu y.id, .string y.s, .slice (some ⟨y59.1, 0, none⟩) (j + 1) y59.2, .slice none 0 0] 47 5), some (y59.1, .row (Lr ++ (z0 : List Value)) 47 (y59.2 * 5)), some (a55, .row z2 30 5), some (a58, .row z0 47 5)]) G57)∧((decide ((j : Int) < (y.n : Int))) = false → LK (to_own_L3_inv y a0 a1 a2) (to_own_L3_I y a0 a1 a2 R0) (to_own_L3_mu y a0 a1 a2) (to_own_L3_K y a0 a1 a2 R0) (j, b, cap, Lr, zs, u3) (.exit 0) ((to_own_L3_inv y a0 a1 a2 (j, b, cap, Lr, zs, u3)).up [(19, .bool false)] [some (a0, .row z3 30 5), some (a1, .row z4 47 5), some (a2, .row [vi y.k, vu y.id, .string y.s, gsv b j cap, .slice none 0 0] 47 5), gsb b Lr 47 (cap * 5)]) R))) (ops [.d] (.sp 19 (ops [.ib y.AB y.AO, .ro (fun v => [vi ((y.kid j).k), vu ((y.kid j).id), .string ((y.kid j).s), .slice (y.kid j).aa ((y.kid j).n) ((y.kid j).ac), .slice (y.kid j).pa ((y.kid j).m) ((y.kid j).pc)])] (.opn 4 (fun a55 => (ops [.p 4] (.dr [some (.d), some (.p 2), some (.p 4), some (.callG [] [] (L) (fun e v z56 G => z56.ok G∧z56.t = (y.kid j).t) (fun e v z56 => (.agg z56.row.toArray, []))), some (.n 5), some (.pr [3, 5] [] (Nat×Nat) (fun e v y59 => j + 1 ≤ y59.2∧y59.2 ≤ maxLen) (fun e v y59 => (.slice (some ⟨y59.1, 0, none⟩) (j + 1) y59.2, [some (y59.1, .row (Lr ++ ((rowc e 1) : List Value)) 47 (y59.2 * 5)), some ((adr e 1), .row (rowc e 1) 47 5)]))), some (.d), some (.p 2)] (ops [.nw, .d] (.fin [] []))))))) (.fin [] []))) (by kernel_rfl)
    (⟨fun h54 => (have := of_decide_eq_true h54;⟨⟨(hy.arg (j := j) (by omega)).1, by omega, by omega⟩, ⟨(hy.arg (j := j) (by omega)).2, fun a55 => ⟨rfl, ⟨rfl, ⟨rfl, ⟨(hrec j R hy (by omega)), fun z56 G57 hG57 qz56 => (have hle := RO.le_trans hle hG57;have hy := L.ok_mono hG57 _ hy;have hI := kI_mono hG57 hI;fun a58 => ⟨(app1_ok (e := 47) (e' := 47) (z := 5) (by' := 80) (zc := [vi 0, vu 0, .string ByteArray.empty, .slice none 0 0, .slice none 0 0]) (b := b) (len := j) (cap := cap) (n := 1) (cs := Lr) (new := z56.row) (by kernel_rfl) (.inl (by kernel_rfl)) (by kernel_rfl) rfl (by rw [hI.2.2.2.2.2.1, rowsL_len, hI.2.2.2.2.1]) hI.2.2.1 hI.2.2.2.1 hI.2.1 ⟨rfl, .inr (.inr ⟨_, _, _, rfl, .inl ⟨1, _, _, _, rfl, rfl⟩⟩)⟩ (ones_spec rfl) (by have h9 := L.wt_n y;have h8 := L.wt_m y;omega) (by have h9 := L.wt_n y;have h8 := L.wt_m y;simp only [maxLen];omega) (by omega)), fun y59 qy59 => ⟨rfl, ⟨(nwI (by omega) (by have h9 := L.wt_n y;have h8 := L.wt_m y;omega)), LKn (fun zw => ((j + 1), (some y59.1), y59.2, (Lr ++ (z56.row : List Value)), (zs ++ [z56]), zw)) ⟨⟨hle, (show KI y.n (fun i => (y.kid i).t) G57 (j + 1) (some y59.1) y59.2 (Lr ++ (z56.row : List Value)) (zs ++ [z56]) from (kI_step hI (by omega) qy59.1 qy59.2 qz56.1 qz56.2))⟩, (show y.n - (j + 1) < y.n - j from (by omega)), ⟨(by show _ = _;kernel_rfl), rfl, rfl⟩⟩⟩⟩⟩)⟩⟩⟩⟩⟩⟩), fun h54 => (have := of_decide_eq_false h54;LKe (altGA (G := R) (fun zw => (j, b, cap, Lr, zs, zw)) ⟨(show j = y.n∧KI y.n (fun i => (y.kid i).t) R j b cap Lr zs from ⟨by have h9 := hI.1;omega, hI⟩), (by show _ = _;kernel_rfl), ⟨(by show _ = _;kernel_rfl), (by show _ = _;kernel_rfl), (by show _ = _;kernel_rfl)⟩⟩))⟩)
theorem to_own_L3_ct (y : L) (a0 : Nat) (a1 : Nat) (a2 : Nat)  (R : RO) (hrec : ∀ (j : Nat) (R : RO), y.ok R → j < y.n → Does Tryd.prog 17 [(y.kid j).v] R [] (fun r G B => ∃ z : L, (z.ok G∧z.t = (y.kid j).t)∧r = .ret z.v∧B = [])) (hy : y.ok R) (hw : y.t.wt ≤ 1000000)  : CT Tryd.prog (sub (bodyOf Tryd.f17) [1, 1, 0, 1, 0]) ⟨(.agg y.row.toArray::ptA a0::ptA a1::ptA a2::uns 4 (ptA a0::vi y.k::(ptO a0 (1))::vu y.id::(ptO a0 (2))::.string y.s::.agg #[vi y.k, vu y.id, .string y.s, .slice none 0 0, .slice none 0 0]::(ptO a0 (3))::.slice y.aa y.n y.ac::vi (y.n : Int)::vi 0::uns 26 [])), [], [some (a0, .row y.row 30 5), some (a1, .row [vi 0, vu 0, .string ByteArray.empty, .slice none 0 0, .slice none 0 0] 47 5), some (a2, .row [vi y.k, vu y.id, .string y.s, .slice none 0 0, .slice none 0 0] 47 5)]⟩ R (to_own_L3_K y a0 a1 a2 R) :=
  CT.pad 1 <| CT.loop_eqs (to_own_L3_inv y a0 a1 a2) (to_own_L3_I y a0 a1 a2 R) (to_own_L3_mu y a0 a1 a2) (fun zw => (0, (none : Option Nat), 0, ([] : List Value), ([] : List L), zw)) (by kernel_rfl) (by kernel_rfl) ⟨RO.le_refl R, (show KI y.n (fun i => (y.kid i).t) R 0 (none : Option Nat) 0 ([] : List Value) ([] : List L) from ⟨Nat.zero_le _, fun _ => rfl, Nat.le_refl _, by simp [maxLen], rfl, rfl, by simp, rfl⟩)⟩
    (by
      rintro ⟨j, b, cap, Lr, zs, u3⟩ G hG ⟨hle, hI⟩
      have hy := L.ok_mono hle _ hy
      exact to_own_L3_body y a0 a1 a2 R G hle hrec hy hw j b cap Lr zs u3 hI)
noncomputable def to_own_L8_inv (y : L) (a0 : Nat) (a1 : Nat) (a2 : Nat) (x4 : Nat×Option Nat×Nat×List Value×List L×NV)  : Nat×Option Nat×Nat×List Value×NV → St := fun zx => ⟨(.agg y.row.toArray::ptA a0::ptA a1::ptA a2::undef::(x4.2.2.2.2.2 5)::undef::(zx.2.2.2.2 7)::ptA a0::vi y.k::(ptO a0 (1))::vu y.id::(ptO a0 (2))::.string y.s::.agg #[vi y.k, vu y.id, .string y.s, .slice none 0 0, .slice none 0 0]::(ptO a0 (3))::.slice y.aa y.n y.ac::vi (y.n : Int)::vi (x4.1 : Int)::urun x4.2.2.2.2.2 19 11 ((ptO a0 (4))::.slice y.pa y.m y.pc::vi (y.m : Int)::vi ((zx.1 : Nat) : Int)::urun zx.2.2.2.2 34 10 (undef::[]))), [], [some (a0, .row y.row 30 5), some (a1, .row [vi 0, vu 0, .string ByteArray.empty, .slice none 0 0, .slice none 0 0] 47 5), some (a2, .row [vi y.k, vu y.id, .string y.s, gsv x4.2.1 x4.1 x4.2.2.1, gsv zx.2.1 zx.1 zx.2.2.1] 47 5), gsb x4.2.1 x4.2.2.2.1 47 (x4.2.2.1 * 5), gsb zx.2.1 zx.2.2.2.1 65 (zx.2.2.1 * 2)]⟩
def to_own_L8_I (y : L) (a0 : Nat) (a1 : Nat) (a2 : Nat) (x4 : Nat×Option Nat×Nat×List Value×List L×NV)  (R : RO) : Nat×Option Nat×Nat×List Value×NV → RO → Prop := fun zx G => G = R∧(PI y.m y.pw zx.1 zx.2.1 zx.2.2.1 zx.2.2.2.1)
def to_own_L8_mu (y : L) (a0 : Nat) (a1 : Nat) (a2 : Nat) (x4 : Nat×Option Nat×Nat×List Value×List L×NV)  : Nat×Option Nat×Nat×List Value×NV → Nat := fun zx => y.m - zx.1
noncomputable def to_own_L8_K (y : L) (a0 : Nat) (a1 : Nat) (a2 : Nat) (x4 : Nat×Option Nat×Nat×List Value×List L×NV)  (R : RO) : Exit' → St → RO → Prop := altPost R (.alt (Nat×Option Nat×Nat×List Value×NV) (fun zx => zx.1 = y.m∧PI y.m y.pw zx.1 zx.2.1 zx.2.2.1 zx.2.2.2.1) (fun zx => (.exit 2, ((to_own_L8_inv y a0 a1 a2 x4 zx).up [] [some (a0, .row y.row 30 5), some (a1, .row [vi 0, vu 0, .string ByteArray.empty, .slice none 0 0, .slice none 0 0] 47 5), some (a2, .row [vi y.k, vu y.id, .string y.s, gsv x4.2.1 x4.1 x4.2.2.1, gsv zx.2.1 zx.1 zx.2.2.1] 47 5), gsb x4.2.1 x4.2.2.2.1 47 (x4.2.2.1 * 5), gsb zx.2.1 zx.2.2.2.1 65 (zx.2.2.1 * 2)]))) (fun _ => .altn) .altn)
theorem to_own_L8_body (y : L) (a0 : Nat) (a1 : Nat) (a2 : Nat) (x4 : Nat×Option Nat×Nat×List Value×List L×NV)  (R : RO) (hy : y.ok R) (hw : y.t.wt ≤ 1000000) (j : Nat) (b : Option Nat) (cap : Nat) (Lr : List Value) (u10 : Nat → Value) (hI : PI y.m y.pw j b cap Lr) : CT Tryd.prog (sub (bodyOf Tryd.f17) [1, 1, 1, 0, 1, 0, 0]) (to_own_L8_inv y a0 a1 a2 x4 (j, b, cap, Lr, u10)) R (LK (to_own_L8_inv y a0 a1 a2 x4) (to_own_L8_I y a0 a1 a2 x4 R) (to_own_L8_mu y a0 a1 a2 x4) (to_own_L8_K y a0 a1 a2 x4 R) (j, b, cap, Lr, u10)) :=
  CT.of_wp_eq (VC := (let z2 : List Value := [vi 0, vu 0, .string ByteArray.empty, .slice none 0 0, .slice none 0 0];let z1 : List Value := y.row;let z0 : List Value := [vu ((y.pw j).1), vi ((y.pw j).2)];((decide ((j : Int) < (y.m : Int))) = true → (y.pa = some ⟨y.PB, y.PO, none⟩∧(0 : Int) ≤ (j : Int)∧((j : Int) : Int) < (y.m : Int))∧(R.cells y.PB (y.PO + Int.toNat (j : Int) * 2) z0)∧∀ a62 : Nat, (a62 = a62)∧(a2 = a2)∧(a62 = a62)∧∀ a63 : Nat, (PrimOK Tryd.prog (.app 45 45 45 (gsv b j cap) (slA a63 1 1)) R [gsb b Lr 65 (cap * 2), some (a63, .row z0 65 2)] (Nat×Nat) (fun y64 => j + 1 ≤ y64.2∧y64.2 ≤ maxLen) (fun y64 => (.slice (some ⟨y64.1, 0, none⟩) (j + 1) y64.2, [some (y64.1, .row (Lr ++ (z0 : List Value)) 65 (y64.2 * 2)), some (a63, .row z0 65 2)])))∧∀ y64 : Nat×Nat, (j + 1 ≤ y64.2∧y64.2 ≤ maxLen) → (a2 = a2)∧(NW .i64 ((j : Int) + 1))∧LK (to_own_L8_inv y a0 a1 a2 x4) (to_own_L8_I y a0 a1 a2 x4 R) (to_own_L8_mu y a0 a1 a2 x4) (to_own_L8_K y a0 a1 a2 x4 R) (j, b, cap, Lr, u10) .normal ((to_own_L8_inv y a0 a1 a2 x4 (j, b, cap, Lr, u10)).up [(7, ptA a62), (33, vi ((j : Int) + 1)), (34, .bool true), (35, (ptO y.PB (y.PO + Int.toNat (j : Int) * 2))), (36, .agg #[vu ((y.pw j).1), vi ((y.pw j).2)]), (37, (ptO a2 (4))), (38, gsv b j cap), (39, .agg #[vu ((y.pw j).1), vi ((y.pw j).2)]), (40, slA a63 1 1), (41, .slice (some ⟨y64.1, 0, none⟩) (j + 1) y64.2), (42, (ptO a2 (4))), (43, vi ((j : Int) + 1))] [some (a0, .row z1 30 5), some (a1, .row z2 47 5), some (a2, .row [vi y.k, vu y.id, .string y.s, gsv x4.2.1 x4.1 x4.2.2.1, .slice (some ⟨y64.1, 0, none⟩) (j + 1) y64.2] 47 5), gsb x4.2.1 x4.2.2.2.1 47 (x4.2.2.1 * 5), some (y64.1, .row (Lr ++ (z0 : List Value)) 65 (y64.2 * 2)), some (a62, .row z0 25 2), some (a63, .row z0 65 2)]) R)∧((decide ((j : Int) < (y.m : Int))) = false → LK (to_own_L8_inv y a0 a1 a2 x4) (to_own_L8_I y a0 a1 a2 x4 R) (to_own_L8_mu y a0 a1 a2 x4) (to_own_L8_K y a0 a1 a2 x4 R) (j, b, cap, Lr, u10) (.exit 2) ((to_own_L8_inv y a0 a1 a2 x4 (j, b, cap, Lr, u10)).up [(34, .bool false)] [some (a0, .row z1 30 5), some (a1, .row z2 47 5), some (a2, .row [vi y.k, vu y.id, .string y.s, gsv x4.2.1 x4.1 x4.2.2.1, gsv b j cap] 47 5), gsb x4.2.1 x4.2.2.2.1 47 (x4.2.2.1 * 5), gsb b Lr 65 (cap * 2)]) R))) (ops [.d] (.sp 34 (ops [.ib y.PB y.PO, .ro (fun v => [vu ((y.pw j).1), vi ((y.pw j).2)])] (.opn 5 (fun a62 => (ops [.p 5, .d, .p 2, .p 5] (.opn 6 (fun a63 => (.opp [4, 6] [] (Nat×Nat) (fun y64 => j + 1 ≤ y64.2∧y64.2 ≤ maxLen) (fun y64 => (.slice (some ⟨y64.1, 0, none⟩) (j + 1) y64.2, [some (y64.1, .row (Lr ++ ([vu ((y.pw j).1), vi ((y.pw j).2)] : List Value)) 65 (y64.2 * 2)), some (a63, .row [vu ((y.pw j).1), vi ((y.pw j).2)] 65 2)])) (fun y64 => (ops [.d, .p 2, .nw, .d] (.fin [] [])))))))))) (.fin [] []))) (by kernel_rfl)
    (⟨fun h61 => (have := of_decide_eq_true h61;⟨⟨(hy.pow j (by omega)).1, by omega, by omega⟩, ⟨(hy.pow j (by omega)).2, fun a62 => ⟨rfl, ⟨rfl, ⟨rfl, fun a63 => ⟨(app1_ok (e := 65) (e' := 65) (z := 2) (by' := 16) (zc := [vu 0, vi 0]) (b := b) (len := j) (cap := cap) (n := 1) (cs := Lr) (new := [vu ((y.pw j).1), vi ((y.pw j).2)]) (by kernel_rfl) (.inl (by kernel_rfl)) (by kernel_rfl) rfl (by rw [hI.2.1, powR_len];simp) hI.2.2.2.1 hI.2.2.2.2 hI.2.2.1 ⟨rfl, .inr (.inr ⟨_, _, _, rfl, .inl ⟨1, _, _, _, rfl, rfl⟩⟩)⟩ (ones_spec rfl) (by have h9 := L.wt_n y;have h8 := L.wt_m y;omega) (by have h9 := L.wt_n y;have h8 := L.wt_m y;simp only [maxLen];omega) (by omega)), fun y64 qy64 => ⟨rfl, ⟨(nwI (by omega) (by have h9 := L.wt_n y;have h8 := L.wt_m y;omega)), LKn (fun zw => ((j + 1), (some y64.1), y64.2, (Lr ++ ([vu ((y.pw j).1), vi ((y.pw j).2)] : List Value)), zw)) ⟨⟨rfl, (show PI y.m y.pw (j + 1) (some y64.1) y64.2 (Lr ++ ([vu ((y.pw j).1), vi ((y.pw j).2)] : List Value)) from (pI_step hI (by omega) qy64.1 qy64.2))⟩, (show y.m - (j + 1) < y.m - j from (by omega)), ⟨(by show _ = _;kernel_rfl), rfl, rfl⟩⟩⟩⟩⟩⟩⟩⟩⟩⟩), fun h61 => (have := of_decide_eq_false h61;altA (fun zw => (j, b, cap, Lr, zw)) ⟨(show j = y.m∧PI y.m y.pw j b cap Lr from ⟨by have h9 := hI.1;omega, hI⟩), (by show _ = _;kernel_rfl), ⟨(by show _ = _;kernel_rfl), (by show _ = _;kernel_rfl), (by show _ = _;kernel_rfl)⟩⟩)⟩)
theorem to_own_L8_ct (y : L) (a0 : Nat) (a1 : Nat) (a2 : Nat) (x4 : Nat×Option Nat×Nat×List Value×List L×NV)  (R : RO) (hy : y.ok R) (hw : y.t.wt ≤ 1000000)  : CT Tryd.prog (sub (bodyOf Tryd.f17) [1, 1, 1, 0, 1, 0]) ⟨(.agg y.row.toArray::ptA a0::ptA a1::ptA a2::undef::(x4.2.2.2.2.2 5)::undef::undef::ptA a0::vi y.k::(ptO a0 (1))::vu y.id::(ptO a0 (2))::.string y.s::.agg #[vi y.k, vu y.id, .string y.s, .slice none 0 0, .slice none 0 0]::(ptO a0 (3))::.slice y.aa y.n y.ac::vi (y.n : Int)::vi (x4.1 : Int)::urun x4.2.2.2.2.2 19 11 ((ptO a0 (4))::.slice y.pa y.m y.pc::vi (y.m : Int)::vi 0::uns 11 [])), [], [some (a0, .row y.row 30 5), some (a1, .row [vi 0, vu 0, .string ByteArray.empty, .slice none 0 0, .slice none 0 0] 47 5), some (a2, .row [vi y.k, vu y.id, .string y.s, gsv x4.2.1 x4.1 x4.2.2.1, .slice none 0 0] 47 5), gsb x4.2.1 x4.2.2.2.1 47 (x4.2.2.1 * 5)]⟩ R (to_own_L8_K y a0 a1 a2 x4 R) :=
  CT.pad 1 <| CT.loop_eqs (to_own_L8_inv y a0 a1 a2 x4) (to_own_L8_I y a0 a1 a2 x4 R) (to_own_L8_mu y a0 a1 a2 x4) (fun zw => (0, (none : Option Nat), 0, ([] : List Value), zw)) (by kernel_rfl) (by kernel_rfl) ⟨rfl, (show PI y.m y.pw 0 (none : Option Nat) 0 ([] : List Value) from ⟨Nat.zero_le _, rfl, fun _ => rfl, Nat.le_refl _, by simp [maxLen]⟩)⟩
    (by
      rintro ⟨j, b, cap, Lr, u10⟩ G hG ⟨rfl, hI⟩
      exact to_own_L8_body y a0 a1 a2 x4 _ hy hw j b cap Lr u10 hI)
theorem to_own (y : L) (R : RO) (hrec : ∀ (j : Nat) (R : RO), y.ok R → j < y.n → Does Tryd.prog 17 [(y.kid j).v] R [] (fun r G B => ∃ z : L, (z.ok G∧z.t = (y.kid j).t)∧r = .ret z.v∧B = [])) (hy : y.ok R) (hw : y.t.wt ≤ 1000000) : Does Tryd.prog 17 [.agg y.row.toArray] R [] (fun (r : Out) (G : RO) (B : Hp) => ∃ x : TX, (x.ok y.n (fun i => (y.kid i).t) y.m G)∧r = .ret (.agg #[vi y.k, vu y.id, .string y.s, gsv x.ab y.n x.acap, gsv x.pb y.m x.pcap])∧B = [gsb x.ab (rowsL x.zs) 47 (x.acap * 5), gsb x.pb (powR ((List.range y.m).map y.pw)) 65 (x.pcap * 2)]) :=
  Does.of_wp_eq (VC := (let z3 : Array Value := #[vi y.k, vu y.id, .string y.s, .slice none 0 0, .slice none 0 0];let z2 : List Value := [vi 0, vu 0, .string ByteArray.empty, .slice none 0 0, .slice none 0 0];let z1 : List Value := y.row;let z0 : Array Value := y.row.toArray;∀ a0 : Nat, ∀ a1 : Nat, (a0 = a0)∧(a0 = a0)∧(a0 = a0)∧∀ a2 : Nat, (a2 = a2)∧(a0 = a0)∧(CT Tryd.prog (sub (bodyOf Tryd.f17) [1, 1, 0, 1, 0]) ⟨(.agg z0::ptA a0::ptA a1::ptA a2::uns 4 (ptA a0::vi y.k::(ptO a0 (1))::vu y.id::(ptO a0 (2))::.string y.s::.agg z3::(ptO a0 (3))::.slice y.aa y.n y.ac::vi (y.n : Int)::vi 0::uns 26 [])), [], [some (a0, .row z1 30 5), some (a1, .row z2 47 5), some (a2, .row [vi y.k, vu y.id, .string y.s, .slice none 0 0, .slice none 0 0] 47 5)]⟩ R (to_own_L3_K y a0 a1 a2 R))∧(∀ (x4 : Nat×Option Nat×Nat×List Value×List L×NV) (G5 : RO), R.le G5 → (x4.1 = y.n∧KI y.n (fun i => (y.kid i).t) G5 x4.1 x4.2.1 x4.2.2.1 x4.2.2.2.1 x4.2.2.2.2.1) → (a0 = a0)∧(CT Tryd.prog (sub (bodyOf Tryd.f17) [1, 1, 1, 0, 1, 0]) ⟨(.agg z0::ptA a0::ptA a1::ptA a2::undef::(x4.2.2.2.2.2 5)::undef::undef::ptA a0::vi y.k::(ptO a0 (1))::vu y.id::(ptO a0 (2))::.string y.s::.agg z3::(ptO a0 (3))::.slice y.aa y.n y.ac::vi (y.n : Int)::vi (x4.1 : Int)::urun x4.2.2.2.2.2 19 11 ((ptO a0 (4))::.slice y.pa y.m y.pc::vi (y.m : Int)::vi 0::uns 11 [])), [], [some (a0, .row z1 30 5), some (a1, .row z2 47 5), some (a2, .row [vi y.k, vu y.id, .string y.s, gsv x4.2.1 x4.1 x4.2.2.1, .slice none 0 0] 47 5), gsb x4.2.1 x4.2.2.2.1 47 (x4.2.2.1 * 5)]⟩ G5 (to_own_L8_K y a0 a1 a2 x4 G5))∧(∀ x11 : Nat×Option Nat×Nat×List Value×NV, (x11.1 = y.m∧PI y.m y.pw x11.1 x11.2.1 x11.2.2.1 x11.2.2.2.1) → (a2 = a2)∧(a1 = a1)∧(a1 = a1)∧(fun (r : Out) (G : RO) (B : Hp) => ∃ x : TX, (x.ok y.n (fun i => (y.kid i).t) y.m G)∧r = .ret (.agg #[vi y.k, vu y.id, .string y.s, gsv x.ab y.n x.acap, gsv x.pb y.m x.pcap])∧B = [gsb x.ab (rowsL x.zs) 47 (x.acap * 5), gsb x.pb (powR ((List.range y.m).map y.pw)) 65 (x.pcap * 2)]) (.ret (.agg #[vi y.k, vu y.id, .string y.s, gsv x4.2.1 x4.1 x4.2.2.1, gsv x11.2.1 x11.1 x11.2.2.1])) G5 [gsb x4.2.1 x4.2.2.2.1 47 (x4.2.2.1 * 5), gsb x11.2.1 x11.2.2.2.1 65 (x11.2.2.1 * 2)])∧True)∧True)) (let y_1 : List Value := [vi 0, vu 0, .string ByteArray.empty, .slice none 0 0, .slice none 0 0];let y_0 : List Value := y.row;.opn 0 (fun a0 => (.opn 1 (fun a1 => (ops [.d, .p 0, .d, .p 0, .d, .p 0, .d] (.opn 2 (fun a2 => (ops [.p 2, .d, .p 0, .d, .d] (.altG (Nat×Option Nat×Nat×List Value×List L×NV) (fun zx G => zx.1 = y.n∧KI y.n (fun i => (y.kid i).t) G zx.1 zx.2.1 zx.2.2.1 zx.2.2.2.1 zx.2.2.2.2.1) (fun zx => (.exit 0, ((to_own_L3_inv y a0 a1 a2 zx).up [] [some (a0, .row y_0 30 5), some (a1, .row y_1 47 5), some (a2, .row [vi y.k, vu y.id, .string y.s, gsv zx.2.1 zx.1 zx.2.2.1, .slice none 0 0] 47 5), gsb zx.2.1 zx.2.2.2.1 47 (zx.2.2.1 * 5)]))) (fun x4 => (ops [.d, .p 0, .d, .d] (.alt (Nat×Option Nat×Nat×List Value×NV) (fun zx => zx.1 = y.m∧PI y.m y.pw zx.1 zx.2.1 zx.2.2.1 zx.2.2.2.1) (fun zx => (.exit 2, ((to_own_L8_inv y a0 a1 a2 x4 zx).up [] [some (a0, .row y_0 30 5), some (a1, .row y_1 47 5), some (a2, .row [vi y.k, vu y.id, .string y.s, gsv x4.2.1 x4.1 x4.2.2.1, gsv zx.2.1 zx.1 zx.2.2.1] 47 5), gsb x4.2.1 x4.2.2.2.1 47 (x4.2.2.1 * 5), gsb zx.2.1 zx.2.2.2.1 65 (zx.2.2.1 * 2)]))) (fun x11 => (ops [.p 2, .p 1] (.fin [3, 4] [(1, none)]))) .altn))) .altn))))))))) Tryd.func17 (by kernel_rfl) (by kernel_rfl)
    (fun a0 => fun a1 => ⟨rfl, ⟨rfl, ⟨rfl, fun a2 => ⟨rfl, ⟨rfl, ⟨to_own_L3_ct y a0 a1 a2 R hrec hy hw, ⟨fun x4 G5 hG5 qx4 => (have hy := L.ok_mono hG5 _ hy;⟨rfl, ⟨to_own_L8_ct y a0 a1 a2 x4 G5 hy hw, ⟨fun x11 qx11 => ⟨rfl, ⟨rfl, ⟨rfl, ⟨⟨x4.2.1, x4.2.2.1, x4.2.2.2.2.1, x11.2.1, x11.2.2.1⟩, (tx_ok qx4 qx11), (by exact tx_ret qx4.1 qx11.1), (by exact tx_hp qx4.2.2.2.2.2.2.1 (by rw [qx11.2.2.1, qx11.1]))⟩⟩⟩⟩, trivial⟩⟩⟩), trivial⟩⟩⟩⟩⟩⟩⟩)
theorem to_ok : ∀ (h : Nat) (y : L) (R : RO), y.t.ht ≤ h → y.ok R → y.t.wt ≤ 1000000 → Does Tryd.prog 17 [y.v] R [] (fun r G B => ∃ z : L, (z.ok G∧z.t = y.t)∧r = .ret z.v∧B = []) := by
  intro h
  induction h with
  | zero => intro y R hh;have := T.ht_pos y.t;omega
  | succ h ih =>
    intro y R hh hy hw
    refine (Does.freeze (X := TX) (q := fun x G => x.ok y.n (fun i => (y.kid i).t) y.m G) (g := fun x => (.agg #[vi y.k, vu y.id, .string y.s, gsv x.ab y.n x.acap, gsv x.pb y.m x.pcap], [gsb x.ab (rowsL x.zs) 47 (x.acap * 5), gsb x.pb (powR ((List.range y.m).map y.pw)) 65 (x.pcap * 2)])) (to_own y R (fun j S hS hj => ih (y.kid j) S (by have := L.ht_kid hj;omega) (hS.kid hj) (by have := L.wt_kid y hj;omega)) hy hw)).mono ?_
    rintro o G B hle ⟨x, G0, h0, q1, hc, rfl, rfl⟩
    have q2 := TX.mono h0 q1
    exact ⟨x.L y.k y.id y.s y.n y.m y.pw, ⟨TX.L_ok q2 (fun a ha => hc 1 a _ 65 _ (by show Hp.at [_, gsb x.pb _ 65 _] 1 = _;rw [ha];rfl)) (fun a ha => hc 0 a _ 47 _ (by show Hp.at [gsb x.ab _ 47 _, _] 0 = _;rw [ha];rfl)), by rw [TX.t q2, L.t_eq y];rfl⟩, rfl, rfl⟩
def puM (p x : PW) (xs : List PW) (d : Bool) : List PW×Bool×Int := if (x.1 == p.1) = true then (xs, true, IntKind.i64.wrap (x.2 + p.2)) else if (!d && decide (p.1 < x.1)) = true then (xs ++ [p], true, x.2) else (xs, d, x.2)
def puS (p : PW) (s : List PW×Bool) (x : PW) : List PW×Bool := ((puM p x s.1 s.2).1 ++ [(x.1, (puM p x s.1 s.2).2.2)], (puM p x s.1 s.2).2.1)
def puF (p : PW) (l : List PW) : List PW×Bool := l.foldl (puS p) ([], false)
def puN (p : PW) (l : List PW) : List PW := if (puF p l).2 = true then (puF p l).1 else (puF p l).1 ++ [p]
def nz (l : List PW) : List PW := l.filter fun x => x.2 != 0
def putL (p : PW) (l : List PW) : List PW := nz (puN p l)
theorem puF_snoc (p : PW) (l : List PW) (x : PW) : puF p (l ++ [x]) = puS p (puF p l) x := by simp [puF]
theorem puS_len (p : PW) (l : List PW) : ∀ s : List PW×Bool, (l.foldl (puS p) s).1.length + s.2.toNat ≤ s.1.length + l.length + (l.foldl (puS p) s).2.toNat := by
  induction l with
  | nil => intro s;exact Nat.le_refl _
  | cons x l ih =>
    intro s
    have h := ih (puS p s x)
    have h1 : (puS p s x).1.length + s.2.toNat ≤ s.1.length + 1 + (puS p s x).2.toNat := by
      obtain ⟨xs, d⟩ := s
      unfold puS puM
      cases (x.1 == p.1) <;> cases d <;> cases decide (p.1 < x.1) <;> simp
    rw [List.foldl_cons, List.length_cons]
    omega
theorem puF_len (p : PW) (l : List PW) : (puF p l).1.length ≤ l.length + (puF p l).2.toNat := by
  have := puS_len p l ([], false)
  unfold puF
  simpa using this
theorem puN_len (p : PW) (l : List PW) : (puN p l).length ≤ l.length + 1 := by
  have := puF_len p l
  unfold puN
  cases h : (puF p l).2 <;> rw [h] at this <;> simp at * <;> omega
abbrev QR (k : Nat) (b : Option Nat) (cap : Nat) (Lr : List Value) (xs : List PW) : Prop := k = xs.length∧Lr = powR xs∧(b = none → cap = 0)∧k ≤ cap∧cap ≤ maxLen
theorem qr_step {k : Nat} {b : Option Nat} {cap a c : Nat} {Lr : List Value} {xs : List PW} {i n : Int} (h : QR k b cap Lr xs) (h1 : k + 1 ≤ c) (h2 : c ≤ maxLen) : QR (k + 1) (some a) c (Lr ++ ([vu i, vi n] : List Value)) (xs ++ [(i, n)]) :=
  ⟨by rw [h.1];simp, by rw [h.2.1, powR_snoc], fun h => (by cases h), h1, h2⟩
theorem qr_cs {k : Nat} {b : Option Nat} {cap : Nat} {Lr : List Value} {xs : List PW} (h : QR k b cap Lr xs) : Lr.length = k * 2 := by rw [h.2.1, powR_len, h.1]
theorem qr_len {z : L} {p : PW} {j k : Nat} {b : Option Nat} {cap : Nat} {Lr : List Value} {xs : List PW} {d : Bool} (h : QR k b cap Lr xs) (e : (xs, d) = puF p ((List.range j).map z.pw)) : k ≤ j + 1 := by
  have h1 := puF_len p ((List.range j).map z.pw)
  rw [← e] at h1
  have := h.1
  cases d <;> simp at h1 <;> omega
theorem puM_len {p x : PW} {xs ys : List PW} {d d2 : Bool} {n : Int} (h : (ys, d2, n) = puM p x xs d) : ys.length ≤ xs.length + 1 := by
  unfold puM at h
  split at h
  · cases h;omega
  · split at h <;> cases h <;> simp
theorem pu_step {z : L} {p : PW} {j : Nat} {xs ys : List PW} {d d2 : Bool} {n : Int} (h : (xs, d) = puF p ((List.range j).map z.pw)) (h2 : (ys, d2, n) = puM p (z.pw j) xs d) : (ys ++ [((z.pw j).1, n)], d2) = puF p ((List.range (j + 1)).map z.pw) := by
  rw [List.range_succ, List.map_append, List.map_singleton, puF_snoc, ← h]
  unfold puS
  rw [← h2]
theorem nz_snoc {ys : List PW} {j : Nat} (h : j < ys.length) : nz (ys.take (j + 1)) = if (ys.getD j (0, 0)).2 != 0 then nz (ys.take j) ++ [ys.getD j (0, 0)] else nz (ys.take j) := by
  rw [List.take_succ_eq_append_getElem h]
  have e : ys.getD j (0, 0) = ys[j] := by simp [h]
  rw [e]
  unfold nz
  rw [List.filter_append]
  cases h9 : (ys[j].2 != 0) <;> simp [List.filter, h9]
theorem nz_len (l : List PW) : (nz l).length ≤ l.length := List.length_filter_le _ _
theorem ys_len {z : L} {p : PW} {ys : List PW} (h : ys = puN p z.pl) : ys.length ≤ z.m + 1 := by
  have h1 := puN_len p z.pl
  have h2 : z.pl.length = z.m := by simp [L.pl]
  rw [h];omega
theorem rd_pw {ys : List PW} {Lp : List Value} {j : Nat} (h : Lp = powR ys) (hj : j < ys.length) : readVar Tryd.prog 65 Lp (0 + Int.toNat (j : Int) * 2) = some (.agg #[vu (ys.getD j (0, 0)).1, vi (ys.getD j (0, 0)).2]) := by
  subst h
  have h1 : tinfo Tryd.prog 65 = some (true, 2) := by kernel_rfl
  have h2 := powR_at hj
  have h3 : 2 ≤ ((powR ys).drop (j * 2)).length := by rw [List.length_drop, powR_len];omega
  have e : ys.getD j (0, 0) = ys[j] := by simp [hj]
  unfold readVar
  rw [h1, Nat.zero_add, show Int.toNat (j : Int) = j by omega]
  show (match takeL 2 ((powR ys).drop (j * 2)) with | some l => some (Value.agg l.toArray) | none => none) = _
  rw [takeL_of h3, h2, e]
structure PD where
  b : Option Nat
  k : Nat
  cap : Nat
  xs : List PW
noncomputable def put_own_L4_inv (z : L) (p : PW) (a0 : Nat)  : Nat×Nat×Option Nat×Nat×List Value×(List PW)×Bool×NV → St := fun zx => ⟨(.slice z.pa z.m z.pc::.agg #[vu p.1, vi p.2]::undef::ptA a0::.slice none 0 0::gsv zx.2.2.1 zx.2.1 zx.2.2.2.1::.bool zx.2.2.2.2.2.2.1::undef::(zx.2.2.2.2.2.2.2 8)::undef::undef::undef::.slice z.pa z.m z.pc::vi (z.m : Int)::vi ((zx.1 : Nat) : Int)::urun zx.2.2.2.2.2.2.2 15 32 (uns 21 [])), [], [some (a0, .row [vu p.1, vi p.2] 65 2), gsb zx.2.2.1 zx.2.2.2.2.1 65 (zx.2.2.2.1 * 2)]⟩
def put_own_L4_I (z : L) (p : PW) (a0 : Nat)  (R : RO) : Nat×Nat×Option Nat×Nat×List Value×(List PW)×Bool×NV → RO → Prop := fun zx G => G = R∧(zx.1 ≤ z.m∧QR zx.2.1 zx.2.2.1 zx.2.2.2.1 zx.2.2.2.2.1 zx.2.2.2.2.2.1∧(zx.2.2.2.2.2.1, zx.2.2.2.2.2.2.1) = puF p ((List.range zx.1).map z.pw))
def put_own_L4_mu (z : L) (p : PW) (a0 : Nat)  : Nat×Nat×Option Nat×Nat×List Value×(List PW)×Bool×NV → Nat := fun zx => z.m - zx.1
noncomputable def put_own_L4_K (z : L) (p : PW) (a0 : Nat)  (R : RO) : Exit' → St → RO → Prop := altPost R (.alt (Nat×Nat×Option Nat×Nat×List Value×(List PW)×Bool×NV) (fun zx => zx.1 = z.m∧QR zx.2.1 zx.2.2.1 zx.2.2.2.1 zx.2.2.2.2.1 zx.2.2.2.2.2.1∧(zx.2.2.2.2.2.1, zx.2.2.2.2.2.2.1) = puF p ((List.range zx.1).map z.pw)) (fun zx => (.exit 0, ((put_own_L4_inv z p a0 zx).up [] [some (a0, .row [vu p.1, vi p.2] 65 2), gsb zx.2.2.1 zx.2.2.2.2.1 65 (zx.2.2.2.1 * 2)]))) (fun _ => .altn) .altn)
theorem put_own_L4_body (z : L) (p : PW) (a0 : Nat)  (R : RO) (hz : z.ok R) (hn : z.m ≤ 1000000) (j : Nat) (k : Nat) (b : Option Nat) (cap : Nat) (Lr : List Value) (xs : List PW) (d : Bool) (u1 : Nat → Value) (hI : j ≤ z.m∧QR k b cap Lr xs∧(xs, d) = puF p ((List.range j).map z.pw)) : CT Tryd.prog (sub (bodyOf Tryd.f30) [1, 1, 1, 0, 1, 0, 0]) (put_own_L4_inv z p a0 (j, k, b, cap, Lr, xs, d, u1)) R (LK (put_own_L4_inv z p a0) (put_own_L4_I z p a0 R) (put_own_L4_mu z p a0) (put_own_L4_K z p a0 R) (j, k, b, cap, Lr, xs, d, u1)) :=
  CT.of_wp_eq (VC := (let z3 : List Value := [vu p.1, vi p.2];let z2 : Array Value := #[vu ((z.pw j).1), vi ((z.pw j).2)];let z1 : Option Addr := (some ⟨z.PB, z.PO + Int.toNat (j : Int) * 2, none⟩);((decide ((j : Int) < (z.m : Int))) = true → (z.pa = some ⟨z.PB, z.PO, none⟩∧(0 : Int) ≤ (j : Int)∧((j : Int) : Int) < (z.m : Int))∧(R.cells z.PB (z.PO + Int.toNat (j : Int) * 2) [vu ((z.pw j).1), vi ((z.pw j).2)])∧∀ a53 : Nat, (a53 = a53)∧(a53 = a53)∧(a0 = a0)∧(CT Tryd.prog (sub (bodyOf Tryd.f30) [1, 1, 1, 0, 1, 0, 0, 1, 1, 0, 0, 1, 0, 1]) ⟨(.slice z.pa z.m z.pc::.agg #[vu p.1, vi p.2]::undef::ptA a0::.slice none 0 0::gsv b k cap::.bool d::undef::ptA a53::undef::undef::undef::.slice z.pa z.m z.pc::vi (z.m : Int)::vi (j : Int)::.bool true::.pointer z1::.agg z2::ptA a53::vu ((z.pw j).1)::ptA a0::vu p.1::.bool (((z.pw j).1) == p.1)::urun u1 23 24 (uns 21 [])), [], [some (a0, .row z3 65 2), gsb b Lr 65 (cap * 2), some (a53, .row [vu ((z.pw j).1), vi ((z.pw j).2)] 65 2)]⟩ R (altPost R (.alt (Nat×Option Nat×Nat×List Value×(List PW)×Bool×Int×NV) (fun zx => QR zx.1 zx.2.1 zx.2.2.1 zx.2.2.2.1 zx.2.2.2.2.1∧(zx.2.2.2.2.1, zx.2.2.2.2.2.1, zx.2.2.2.2.2.2.1) = puM p (z.pw j) xs d) (fun zx => (.normal, ⟨(.slice z.pa z.m z.pc::.agg #[vu p.1, vi p.2]::undef::ptA a0::.slice none 0 0::gsv zx.2.1 zx.1 zx.2.2.1::.bool zx.2.2.2.2.2.1::undef::ptA a53::undef::undef::undef::.slice z.pa z.m z.pc::vi (z.m : Int)::vi (j : Int)::.bool true::.pointer z1::.agg z2::ptA a53::vu ((z.pw j).1)::ptA a0::vu p.1::urun zx.2.2.2.2.2.2.2 22 20 (urun u1 42 5 (uns 21 []))), [], [some (a0, .row z3 65 2), gsb zx.2.1 zx.2.2.2.1 65 (zx.2.2.1 * 2), some (a53, .row [vu ((z.pw j).1), vi zx.2.2.2.2.2.2.1] 65 2)]⟩)) (fun _ => .altn) .altn)))∧(∀ x54 : Nat×Option Nat×Nat×List Value×(List PW)×Bool×Int×NV, let z0 : List Value := [vu ((z.pw j).1), vi x54.2.2.2.2.2.2.1];(QR x54.1 x54.2.1 x54.2.2.1 x54.2.2.2.1 x54.2.2.2.2.1∧(x54.2.2.2.2.1, x54.2.2.2.2.2.1, x54.2.2.2.2.2.2.1) = puM p (z.pw j) xs d) → (a53 = a53)∧∀ a85 : Nat, (PrimOK Tryd.prog (.app 45 45 45 (gsv x54.2.1 x54.1 x54.2.2.1) (slA a85 1 1)) R [gsb x54.2.1 x54.2.2.2.1 65 (x54.2.2.1 * 2), some (a85, .row z0 65 2)] (Nat×Nat) (fun y86 => x54.1 + 1 ≤ y86.2∧y86.2 ≤ maxLen) (fun y86 => (.slice (some ⟨y86.1, 0, none⟩) (x54.1 + 1) y86.2, [some (y86.1, .row (x54.2.2.2.1 ++ (z0 : List Value)) 65 (y86.2 * 2)), some (a85, .row z0 65 2)])))∧∀ y86 : Nat×Nat, (x54.1 + 1 ≤ y86.2∧y86.2 ≤ maxLen) → (NW .i64 ((j : Int) + 1))∧LK (put_own_L4_inv z p a0) (put_own_L4_I z p a0 R) (put_own_L4_mu z p a0) (put_own_L4_K z p a0 R) (j, k, b, cap, Lr, xs, d, u1) .normal ⟨(.slice z.pa z.m z.pc::.agg #[vu p.1, vi p.2]::undef::ptA a0::.slice none 0 0::.slice (some ⟨y86.1, 0, none⟩) (x54.1 + 1) y86.2::.bool x54.2.2.2.2.2.1::undef::ptA a53::undef::undef::undef::.slice z.pa z.m z.pc::vi (z.m : Int)::vi ((j : Int) + 1)::.bool true::.pointer z1::.agg z2::ptA a53::vu ((z.pw j).1)::ptA a0::vu p.1::urun x54.2.2.2.2.2.2.2 22 20 (gsv x54.2.1 x54.1 x54.2.2.1::.agg #[vu ((z.pw j).1), vi x54.2.2.2.2.2.2.1]::slA a85 1 1::.slice (some ⟨y86.1, 0, none⟩) (x54.1 + 1) y86.2::vi ((j : Int) + 1)::uns 21 [])), [], [some (a0, .row z3 65 2), some (y86.1, .row (x54.2.2.2.1 ++ (z0 : List Value)) 65 (y86.2 * 2)), some (a53, .row z0 65 2), some (a85, .row z0 65 2)]⟩ R)∧True)∧((decide ((j : Int) < (z.m : Int))) = false → LK (put_own_L4_inv z p a0) (put_own_L4_I z p a0 R) (put_own_L4_mu z p a0) (put_own_L4_K z p a0 R) (j, k, b, cap, Lr, xs, d, u1) (.exit 0) ((put_own_L4_inv z p a0 (j, k, b, cap, Lr, xs, d, u1)).up [(15, .bool false)] [some (a0, .row z3 65 2), gsb b Lr 65 (cap * 2)]) R))) (ops [.d] (.sp 15 (ops [.ib z.PB z.PO, .ro (fun v => [vu ((z.pw j).1), vi ((z.pw j).2)])] (.opn 2 (fun a53 => (ops [.p 2, .d, .p 2, .d, .p 0, .d] (.alt (Nat×Option Nat×Nat×List Value×(List PW)×Bool×Int×NV) (fun zx => QR zx.1 zx.2.1 zx.2.2.1 zx.2.2.2.1 zx.2.2.2.2.1∧(zx.2.2.2.2.1, zx.2.2.2.2.2.1, zx.2.2.2.2.2.2.1) = puM p (z.pw j) xs d) (fun zx => (.normal, ⟨(.slice z.pa z.m z.pc::.agg #[vu p.1, vi p.2]::undef::ptA a0::.slice none 0 0::gsv zx.2.1 zx.1 zx.2.2.1::.bool zx.2.2.2.2.2.1::undef::ptA a53::undef::undef::undef::.slice z.pa z.m z.pc::vi (z.m : Int)::vi (j : Int)::.bool true::(ptO z.PB (z.PO + Int.toNat (j : Int) * 2))::.agg #[vu ((z.pw j).1), vi ((z.pw j).2)]::ptA a53::vu ((z.pw j).1)::ptA a0::vu p.1::urun zx.2.2.2.2.2.2.2 22 20 (urun u1 42 5 (uns 21 []))), [], [some (a0, .row [vu p.1, vi p.2] 65 2), gsb zx.2.1 zx.2.2.2.1 65 (zx.2.2.1 * 2), some (a53, .row [vu ((z.pw j).1), vi zx.2.2.2.2.2.2.1] 65 2)]⟩)) (fun x54 => (ops [.d, .p 2] (.opn 3 (fun a85 => (.opp [1, 3] [] (Nat×Nat) (fun y86 => x54.1 + 1 ≤ y86.2∧y86.2 ≤ maxLen) (fun y86 => (.slice (some ⟨y86.1, 0, none⟩) (x54.1 + 1) y86.2, [some (y86.1, .row (x54.2.2.2.1 ++ ([vu ((z.pw j).1), vi x54.2.2.2.2.2.2.1] : List Value)) 65 (y86.2 * 2)), some (a85, .row [vu ((z.pw j).1), vi x54.2.2.2.2.2.2.1] 65 2)])) (fun y86 => (ops [.d, .nw, .d] (.fin [] [])))))))) .altn))))) (.fin [] []))) (by kernel_rfl)
    (⟨fun h52 => (have := of_decide_eq_true h52;⟨⟨(hz.pow j (by omega)).1, by omega, by omega⟩, ⟨(hz.pow j (by omega)).2, fun a53 => ⟨rfl, ⟨rfl, ⟨rfl, ⟨CT.of_wp_eq (VC := (let z6 := (decide (p.1 < ((z.pw j).1)));let z4 : Array Value := #[vu p.1, vi p.2];let z3 : Array Value := #[vu ((z.pw j).1), vi ((z.pw j).2)];let z2 : Option Addr := (some ⟨z.PB, z.PO + Int.toNat (j : Int) * 2, none⟩);let z1 : List Value := [vu p.1, vi p.2];let z5 : Hp := [some (a0, .row z1 65 2), gsb b Lr 65 (cap * 2), some (a53, .row [vu ((z.pw j).1), vi ((z.pw j).2)] 65 2)];let z0 : Sc := (.alt (Nat×Option Nat×Nat×List Value×(List PW)×Bool×Int×NV) (fun zx => QR zx.1 zx.2.1 zx.2.2.1 zx.2.2.2.1 zx.2.2.2.2.1∧(zx.2.2.2.2.1, zx.2.2.2.2.2.1, zx.2.2.2.2.2.2.1) = puM p (z.pw j) xs d) (fun zx => (.normal, ⟨(.slice z.pa z.m z.pc::.agg z4::undef::ptA a0::.slice none 0 0::gsv zx.2.1 zx.1 zx.2.2.1::.bool zx.2.2.2.2.2.1::undef::ptA a53::undef::undef::undef::.slice z.pa z.m z.pc::vi (z.m : Int)::vi (j : Int)::.bool true::.pointer z2::.agg z3::ptA a53::vu ((z.pw j).1)::ptA a0::vu p.1::urun zx.2.2.2.2.2.2.2 22 20 (urun u1 42 5 (uns 21 []))), [], [some (a0, .row z1 65 2), gsb zx.2.1 zx.2.2.2.1 65 (zx.2.2.1 * 2), some (a53, .row [vu ((z.pw j).1), vi zx.2.2.2.2.2.2.1] 65 2)]⟩)) (fun _ => .altn) .altn);((((z.pw j).1) == p.1) = true → (a53 = a53)∧(a0 = a0)∧(a53 = a53)∧altPost R z0 .normal ⟨(.slice z.pa z.m z.pc::.agg z4::undef::ptA a0::.slice none 0 0::gsv b k cap::.bool true::undef::ptA a53::undef::undef::undef::.slice z.pa z.m z.pc::vi (z.m : Int)::vi (j : Int)::.bool true::.pointer z2::.agg z3::ptA a53::vu ((z.pw j).1)::ptA a0::vu p.1::.bool true::(ptO a53 (1))::vi ((z.pw j).2)::(ptO a0 (1))::vi p.2::vi (IntKind.i64.wrap (((z.pw j).2) + p.2))::(ptO a53 (1))::urun u1 29 18 (uns 21 [])), [], [some (a0, .row z1 65 2), gsb b Lr 65 (cap * 2), some (a53, .row [vu ((z.pw j).1), vi (IntKind.i64.wrap (((z.pw j).2) + p.2))] 65 2)]⟩ R)∧((((z.pw j).1) == p.1) = false → ((!d) = true → (a0 = a0)∧(a53 = a53)∧(z6 = true → (a0 = a0)∧∀ a57 : Nat, (PrimOK Tryd.prog (.app 45 45 45 (gsv b k cap) (slA a57 1 1)) R [gsb b Lr 65 (cap * 2), some (a57, .row z1 65 2)] (Nat×Nat) (fun y58 => k + 1 ≤ y58.2∧y58.2 ≤ maxLen) (fun y58 => (.slice (some ⟨y58.1, 0, none⟩) (k + 1) y58.2, [some (y58.1, .row (Lr ++ (z1 : List Value)) 65 (y58.2 * 2)), some (a57, .row z1 65 2)])))∧∀ y58 : Nat×Nat, (k + 1 ≤ y58.2∧y58.2 ≤ maxLen) → altPost R z0 .normal ⟨(.slice z.pa z.m z.pc::.agg z4::undef::ptA a0::.slice none 0 0::.slice (some ⟨y58.1, 0, none⟩) (k + 1) y58.2::.bool true::undef::ptA a53::undef::undef::undef::.slice z.pa z.m z.pc::vi (z.m : Int)::vi (j : Int)::.bool true::.pointer z2::.agg z3::ptA a53::vu ((z.pw j).1)::ptA a0::vu p.1::.bool false::urun u1 23 6 (.bool d::.bool (!d)::.bool true::ptA a0::vu p.1::ptA a53::vu ((z.pw j).1)::.bool z6::.bool true::gsv b k cap::.agg z4::slA a57 1 1::.slice (some ⟨y58.1, 0, none⟩) (k + 1) y58.2::urun u1 42 5 (uns 21 []))), [], [some (a0, .row z1 65 2), some (y58.1, .row (Lr ++ (z1 : List Value)) 65 (y58.2 * 2)), some (a53, .row [vu ((z.pw j).1), vi ((z.pw j).2)] 65 2), some (a57, .row z1 65 2)]⟩ R)∧(z6 = false → altPost R z0 .normal ⟨(.slice z.pa z.m z.pc::.agg z4::undef::ptA a0::.slice none 0 0::gsv b k cap::.bool d::undef::ptA a53::undef::undef::undef::.slice z.pa z.m z.pc::vi (z.m : Int)::vi (j : Int)::.bool true::.pointer z2::.agg z3::ptA a53::vu ((z.pw j).1)::ptA a0::vu p.1::.bool false::urun u1 23 6 (.bool d::.bool (!d)::.bool true::ptA a0::vu p.1::ptA a53::vu ((z.pw j).1)::.bool z6::.bool false::urun u1 38 9 (uns 21 []))), [], z5⟩ R))∧((!d) = false → altPost R z0 .normal ⟨(.slice z.pa z.m z.pc::.agg z4::undef::ptA a0::.slice none 0 0::gsv b k cap::.bool d::undef::ptA a53::undef::undef::undef::.slice z.pa z.m z.pc::vi (z.m : Int)::vi (j : Int)::.bool true::.pointer z2::.agg z3::ptA a53::vu ((z.pw j).1)::ptA a0::vu p.1::.bool false::urun u1 23 6 (.bool d::.bool (!d)::.bool false::uns 5 (.bool false::urun u1 38 9 (uns 21 [])))), [], z5⟩ R)))) (.sp 22 (ops [.d, .p 2, .d, .p 0, .d, .d, .p 2, .d] (.fin [] [])) (ops [.d, .d, .d] (.sp 31 (ops [.d, .p 0, .d, .p 2, .d, .d] (.sp 37 (ops [.d, .p 0] (.opn 3 (fun a57 => (.opp [1, 3] [] (Nat×Nat) (fun y58 => k + 1 ≤ y58.2∧y58.2 ≤ maxLen) (fun y58 => (.slice (some ⟨y58.1, 0, none⟩) (k + 1) y58.2, [some (y58.1, .row (Lr ++ ([vu p.1, vi p.2] : List Value)) 65 (y58.2 * 2)), some (a57, .row [vu p.1, vi p.2] 65 2)])) (fun y58 => (ops [.d, .d] (.fin [] []))))))) (.fin [] []))) (ops [.d] (.fin [] []))))) (by kernel_rfl) (⟨fun h54 => (have := eq_of_beq h54;⟨rfl, ⟨rfl, ⟨rfl, altA (fun zw => (k, b, cap, Lr, xs, true, (IntKind.i64.wrap (((z.pw j).2) + p.2)), zw)) ⟨(show QR k b cap Lr xs∧(xs, true, (IntKind.i64.wrap (((z.pw j).2) + p.2))) = puM p (z.pw j) xs d from ⟨hI.2.1, by unfold puM;rw [h54];rfl⟩), rfl, ⟨rfl, rfl, rfl⟩⟩⟩⟩⟩), fun h54 => (have := ne_of_beq_false h54;⟨fun h55 => ⟨rfl, ⟨rfl, ⟨fun h56 => (have := of_decide_eq_true h56;⟨rfl, fun a57 => ⟨(app1_ok (e := 65) (e' := 65) (z := 2) (by' := 16) (zc := [vu 0, vi 0]) (b := b) (len := k) (cap := cap) (n := 1) (cs := Lr) (new := [vu p.1, vi p.2]) (by kernel_rfl) (.inl (by kernel_rfl)) (by kernel_rfl) rfl (qr_cs hI.2.1) hI.2.1.2.2.2.1 hI.2.1.2.2.2.2 hI.2.1.2.2.1 ⟨rfl, .inr (.inr ⟨_, _, _, rfl, .inl ⟨1, _, _, _, rfl, rfl⟩⟩)⟩ (ones_spec rfl) (by have h9 := hI.2.1.1;have h8 := qr_len hI.2.1 hI.2.2;omega) (by have h9 := hI.2.1.1;have h8 := qr_len hI.2.1 hI.2.2;simp only [maxLen];omega) (by omega)), fun y58 qy58 => altA (fun zw => ((k + 1), (some y58.1), y58.2, (Lr ++ ([vu p.1, vi p.2] : List Value)), (xs ++ [p]), true, ((z.pw j).2), zw)) ⟨(show QR (k + 1) (some y58.1) y58.2 (Lr ++ ([vu p.1, vi p.2] : List Value)) (xs ++ [p])∧((xs ++ [p]), true, ((z.pw j).2)) = puM p (z.pw j) xs d from ⟨qr_step hI.2.1 qy58.1 qy58.2, by unfold puM;rw [h54, h55, h56];rfl⟩), rfl, ⟨rfl, rfl, rfl⟩⟩⟩⟩), fun h56 => (have := of_decide_eq_false h56;altA (fun zw => (k, b, cap, Lr, xs, d, ((z.pw j).2), zw)) ⟨(show QR k b cap Lr xs∧(xs, d, ((z.pw j).2)) = puM p (z.pw j) xs d from ⟨hI.2.1, by unfold puM;rw [h54, h55, h56];rfl⟩), rfl, ⟨rfl, rfl, rfl⟩⟩)⟩⟩⟩, fun h55 => altA (fun zw => (k, b, cap, Lr, xs, d, ((z.pw j).2), zw)) ⟨(show QR k b cap Lr xs∧(xs, d, ((z.pw j).2)) = puM p (z.pw j) xs d from ⟨hI.2.1, by unfold puM;rw [h54, h55];rfl⟩), rfl, ⟨rfl, rfl, rfl⟩⟩⟩)⟩), ⟨fun x54 qx54 => ⟨rfl, fun a85 => ⟨(app1_ok (e := 65) (e' := 65) (z := 2) (by' := 16) (zc := [vu 0, vi 0]) (b := x54.2.1) (len := x54.1) (cap := x54.2.2.1) (n := 1) (cs := x54.2.2.2.1) (new := [vu ((z.pw j).1), vi x54.2.2.2.2.2.2.1]) (by kernel_rfl) (.inl (by kernel_rfl)) (by kernel_rfl) rfl (qr_cs qx54.1) qx54.1.2.2.2.1 qx54.1.2.2.2.2 qx54.1.2.2.1 ⟨rfl, .inr (.inr ⟨_, _, _, rfl, .inl ⟨1, _, _, _, rfl, rfl⟩⟩)⟩ (ones_spec rfl) (by have h9 := hI.2.1.1;have h8 := qr_len hI.2.1 hI.2.2;have h7 := puM_len qx54.2;have h6 := qx54.1.1;omega) (by have h9 := hI.2.1.1;have h8 := qr_len hI.2.1 hI.2.2;have h7 := puM_len qx54.2;have h6 := qx54.1.1;simp only [maxLen];omega) (by omega)), fun y86 qy86 => ⟨(nwI (by omega) (by omega)), LKn (fun zw => ((j + 1), (x54.1 + 1), (some y86.1), y86.2, (x54.2.2.2.1 ++ ([vu ((z.pw j).1), vi x54.2.2.2.2.2.2.1] : List Value)), (x54.2.2.2.2.1 ++ [((z.pw j).1, x54.2.2.2.2.2.2.1)]), x54.2.2.2.2.2.1, zw)) ⟨⟨rfl, (show (j + 1) ≤ z.m∧QR (x54.1 + 1) (some y86.1) y86.2 (x54.2.2.2.1 ++ ([vu ((z.pw j).1), vi x54.2.2.2.2.2.2.1] : List Value)) (x54.2.2.2.2.1 ++ [((z.pw j).1, x54.2.2.2.2.2.2.1)])∧((x54.2.2.2.2.1 ++ [((z.pw j).1, x54.2.2.2.2.2.2.1)]), x54.2.2.2.2.2.1) = puF p ((List.range (j + 1)).map z.pw) from ⟨by omega, qr_step qx54.1 qy86.1 qy86.2, pu_step hI.2.2 qx54.2⟩)⟩, (show z.m - (j + 1) < z.m - j from (by omega)), ⟨rfl, rfl, rfl⟩⟩⟩⟩⟩, trivial⟩⟩⟩⟩⟩⟩⟩), fun h52 => (have := of_decide_eq_false h52;altA (fun zw => (j, k, b, cap, Lr, xs, d, zw)) ⟨(show j = z.m∧QR k b cap Lr xs∧(xs, d) = puF p ((List.range j).map z.pw) from ⟨by omega, hI.2⟩), (by show _ = _;kernel_rfl), ⟨(by show _ = _;kernel_rfl), (by show _ = _;kernel_rfl), (by show _ = _;kernel_rfl)⟩⟩)⟩)
theorem put_own_L4_ct (z : L) (p : PW) (a0 : Nat)  (R : RO) (hz : z.ok R) (hn : z.m ≤ 1000000)  : CT Tryd.prog (sub (bodyOf Tryd.f30) [1, 1, 1, 0, 1, 0]) ⟨(.slice z.pa z.m z.pc::.agg #[vu p.1, vi p.2]::undef::ptA a0::.slice none 0 0::.slice none 0 0::.bool false::uns 5 (.slice z.pa z.m z.pc::vi (z.m : Int)::vi 0::uns 53 [])), [], [some (a0, .row [vu p.1, vi p.2] 65 2)]⟩ R (put_own_L4_K z p a0 R) :=
  CT.pad 1 <| CT.loop_eqs (put_own_L4_inv z p a0) (put_own_L4_I z p a0 R) (put_own_L4_mu z p a0) (fun zw => (0, 0, (none : Option Nat), 0, ([] : List Value), ([] : List PW), false, zw)) (by kernel_rfl) (by kernel_rfl) ⟨rfl, (show 0 ≤ z.m∧QR 0 (none : Option Nat) 0 ([] : List Value) ([] : List PW)∧(([] : List PW), false) = puF p ((List.range 0).map z.pw) from ⟨Nat.zero_le _, ⟨rfl, rfl, fun _ => rfl, Nat.le_refl _, by simp [maxLen]⟩, rfl⟩)⟩
    (by
      rintro ⟨j, k, b, cap, Lr, xs, d, u1⟩ G hG ⟨rfl, hI⟩
      exact put_own_L4_body z p a0 _ hz hn j k b cap Lr xs d u1 hI)
noncomputable def put_own_L18_inv (z : L) (p : PW) (a0 : Nat) (x2 : Nat×Nat×Option Nat×Nat×List Value×(List PW)×Bool×NV) (x8 : Nat×Option Nat×Nat×List Value×(List PW)×NV)  : (Option Nat)×Nat×Nat×Option Nat×Nat×List Value×(List PW)×NV → St := fun zx => ⟨(.slice z.pa z.m z.pc::.agg #[vu p.1, vi p.2]::undef::ptA a0::.slice none 0 0::gsv zx.1 x8.1 x8.2.2.1::.bool x2.2.2.2.2.2.2.1::undef::(x2.2.2.2.2.2.2.2 8)::gsv zx.2.2.2.1 zx.2.2.1 zx.2.2.2.2.1::undef::(zx.2.2.2.2.2.2.2 11)::.slice z.pa z.m z.pc::vi (z.m : Int)::vi (x2.1 : Int)::urun x2.2.2.2.2.2.2.2 15 32 (.bool x2.2.2.2.2.2.2.1::urun x8.2.2.2.2.2 48 5 (gsv zx.1 x8.1 x8.2.2.1::vi (x8.1 : Int)::vi ((zx.2.1 : Nat) : Int)::urun zx.2.2.2.2.2.2.2 56 11 (undef::[])))), [], [some (a0, .row [vu p.1, vi p.2] 65 2), gsb zx.1 x8.2.2.2.1 65 (x8.2.2.1 * 2), gsb zx.2.2.2.1 zx.2.2.2.2.2.1 65 (zx.2.2.2.2.1 * 2)]⟩
def put_own_L18_I (z : L) (p : PW) (a0 : Nat) (x2 : Nat×Nat×Option Nat×Nat×List Value×(List PW)×Bool×NV) (x8 : Nat×Option Nat×Nat×List Value×(List PW)×NV)  (R : RO) : (Option Nat)×Nat×Nat×Option Nat×Nat×List Value×(List PW)×NV → RO → Prop := fun zx G => G = R∧(zx.2.1 ≤ x8.1∧QR zx.2.2.1 zx.2.2.2.1 zx.2.2.2.2.1 zx.2.2.2.2.2.1 zx.2.2.2.2.2.2.1∧zx.2.2.2.2.2.2.1 = nz (x8.2.2.2.2.1.take zx.2.1)∧zx.1 = x8.2.1)
def put_own_L18_mu (z : L) (p : PW) (a0 : Nat) (x2 : Nat×Nat×Option Nat×Nat×List Value×(List PW)×Bool×NV) (x8 : Nat×Option Nat×Nat×List Value×(List PW)×NV)  : (Option Nat)×Nat×Nat×Option Nat×Nat×List Value×(List PW)×NV → Nat := fun zx => x8.1 - zx.2.1
noncomputable def put_own_L18_K (z : L) (p : PW) (a0 : Nat) (x2 : Nat×Nat×Option Nat×Nat×List Value×(List PW)×Bool×NV) (x8 : Nat×Option Nat×Nat×List Value×(List PW)×NV)  (R : RO) : Exit' → St → RO → Prop := altPost R (.alt ((Option Nat)×Nat×Nat×Option Nat×Nat×List Value×(List PW)×NV) (fun zx => QR zx.2.2.1 zx.2.2.2.1 zx.2.2.2.2.1 zx.2.2.2.2.2.1 zx.2.2.2.2.2.2.1∧zx.2.2.2.2.2.2.1 = putL p z.pl) (fun zx => (.exit 2, ((put_own_L18_inv z p a0 x2 x8 zx).up [] [some (a0, .row [vu p.1, vi p.2] 65 2), gsb zx.1 x8.2.2.2.1 65 (x8.2.2.1 * 2), gsb zx.2.2.2.1 zx.2.2.2.2.2.1 65 (zx.2.2.2.2.1 * 2)]))) (fun _ => .altn) .altn)
theorem put_own_L18_body (z : L) (p : PW) (a0 : Nat) (x2 : Nat×Nat×Option Nat×Nat×List Value×(List PW)×Bool×NV) (x8 : Nat×Option Nat×Nat×List Value×(List PW)×NV)  (R : RO) (hz : z.ok R) (hn : z.m ≤ 1000000) (h0 : QR x8.1 x8.2.1 x8.2.2.1 x8.2.2.2.1 x8.2.2.2.2.1∧x8.2.2.2.2.1 = puN p z.pl) (b0 : Option Nat) (j : Nat) (k : Nat) (b : Option Nat) (cap : Nat) (Lr : List Value) (xs : List PW) (u39 : Nat → Value) (hI : j ≤ x8.1∧QR k b cap Lr xs∧xs = nz (x8.2.2.2.2.1.take j)∧b0 = x8.2.1) : CT Tryd.prog (sub (bodyOf Tryd.f30) [1, 1, 1, 1, 1, 1, 0, 1, 0, 0]) (put_own_L18_inv z p a0 x2 x8 (b0, j, k, b, cap, Lr, xs, u39)) R (LK (put_own_L18_inv z p a0 x2 x8) (put_own_L18_I z p a0 x2 x8 R) (put_own_L18_mu z p a0 x2 x8) (put_own_L18_K z p a0 x2 x8 R) (b0, j, k, b, cap, Lr, xs, u39)) :=
  CT.of_wp_eq (VC := (let z6 : List Value := [vu p.1, vi p.2];let z4 := ((j : Int) + 1);let z3 : Hp := [some (a0, .row z6 65 2), gsb b0 x8.2.2.2.1 65 (x8.2.2.1 * 2), gsb b Lr 65 (cap * 2)];let z2 := (put_own_L18_inv z p a0 x2 x8 (b0, j, k, b, cap, Lr, xs, u39));let z0 := (x8.2.2.2.2.1.getD j (0, 0));let z5 : Array Value := #[vu (z0.1), vi (z0.2)];let z1 : List Value := [vu (z0.1), vi (z0.2)];((decide ((j : Int) < (x8.1 : Int))) = true → (∃ a91 : Nat, b0 = some a91)∧∀ a91 : Nat, b0 = some a91 → ((⟨(.slice z.pa z.m z.pc::.agg #[vu p.1, vi p.2]::undef::ptA a0::.slice none 0 0::gsv b0 x8.1 x8.2.2.1::.bool x2.2.2.2.2.2.2.1::undef::(x2.2.2.2.2.2.2.2 8)::gsv b k cap::undef::(u39 11)::.slice z.pa z.m z.pc::vi (z.m : Int)::vi (x2.1 : Int)::urun x2.2.2.2.2.2.2.2 15 32 (.bool x2.2.2.2.2.2.2.1::urun x8.2.2.2.2.2 48 5 (gsv b0 x8.1 x8.2.2.1::vi (x8.1 : Int)::vi (j : Int)::.bool true::urun u39 57 10 (undef::[])))), [], z3⟩ : St) = ⟨(.slice z.pa z.m z.pc::.agg #[vu p.1, vi p.2]::undef::ptA a0::.slice none 0 0::gsv (some a91) x8.1 x8.2.2.1::.bool x2.2.2.2.2.2.2.1::undef::(x2.2.2.2.2.2.2.2 8)::gsv b k cap::undef::(u39 11)::.slice z.pa z.m z.pc::vi (z.m : Int)::vi (x2.1 : Int)::urun x2.2.2.2.2.2.2.2 15 32 (.bool x2.2.2.2.2.2.2.1::urun x8.2.2.2.2.2 48 5 (gsv (some a91) x8.1 x8.2.2.1::vi (x8.1 : Int)::vi (j : Int)::.bool true::urun u39 57 10 (undef::[])))), [], [some (a0, .row z6 65 2), gsb (some a91) x8.2.2.2.1 65 (x8.2.2.1 * 2), gsb b Lr 65 (cap * 2)]⟩∧(IB (j : Int) (x8.1 : Nat))∧(a91 = a91∧readVar Tryd.prog 65 x8.2.2.2.1 (0 + Int.toNat (j : Int) * 2) = some (.agg z5))∧∀ a92 : Nat, (a92 = a92)∧(a92 = a92)∧(((z0.2) != 0) = true → (a92 = a92)∧∀ a94 : Nat, (PrimOK Tryd.prog (.app 45 45 45 (gsv b k cap) (slA a94 1 1)) R [gsb b Lr 65 (cap * 2), some (a94, .row z1 65 2)] (Nat×Nat) (fun y95 => k + 1 ≤ y95.2∧y95.2 ≤ maxLen) (fun y95 => (.slice (some ⟨y95.1, 0, none⟩) (k + 1) y95.2, [some (y95.1, .row (Lr ++ (z1 : List Value)) 65 (y95.2 * 2)), some (a94, .row z1 65 2)])))∧∀ y95 : Nat×Nat, (k + 1 ≤ y95.2∧y95.2 ≤ maxLen) → (NW .i64 z4)∧LK (put_own_L18_inv z p a0 x2 x8) (put_own_L18_I z p a0 x2 x8 R) (put_own_L18_mu z p a0 x2 x8) (put_own_L18_K z p a0 x2 x8 R) (b0, j, k, b, cap, Lr, xs, u39) .normal (z2.up [(5, gsv (some a91) x8.1 x8.2.2.1), (9, .slice (some ⟨y95.1, 0, none⟩) (k + 1) y95.2), (11, ptA a92), (53, gsv (some a91) x8.1 x8.2.2.1), (55, vi z4), (56, .bool true), (57, (ptO a91 (0 + Int.toNat (j : Int) * 2))), (58, .agg z5), (59, (ptO a92 (1))), (60, vi (z0.2)), (61, .bool true), (62, gsv b k cap), (63, .agg z5), (64, slA a94 1 1), (65, .slice (some ⟨y95.1, 0, none⟩) (k + 1) y95.2), (66, vi z4)] [some (a0, .row z6 65 2), gsb (some a91) x8.2.2.2.1 65 (x8.2.2.1 * 2), some (y95.1, .row (Lr ++ (z1 : List Value)) 65 (y95.2 * 2)), some (a92, .row z1 65 2), some (a94, .row z1 65 2)]) R)∧(((z0.2) != 0) = false → (NW .i64 z4)∧LK (put_own_L18_inv z p a0 x2 x8) (put_own_L18_I z p a0 x2 x8 R) (put_own_L18_mu z p a0 x2 x8) (put_own_L18_K z p a0 x2 x8 R) (b0, j, k, b, cap, Lr, xs, u39) .normal (z2.up [(5, gsv (some a91) x8.1 x8.2.2.1), (11, ptA a92), (53, gsv (some a91) x8.1 x8.2.2.1), (55, vi z4), (56, .bool true), (57, (ptO a91 (0 + Int.toNat (j : Int) * 2))), (58, .agg z5), (59, (ptO a92 (1))), (60, vi (z0.2)), (61, .bool false), (66, vi z4)] [some (a0, .row z6 65 2), gsb (some a91) x8.2.2.2.1 65 (x8.2.2.1 * 2), gsb b Lr 65 (cap * 2), some (a92, .row z1 65 2)]) R)))∧((decide ((j : Int) < (x8.1 : Int))) = false → LK (put_own_L18_inv z p a0 x2 x8) (put_own_L18_I z p a0 x2 x8 R) (put_own_L18_mu z p a0 x2 x8) (put_own_L18_K z p a0 x2 x8 R) (b0, j, k, b, cap, Lr, xs, u39) (.exit 2) (z2.up [(56, .bool false)] z3) R))) (let y_0 := (x8.2.2.2.2.1.getD j (0, 0));ops [.d] (.sp 56 (.ex Nat (fun a91 => b0 = some a91) (fun a91 => .rw (⟨(.slice z.pa z.m z.pc::.agg #[vu p.1, vi p.2]::undef::ptA a0::.slice none 0 0::gsv (some a91) x8.1 x8.2.2.1::.bool x2.2.2.2.2.2.2.1::undef::(x2.2.2.2.2.2.2.2 8)::gsv b k cap::undef::(u39 11)::.slice z.pa z.m z.pc::vi (z.m : Int)::vi (x2.1 : Int)::urun x2.2.2.2.2.2.2.2 15 32 (.bool x2.2.2.2.2.2.2.1::urun x8.2.2.2.2.2 48 5 (gsv (some a91) x8.1 x8.2.2.1::vi (x8.1 : Int)::vi (j : Int)::.bool true::urun u39 57 10 (undef::[])))), [], [some (a0, .row [vu p.1, vi p.2] 65 2), gsb (some a91) x8.2.2.2.1 65 (x8.2.2.1 * 2), gsb b Lr 65 (cap * 2)]⟩) (ops [.ia, .q 1 (fun e v => .agg #[vu (y_0.1), vi (y_0.2)])] (.opn 3 (fun a92 => (ops [.p 3, .d, .p 3, .d] (.sp 61 (ops [.d, .p 3] (.opn 4 (fun a94 => (.opp [2, 4] [] (Nat×Nat) (fun y95 => k + 1 ≤ y95.2∧y95.2 ≤ maxLen) (fun y95 => (.slice (some ⟨y95.1, 0, none⟩) (k + 1) y95.2, [some (y95.1, .row (Lr ++ ([vu (y_0.1), vi (y_0.2)] : List Value)) 65 (y95.2 * 2)), some (a94, .row [vu (y_0.1), vi (y_0.2)] 65 2)])) (fun y95 => (ops [.d, .nw, .d] (.fin [] []))))))) (ops [.nw, .d] (.fin [] []))))))))) (.fin [] []))) (by kernel_rfl)
    (⟨fun h90 => (have := of_decide_eq_true h90;⟨(by cases h9 : b0 with | none => exact absurd (h0.1.2.2.1 (by rw [← hI.2.2.2];exact h9)) (by have h8 := h0.1.2.2.2.1;omega) | some a => exact ⟨a, rfl⟩), fun a91 hxa91 => ⟨(by rw [hxa91]), ⟨⟨by omega, by omega⟩, ⟨⟨rfl, (rd_pw h0.1.2.1 (by have h9 := h0.1.1;omega))⟩, fun a92 => ⟨rfl, ⟨rfl, ⟨fun h93 => (have := bne_iff_ne.1 h93;⟨rfl, fun a94 => ⟨(app1_ok (e := 65) (e' := 65) (z := 2) (by' := 16) (zc := [vu 0, vi 0]) (b := b) (len := k) (cap := cap) (n := 1) (cs := Lr) (new := [vu ((x8.2.2.2.2.1.getD j (0, 0)).1), vi ((x8.2.2.2.2.1.getD j (0, 0)).2)]) (by kernel_rfl) (.inl (by kernel_rfl)) (by kernel_rfl) rfl (qr_cs hI.2.1) hI.2.1.2.2.2.1 hI.2.1.2.2.2.2 hI.2.1.2.2.1 ⟨rfl, .inr (.inr ⟨_, _, _, rfl, .inl ⟨1, _, _, _, rfl, rfl⟩⟩)⟩ (ones_spec rfl) (by have h8 := hI.2.1.1;rw [hI.2.2.1] at h8;have h9 := nz_len (x8.2.2.2.2.1.take j);rw [List.length_take] at h9;have h7 := ys_len h0.2;omega) (by have h8 := hI.2.1.1;rw [hI.2.2.1] at h8;have h9 := nz_len (x8.2.2.2.2.1.take j);rw [List.length_take] at h9;have h7 := ys_len h0.2;simp only [maxLen];omega) (by omega)), fun y95 qy95 => ⟨(nwI (by omega) (by have h9 := h0.1.1;have h8 := ys_len h0.2;omega)), LKn (fun zw => ((some a91), (j + 1), (k + 1), (some y95.1), y95.2, (Lr ++ ([vu ((x8.2.2.2.2.1.getD j (0, 0)).1), vi ((x8.2.2.2.2.1.getD j (0, 0)).2)] : List Value)), (xs ++ [x8.2.2.2.2.1.getD j (0, 0)]), zw)) ⟨⟨rfl, (show (j + 1) ≤ x8.1∧QR (k + 1) (some y95.1) y95.2 (Lr ++ ([vu ((x8.2.2.2.2.1.getD j (0, 0)).1), vi ((x8.2.2.2.2.1.getD j (0, 0)).2)] : List Value)) (xs ++ [x8.2.2.2.2.1.getD j (0, 0)])∧(xs ++ [x8.2.2.2.2.1.getD j (0, 0)]) = nz (x8.2.2.2.2.1.take (j + 1))∧(some a91) = x8.2.1 from (by subst hxa91;exact ⟨by omega, qr_step hI.2.1 qy95.1 qy95.2, by rw [nz_snoc (by have h9 := h0.1.1;omega), h93, ← hI.2.2.1];rfl, hI.2.2.2⟩))⟩, (show x8.1 - (j + 1) < x8.1 - j from (by omega)), ⟨(by subst hxa91;show _ = _;kernel_rfl), rfl, (by subst hxa91;rfl)⟩⟩⟩⟩⟩), fun h93 => (have := bne_eq_false_iff_eq.1 h93;⟨(nwI (by omega) (by have h9 := h0.1.1;have h8 := ys_len h0.2;omega)), LKn (fun zw => ((some a91), (j + 1), k, b, cap, Lr, xs, zw)) ⟨⟨rfl, (show (j + 1) ≤ x8.1∧QR k b cap Lr xs∧xs = nz (x8.2.2.2.2.1.take (j + 1))∧(some a91) = x8.2.1 from (by subst hxa91;exact ⟨by omega, hI.2.1, by rw [nz_snoc (by have h9 := h0.1.1;omega), h93, ← hI.2.2.1];rfl, hI.2.2.2⟩))⟩, (show x8.1 - (j + 1) < x8.1 - j from (by omega)), ⟨(by subst hxa91;show _ = _;kernel_rfl), rfl, (by subst hxa91;rfl)⟩⟩⟩)⟩⟩⟩⟩⟩⟩⟩), fun h90 => (have := of_decide_eq_false h90;altA (fun zw => (b0, j, k, b, cap, Lr, xs, zw)) ⟨(show QR k b cap Lr xs∧xs = putL p z.pl from ⟨hI.2.1, by rw [hI.2.2.1, List.take_of_length_le (by have h9 := h0.1.1;omega), h0.2];rfl⟩), (by show _ = _;kernel_rfl), ⟨(by show _ = _;kernel_rfl), (by show _ = _;kernel_rfl), (by show _ = _;kernel_rfl)⟩⟩)⟩)
theorem put_own_L18_ct (z : L) (p : PW) (a0 : Nat) (x2 : Nat×Nat×Option Nat×Nat×List Value×(List PW)×Bool×NV) (x8 : Nat×Option Nat×Nat×List Value×(List PW)×NV)  (R : RO) (hz : z.ok R) (hn : z.m ≤ 1000000) (h0 : QR x8.1 x8.2.1 x8.2.2.1 x8.2.2.2.1 x8.2.2.2.2.1∧x8.2.2.2.2.1 = puN p z.pl)  : CT Tryd.prog (sub (bodyOf Tryd.f30) [1, 1, 1, 1, 1, 1, 0, 1, 0]) ⟨(.slice z.pa z.m z.pc::.agg #[vu p.1, vi p.2]::undef::ptA a0::.slice none 0 0::gsv x8.2.1 x8.1 x8.2.2.1::.bool x2.2.2.2.2.2.2.1::undef::(x2.2.2.2.2.2.2.2 8)::.slice none 0 0::undef::undef::.slice z.pa z.m z.pc::vi (z.m : Int)::vi (x2.1 : Int)::urun x2.2.2.2.2.2.2.2 15 32 (.bool x2.2.2.2.2.2.2.1::urun x8.2.2.2.2.2 48 5 (gsv x8.2.1 x8.1 x8.2.2.1::vi (x8.1 : Int)::vi 0::uns 12 []))), [], [some (a0, .row [vu p.1, vi p.2] 65 2), gsb x8.2.1 x8.2.2.2.1 65 (x8.2.2.1 * 2)]⟩ R (put_own_L18_K z p a0 x2 x8 R) :=
  CT.pad 1 <| CT.loop_eqs (put_own_L18_inv z p a0 x2 x8) (put_own_L18_I z p a0 x2 x8 R) (put_own_L18_mu z p a0 x2 x8) (fun zw => (x8.2.1, 0, 0, (none : Option Nat), 0, ([] : List Value), ([] : List PW), zw)) (by kernel_rfl) (by kernel_rfl) ⟨rfl, (show 0 ≤ x8.1∧QR 0 (none : Option Nat) 0 ([] : List Value) ([] : List PW)∧([] : List PW) = nz (x8.2.2.2.2.1.take 0)∧x8.2.1 = x8.2.1 from ⟨Nat.zero_le _, ⟨rfl, rfl, fun _ => rfl, Nat.le_refl _, by simp [maxLen]⟩, rfl, rfl⟩)⟩
    (by
      rintro ⟨b0, j, k, b, cap, Lr, xs, u39⟩ G hG ⟨rfl, hI⟩
      exact put_own_L18_body z p a0 x2 x8 _ hz hn h0 b0 j k b cap Lr xs u39 hI)
theorem put_own (z : L) (p : PW) (R : RO) (hz : z.ok R) (hn : z.m ≤ 1000000) : Does Tryd.prog 30 [.slice z.pa z.m z.pc, .agg #[vu p.1, vi p.2]] R [] (fun (r : Out) (G : RO) (B : Hp) => ∃ x : PD, (∃ Lr, QR x.k x.b x.cap Lr x.xs∧x.xs = putL p z.pl)∧r = .ret (gsv x.b x.k x.cap)∧B = [gsb x.b (powR x.xs) 65 (x.cap * 2)]) :=
  Does.of_wp_eq (VC := (let z1 : List Value := [vu p.1, vi p.2];let z0 : Array Value := #[vu p.1, vi p.2];∀ a0 : Nat, (CT Tryd.prog (sub (bodyOf Tryd.f30) [1, 1, 1, 0, 1, 0]) ⟨(.slice z.pa z.m z.pc::.agg z0::undef::ptA a0::.slice none 0 0::.slice none 0 0::.bool false::uns 5 (.slice z.pa z.m z.pc::vi (z.m : Int)::vi 0::uns 53 [])), [], [some (a0, .row z1 65 2)]⟩ R (put_own_L4_K z p a0 R))∧(∀ x2 : Nat×Nat×Option Nat×Nat×List Value×(List PW)×Bool×NV, (x2.1 = z.m∧QR x2.2.1 x2.2.2.1 x2.2.2.2.1 x2.2.2.2.2.1 x2.2.2.2.2.2.1∧(x2.2.2.2.2.2.1, x2.2.2.2.2.2.2.1) = puF p ((List.range x2.1).map z.pw)) → (CT Tryd.prog (sub (bodyOf Tryd.f30) [1, 1, 1, 1, 0, 1]) ⟨(.slice z.pa z.m z.pc::.agg z0::undef::ptA a0::.slice none 0 0::gsv x2.2.2.1 x2.2.1 x2.2.2.2.1::.bool x2.2.2.2.2.2.2.1::undef::(x2.2.2.2.2.2.2.2 8)::undef::undef::undef::.slice z.pa z.m z.pc::vi (z.m : Int)::vi (x2.1 : Int)::urun x2.2.2.2.2.2.2.2 15 32 (.bool x2.2.2.2.2.2.2.1::.bool (!x2.2.2.2.2.2.2.1)::uns 19 [])), [], [some (a0, .row z1 65 2), gsb x2.2.2.1 x2.2.2.2.2.1 65 (x2.2.2.2.1 * 2)]⟩ R (altPost R (.alt (Nat×Option Nat×Nat×List Value×(List PW)×NV) (fun zx => QR zx.1 zx.2.1 zx.2.2.1 zx.2.2.2.1 zx.2.2.2.2.1∧zx.2.2.2.2.1 = puN p z.pl) (fun zx => (.normal, ⟨(.slice z.pa z.m z.pc::.agg z0::undef::ptA a0::.slice none 0 0::gsv zx.2.1 zx.1 zx.2.2.1::.bool x2.2.2.2.2.2.2.1::undef::(x2.2.2.2.2.2.2.2 8)::undef::undef::undef::.slice z.pa z.m z.pc::vi (z.m : Int)::vi (x2.1 : Int)::urun x2.2.2.2.2.2.2.2 15 32 (.bool x2.2.2.2.2.2.2.1::urun zx.2.2.2.2.2 48 5 (uns 15 []))), [], [some (a0, .row z1 65 2), gsb zx.2.1 zx.2.2.2.1 65 (zx.2.2.1 * 2)]⟩)) (fun _ => .altn) .altn)))∧(∀ x8 : Nat×Option Nat×Nat×List Value×(List PW)×NV, (QR x8.1 x8.2.1 x8.2.2.1 x8.2.2.2.1 x8.2.2.2.2.1∧x8.2.2.2.2.1 = puN p z.pl) → (CT Tryd.prog (sub (bodyOf Tryd.f30) [1, 1, 1, 1, 1, 1, 0, 1, 0]) ⟨(.slice z.pa z.m z.pc::.agg z0::undef::ptA a0::.slice none 0 0::gsv x8.2.1 x8.1 x8.2.2.1::.bool x2.2.2.2.2.2.2.1::undef::(x2.2.2.2.2.2.2.2 8)::.slice none 0 0::undef::undef::.slice z.pa z.m z.pc::vi (z.m : Int)::vi (x2.1 : Int)::urun x2.2.2.2.2.2.2.2 15 32 (.bool x2.2.2.2.2.2.2.1::urun x8.2.2.2.2.2 48 5 (gsv x8.2.1 x8.1 x8.2.2.1::vi (x8.1 : Int)::vi 0::uns 12 []))), [], [some (a0, .row z1 65 2), gsb x8.2.1 x8.2.2.2.1 65 (x8.2.2.1 * 2)]⟩ R (put_own_L18_K z p a0 x2 x8 R))∧(∀ x40 : (Option Nat)×Nat×Nat×Option Nat×Nat×List Value×(List PW)×NV, (QR x40.2.2.1 x40.2.2.2.1 x40.2.2.2.2.1 x40.2.2.2.2.2.1 x40.2.2.2.2.2.2.1∧x40.2.2.2.2.2.2.1 = putL p z.pl) → (fun (r : Out) (G : RO) (B : Hp) => ∃ x : PD, (∃ Lr, QR x.k x.b x.cap Lr x.xs∧x.xs = putL p z.pl)∧r = .ret (gsv x.b x.k x.cap)∧B = [gsb x.b (powR x.xs) 65 (x.cap * 2)]) (.ret (gsv x40.2.2.2.1 x40.2.2.1 x40.2.2.2.2.1)) R [gsb x40.2.2.2.1 x40.2.2.2.2.2.1 65 (x40.2.2.2.2.1 * 2)])∧True)∧True)∧True)) (.opn 0 (fun a0 => (ops [.d, .d, .d, .d, .d, .d] (.alt (Nat×Nat×Option Nat×Nat×List Value×(List PW)×Bool×NV) (fun zx => zx.1 = z.m∧QR zx.2.1 zx.2.2.1 zx.2.2.2.1 zx.2.2.2.2.1 zx.2.2.2.2.2.1∧(zx.2.2.2.2.2.1, zx.2.2.2.2.2.2.1) = puF p ((List.range zx.1).map z.pw)) (fun zx => (.exit 0, ((put_own_L4_inv z p a0 zx).up [] [some (a0, .row [vu p.1, vi p.2] 65 2), gsb zx.2.2.1 zx.2.2.2.2.1 65 (zx.2.2.2.1 * 2)]))) (fun x2 => (ops [.d, .d] (.alt (Nat×Option Nat×Nat×List Value×(List PW)×NV) (fun zx => QR zx.1 zx.2.1 zx.2.2.1 zx.2.2.2.1 zx.2.2.2.2.1∧zx.2.2.2.2.1 = puN p z.pl) (fun zx => (.normal, ⟨(.slice z.pa z.m z.pc::.agg #[vu p.1, vi p.2]::undef::ptA a0::.slice none 0 0::gsv zx.2.1 zx.1 zx.2.2.1::.bool x2.2.2.2.2.2.2.1::undef::(x2.2.2.2.2.2.2.2 8)::undef::undef::undef::.slice z.pa z.m z.pc::vi (z.m : Int)::vi ((x2.1 : Nat) : Int)::urun x2.2.2.2.2.2.2.2 15 32 (.bool x2.2.2.2.2.2.2.1::urun zx.2.2.2.2.2 48 5 (uns 15 []))), [], [some (a0, .row [vu p.1, vi p.2] 65 2), gsb zx.2.1 zx.2.2.2.1 65 (zx.2.2.1 * 2)]⟩)) (fun x8 => (ops [.d, .d, .d, .d] (.alt ((Option Nat)×Nat×Nat×Option Nat×Nat×List Value×(List PW)×NV) (fun zx => QR zx.2.2.1 zx.2.2.2.1 zx.2.2.2.2.1 zx.2.2.2.2.2.1 zx.2.2.2.2.2.2.1∧zx.2.2.2.2.2.2.1 = putL p z.pl) (fun zx => (.exit 2, ((put_own_L18_inv z p a0 x2 x8 zx).up [] [some (a0, .row [vu p.1, vi p.2] 65 2), gsb zx.1 x8.2.2.2.1 65 (x8.2.2.1 * 2), gsb zx.2.2.2.1 zx.2.2.2.2.2.1 65 (zx.2.2.2.2.1 * 2)]))) (fun x40 => (ops [.d, .d] (.fin [2] []))) .altn))) .altn))) .altn)))) Tryd.func30 (by kernel_rfl) (by kernel_rfl)
    (fun a0 => ⟨put_own_L4_ct z p a0 R hz hn, ⟨fun x2 qx2 => ⟨CT.of_wp_eq (VC := (let z2 : Array Value := #[vu p.1, vi p.2];let z1 : List Value := [vu p.1, vi p.2];let z0 : Sc := (.alt (Nat×Option Nat×Nat×List Value×(List PW)×NV) (fun zx => QR zx.1 zx.2.1 zx.2.2.1 zx.2.2.2.1 zx.2.2.2.2.1∧zx.2.2.2.2.1 = puN p z.pl) (fun zx => (.normal, ⟨(.slice z.pa z.m z.pc::.agg z2::undef::ptA a0::.slice none 0 0::gsv zx.2.1 zx.1 zx.2.2.1::.bool x2.2.2.2.2.2.2.1::undef::(x2.2.2.2.2.2.2.2 8)::undef::undef::undef::.slice z.pa z.m z.pc::vi (z.m : Int)::vi ((x2.1 : Nat) : Int)::urun x2.2.2.2.2.2.2.2 15 32 (.bool x2.2.2.2.2.2.2.1::urun zx.2.2.2.2.2 48 5 (uns 15 []))), [], [some (a0, .row z1 65 2), gsb zx.2.1 zx.2.2.2.1 65 (zx.2.2.1 * 2)]⟩)) (fun _ => .altn) .altn);((!x2.2.2.2.2.2.2.1) = true → (a0 = a0)∧∀ a9 : Nat, (PrimOK Tryd.prog (.app 45 45 45 (gsv x2.2.2.1 x2.2.1 x2.2.2.2.1) (slA a9 1 1)) R [gsb x2.2.2.1 x2.2.2.2.2.1 65 (x2.2.2.2.1 * 2), some (a9, .row z1 65 2)] (Nat×Nat) (fun y10 => x2.2.1 + 1 ≤ y10.2∧y10.2 ≤ maxLen) (fun y10 => (.slice (some ⟨y10.1, 0, none⟩) (x2.2.1 + 1) y10.2, [some (y10.1, .row (x2.2.2.2.2.1 ++ (z1 : List Value)) 65 (y10.2 * 2)), some (a9, .row z1 65 2)])))∧∀ y10 : Nat×Nat, (x2.2.1 + 1 ≤ y10.2∧y10.2 ≤ maxLen) → altPost R z0 .normal ⟨(.slice z.pa z.m z.pc::.agg z2::undef::ptA a0::.slice none 0 0::.slice (some ⟨y10.1, 0, none⟩) (x2.2.1 + 1) y10.2::.bool x2.2.2.2.2.2.2.1::undef::(x2.2.2.2.2.2.2.2 8)::undef::undef::undef::.slice z.pa z.m z.pc::vi (z.m : Int)::vi ((x2.1 : Nat) : Int)::urun x2.2.2.2.2.2.2.2 15 32 (.bool x2.2.2.2.2.2.2.1::.bool true::gsv x2.2.2.1 x2.2.1 x2.2.2.2.1::.agg z2::slA a9 1 1::.slice (some ⟨y10.1, 0, none⟩) (x2.2.1 + 1) y10.2::uns 15 [])), [], [some (a0, .row z1 65 2), some (y10.1, .row (x2.2.2.2.2.1 ++ (z1 : List Value)) 65 (y10.2 * 2)), some (a9, .row z1 65 2)]⟩ R)∧((!x2.2.2.2.2.2.2.1) = false → altPost R z0 .normal ⟨(.slice z.pa z.m z.pc::.agg z2::undef::ptA a0::.slice none 0 0::gsv x2.2.2.1 x2.2.1 x2.2.2.2.1::.bool x2.2.2.2.2.2.2.1::undef::(x2.2.2.2.2.2.2.2 8)::undef::undef::undef::.slice z.pa z.m z.pc::vi (z.m : Int)::vi ((x2.1 : Nat) : Int)::urun x2.2.2.2.2.2.2.2 15 32 (.bool x2.2.2.2.2.2.2.1::.bool false::uns 19 [])), [], [some (a0, .row z1 65 2), gsb x2.2.2.1 x2.2.2.2.2.1 65 (x2.2.2.2.1 * 2)]⟩ R))) (.sp 48 (ops [.d, .p 0] (.opn 2 (fun a9 => (.opp [1, 2] [] (Nat×Nat) (fun y10 => x2.2.1 + 1 ≤ y10.2∧y10.2 ≤ maxLen) (fun y10 => (.slice (some ⟨y10.1, 0, none⟩) (x2.2.1 + 1) y10.2, [some (y10.1, .row (x2.2.2.2.2.1 ++ ([vu p.1, vi p.2] : List Value)) 65 (y10.2 * 2)), some (a9, .row [vu p.1, vi p.2] 65 2)])) (fun y10 => (ops [.d] (.fin [] []))))))) (.fin [] [])) (by kernel_rfl) (⟨fun h8 => ⟨rfl, fun a9 => ⟨(app1_ok (e := 65) (e' := 65) (z := 2) (by' := 16) (zc := [vu 0, vi 0]) (b := x2.2.2.1) (len := x2.2.1) (cap := x2.2.2.2.1) (n := 1) (cs := x2.2.2.2.2.1) (new := [vu p.1, vi p.2]) (by kernel_rfl) (.inl (by kernel_rfl)) (by kernel_rfl) rfl (qr_cs qx2.2.1) qx2.2.1.2.2.2.1 qx2.2.1.2.2.2.2 qx2.2.1.2.2.1 ⟨rfl, .inr (.inr ⟨_, _, _, rfl, .inl ⟨1, _, _, _, rfl, rfl⟩⟩)⟩ (ones_spec rfl) (by have h8 := qr_len qx2.2.1 qx2.2.2;have h7 := qx2.1;omega) (by have h8 := qr_len qx2.2.1 qx2.2.2;have h7 := qx2.1;simp only [maxLen];omega) (by omega)), fun y10 qy10 => altA (fun zw => ((x2.2.1 + 1), (some y10.1), y10.2, (x2.2.2.2.2.1 ++ ([vu p.1, vi p.2] : List Value)), (x2.2.2.2.2.2.1 ++ [p]), zw)) ⟨(show QR (x2.2.1 + 1) (some y10.1) y10.2 (x2.2.2.2.2.1 ++ ([vu p.1, vi p.2] : List Value)) (x2.2.2.2.2.2.1 ++ [p])∧(x2.2.2.2.2.2.1 ++ [p]) = puN p z.pl from ⟨qr_step qx2.2.1 qy10.1 qy10.2, (by have h9 := qx2.2.2;rw [qx2.1] at h9;unfold puN;rw [show puF p z.pl = _ from h9.symm];have h8 := h8;simp at h8;simp [h8])⟩), rfl, ⟨rfl, rfl, rfl⟩⟩⟩⟩, fun h8 => altA (fun zw => (x2.2.1, x2.2.2.1, x2.2.2.2.1, x2.2.2.2.2.1, x2.2.2.2.2.2.1, zw)) ⟨(show QR x2.2.1 x2.2.2.1 x2.2.2.2.1 x2.2.2.2.2.1 x2.2.2.2.2.2.1∧x2.2.2.2.2.2.1 = puN p z.pl from ⟨qx2.2.1, (by have h9 := qx2.2.2;rw [qx2.1] at h9;unfold puN;rw [show puF p z.pl = _ from h9.symm];have h8 := h8;simp at h8;simp [h8])⟩), rfl, ⟨rfl, rfl, rfl⟩⟩⟩), ⟨fun x8 qx8 => ⟨put_own_L18_ct z p a0 x2 x8 R hz hn qx8, ⟨fun x40 qx40 => ⟨⟨x40.2.2.2.1, x40.2.2.1, x40.2.2.2.2.1, x40.2.2.2.2.2.2.1⟩, ⟨x40.2.2.2.2.2.1, qx40.1, qx40.2⟩, (by rfl), (by exact congrArg (fun z => [gsb _ z 65 _]) qx40.1.2.1)⟩, trivial⟩⟩, trivial⟩⟩, trivial⟩⟩)
theorem put_ok (z : L) (p : PW) (R : RO) (hz : z.ok R) (hn : z.m ≤ 1000000) : Does Tryd.prog 30 [.slice z.pa z.m z.pc, .agg #[vu p.1, vi p.2]] R [] (fun r G B => ∃ w : L, (w.ok G∧w.pl = putL p z.pl)∧r = .ret (.slice w.pa w.m w.pc)∧B = []) := by
  refine (Does.freeze (X := PD) (q := fun x G => ∃ Lr, QR x.k x.b x.cap Lr x.xs∧x.xs = putL p z.pl) (g := fun x => (gsv x.b x.k x.cap, [gsb x.b (powR x.xs) 65 (x.cap * 2)])) (put_own z p R hz hn)).mono ?_
  rintro o G B hle ⟨⟨b, k, cap, xs⟩, G0, h0, ⟨Lr, q1, q2⟩, hc, rfl, rfl⟩
  have e : k = xs.length := q1.1
  subst e
  exact ⟨plL b cap xs, ⟨plL_ok q1.2.2.2.1 q1.2.2.2.2 q1.2.2.1 (fun a ha => hc 0 a _ 65 _ (by show Hp.at [gsb b _ 65 _] 0 = _;rw [show b = some a from ha];rfl)), by rw [plL_pl];exact q2⟩, rfl, rfl⟩
namespace T
abbrev rgP (l : List PW) : Prop := ∀ p ∈ l, -9223372036854775808 ≤ p.2∧p.2 ≤ 9223372036854775807
theorem wrap_rg (x : Int) : -9223372036854775808 ≤ IntKind.i64.wrap x∧IntKind.i64.wrap x ≤ 9223372036854775807 := by rw [wi64];omega
theorem rgP_prod (l : List PW) : rgP (prod l) := fun p hp => by rw [(prod_mem.1 hp).1];exact wrap_rg _
theorem wrap_id {x : Int} (h : -9223372036854775808 ≤ x∧x ≤ 9223372036854775807) : IntKind.i64.wrap x = x := wrapI h.1 h.2
theorem prod_nz {s : List PW} (hs : s.Pairwise fun x y => x.1 < y.1) (hr : rgP s) : prod s = nz s := by
  refine sorted_ext (prod_sort s) (hs.sublist List.filter_sublist) fun p => ?_
  rw [prod_mem, nz, List.mem_filter]
  constructor
  · rintro ⟨h1, h2⟩
    by_cases h : ∃ x ∈ s, x.1 = p.1
    · obtain ⟨x, hx, e⟩ := h
      rw [← e, sm_sorted hs x hx, wrap_id (hr x hx)] at h1
      have : p = x := Prod.ext e.symm h1
      subst this
      exact ⟨hx, by simpa using h2⟩
    · rw [sm_zero fun x hx he => h ⟨x, hx, he⟩, wrap_zero] at h1
      exact absurd h1 h2
  · rintro ⟨h1, h2⟩
    rw [sm_sorted hs p h1, wrap_id (hr p h1)]
    exact ⟨rfl, by simpa using h2⟩
def insR (p : PW) : List PW → List PW
  | [] => [p]
  | x::l => if x.1 = p.1 then (x.1, IntKind.i64.wrap (x.2 + p.2))::l else if p.1 < x.1 then p::x::l else x::insR p l
theorem insR_at {p : PW} : ∀ {l : List PW} {q : PW}, q ∈ insR p l → q.1 = p.1 ∨ ∃ x ∈ l, q.1 = x.1
  | [], q, h => .inl (by rw [List.mem_singleton.1 h])
  | x::l, q, h => by
    rw [insR] at h
    split at h
    · rename_i e
      rcases List.mem_cons.1 h with rfl | h
      · exact .inl e
      · exact .inr ⟨q, List.mem_cons_of_mem _ h, rfl⟩
    · split at h
      · rcases List.mem_cons.1 h with rfl | h
        · exact .inl rfl
        · exact .inr ⟨q, h, rfl⟩
      · rcases List.mem_cons.1 h with rfl | h
        · exact .inr ⟨q, List.mem_cons_self .., rfl⟩
        · rcases insR_at h with h | ⟨y, hy, e⟩
          · exact .inl h
          · exact .inr ⟨y, List.mem_cons_of_mem _ hy, e⟩
theorem insR_sort {p : PW} : ∀ {l : List PW}, l.Pairwise (fun x y => x.1 < y.1) → (insR p l).Pairwise fun x y => x.1 < y.1
  | [], _ => List.pairwise_singleton _ _
  | x::l, h => by
    obtain ⟨h1, h2⟩ := List.pairwise_cons.1 h
    rw [insR]
    split
    · exact List.pairwise_cons.2 ⟨h1, h2⟩
    · split
      · rename_i hlt
        refine List.pairwise_cons.2 ⟨fun q hq => ?_, h⟩
        rcases List.mem_cons.1 hq with rfl | hq
        · exact hlt
        · have := h1 q hq;omega
      · refine List.pairwise_cons.2 ⟨fun q hq => ?_, insR_sort h2⟩
        rcases insR_at hq with e | ⟨y, hy, e⟩
        · omega
        · have := h1 y hy;omega
theorem insR_rg {p : PW} (hp : -9223372036854775808 ≤ p.2∧p.2 ≤ 9223372036854775807) : ∀ {l : List PW}, rgP l → rgP (insR p l)
  | [], _, q, h => by rw [List.mem_singleton.1 h];exact hp
  | x::l, hl, q, h => by
    rw [insR] at h
    split at h
    · rcases List.mem_cons.1 h with rfl | h
      · exact wrap_rg _
      · exact hl q (List.mem_cons_of_mem _ h)
    · split at h
      · rcases List.mem_cons.1 h with rfl | h
        · exact hp
        · exact hl q h
      · rcases List.mem_cons.1 h with rfl | h
        · exact hl q (List.mem_cons_self ..)
        · exact insR_rg hp (fun r hr => hl r (List.mem_cons_of_mem _ hr)) q h
theorem insR_sm {p : PW} (a : Int) : ∀ l : List PW, IntKind.i64.wrap (sm (insR p l) a) = IntKind.i64.wrap (sm (l ++ [p]) a)
  | [] => rfl
  | x::l => by
    have e : sm (x::l ++ [p]) a = (if x.1 = a then x.2 else 0) + (sm l a + (if p.1 = a then p.2 else 0)) := by simp [sm]
    have ih := insR_sm (p := p) a l
    have e2 : sm (l ++ [p]) a = sm l a + (if p.1 = a then p.2 else 0) := by simp [sm]
    rw [e2] at ih
    rw [e, insR]
    split
    · rename_i h
      show IntKind.i64.wrap ((if x.1 = a then IntKind.i64.wrap (x.2 + p.2) else 0) + sm l a) = _
      rw [h]
      by_cases hp : p.1 = a
      · rw [if_pos hp, if_pos hp, if_pos hp, wrap_add];congr 1;omega
      · rw [if_neg hp, if_neg hp, if_neg hp];congr 1;omega
    · split
      · show IntKind.i64.wrap ((if p.1 = a then p.2 else 0) + ((if x.1 = a then x.2 else 0) + sm l a)) = _
        congr 1;omega
      · show IntKind.i64.wrap ((if x.1 = a then x.2 else 0) + sm (insR p l) a) = _
        rw [Int.add_comm, ← wrap_add, ih, wrap_add]
        congr 1;omega
theorem puA {p : PW} : ∀ {l : List PW} (xs : List PW), (∀ x ∈ l, x.1 ≠ p.1) → l.foldl (puS p) (xs, true) = (xs ++ l, true)
  | [], xs, _ => by simp
  | x::l, xs, h => by
    have e : puS p (xs, true) x = (xs ++ [x], true) := by
      unfold puS puM
      rw [show (x.1 == p.1) = false from beq_false_of_ne (h x (List.mem_cons_self ..))]
      rfl
    rw [List.foldl_cons, e, puA _ fun y hy => h y (List.mem_cons_of_mem _ hy)]
    simp
theorem puB {p : PW} : ∀ {l : List PW} (xs : List PW), l.Pairwise (fun x y => x.1 < y.1) → (if (l.foldl (puS p) (xs, false)).2 = true then (l.foldl (puS p) (xs, false)).1 else (l.foldl (puS p) (xs, false)).1 ++ [p]) = xs ++ insR p l
  | [], xs, _ => rfl
  | x::l, xs, h => by
    obtain ⟨h1, h2⟩ := List.pairwise_cons.1 h
    rw [List.foldl_cons, insR]
    by_cases e1 : x.1 = p.1
    · have e : puS p (xs, false) x = (xs ++ [(x.1, IntKind.i64.wrap (x.2 + p.2))], true) := by
        unfold puS puM
        rw [show (x.1 == p.1) = true from beq_of_eq e1];rfl
      rw [e, puA _ fun y hy => by have := h1 y hy;omega, if_pos rfl, if_pos e1]
      simp
    · by_cases e2 : p.1 < x.1
      · have e : puS p (xs, false) x = (xs ++ [p] ++ [x], true) := by
          unfold puS puM
          rw [show (x.1 == p.1) = false from beq_false_of_ne e1, show decide (p.1 < x.1) = true from decide_eq_true e2];rfl
        rw [e, puA _ fun y hy => by have := h1 y hy;omega, if_pos rfl, if_neg e1, if_pos e2]
        simp
      · have e : puS p (xs, false) x = (xs ++ [x], false) := by
          unfold puS puM
          rw [show (x.1 == p.1) = false from beq_false_of_ne e1, show decide (p.1 < x.1) = false from decide_eq_false e2];rfl
        rw [e, puB _ h2, if_neg e1, if_neg e2]
        simp
theorem putL_prod {p : PW} {l : List PW} (hl : prod l = l) (hp : -9223372036854775808 ≤ p.2∧p.2 ≤ 9223372036854775807) : putL p l = prod (l ++ [p]) := by
  have hs : l.Pairwise fun x y => x.1 < y.1 := hl ▸ prod_sort l
  have hr : rgP l := hl ▸ rgP_prod l
  have e : puN p l = insR p l := by
    have := puB (p := p) [] hs
    rw [List.nil_append] at this
    exact this
  unfold putL
  rw [e, ← prod_nz (insR_sort hs) (insR_rg hp hr)]
  exact prod_congr fun a => insR_sm a l
theorem put_fold : ∀ (ps l : List PW), prod l = l → rgP ps → ps.foldl (fun l p => putL p l) l = prod (l ++ ps)
  | [], l, hl, _ => by rw [List.append_nil, hl];rfl
  | p::ps, l, hl, hr => by
    rw [List.foldl_cons, putL_prod hl (hr p (List.mem_cons_self ..)), put_fold ps _ (prod_prod _) fun q hq => hr q (List.mem_cons_of_mem _ hq), prod_left]
    simp
theorem putL_len (p : PW) (l : List PW) : (putL p l).length ≤ l.length + 1 := Nat.le_trans (nz_len _) (puN_len p l)
theorem nrm_ps {d : Nat} {t : T} (h : (nrm d t).k = 4) : prod (nrm d t).ps = (nrm d t).ps := by
  have h1 := isN_nrm d t
  generalize nrm d t = x at h h1
  cases x with
  | mk k i s xs ps =>
    have h : k = 4 := h
    rw [isN] at h1
    split at h1
    · cases h1;rfl
    · rcases h1 with h1 | h1 | h1 | h1
      · omega
      · omega
      · omega
      · exact h1.2.2.2.2.2.1
end T
end Go.Proofs.YtejpoojgbnppoaaDoor
namespace Go.Proofs.YtejpoojgbnppoaaDoor
open Vc Go
set_option linter.unusedVariables false
set_option linter.unusedSimpArgs false
theorem rd_L47 {zs : List L} {Lr : List Value} (hr : Lr = rowsL zs) (h : 0 < zs.length) : readVar Tryd.prog 47 Lr (0 + Int.toNat 0 * 5) = some (zat zs 0).v := by
  subst hr
  have h1 : tinfo Tryd.prog 47 = some (true, 5) := by kernel_rfl
  have h2 := rowsL_at h
  have h3 : 5 ≤ ((rowsL zs).drop (0 * 5)).length := by rw [List.length_drop, rowsL_len];omega
  unfold readVar
  rw [h1, Nat.zero_add]
  show (match takeL 5 ((rowsL zs).drop (0 * 5)) with | some l => some (Value.agg l.toArray) | none => none) = _
  rw [takeL_of h3, h2, zat_get h]
  rfl
theorem okn_pl {y : L} (h : y.t.okn) : T.rgP y.pl := by
  rw [L.t_eq, T.okn_mk] at h
  exact fun p hp => (h.2.2.1 p hp).2
theorem okn_kid {y : L} (h : y.t.okn) {j : Nat} (hj : j < y.n) : (y.kid j).t.okn := by
  rw [L.t_eq, T.okn_mk] at h
  exact (T.oknL_iff _).1 h.2.2.2 _ (List.mem_map.2 ⟨j, List.mem_range.2 hj, rfl⟩)
theorem pow_put {A : T} {ps : List PW} (hA : A.k = 4 → T.prod A.ps = A.ps) (hr : T.rgP ps) : T.pow A ps = if ps.foldl (fun l p => putL p l) (if A.k = 4 then A.ps else []) = [] then (if A.k = 4 then A.xs.headD (T.word .empty) else A) else .mk 4 0 .empty [if A.k = 4 then A.xs.headD (T.word .empty) else A] (ps.foldl (fun l p => putL p l) (if A.k = 4 then A.ps else [])) := by
  unfold T.pow
  by_cases h : A.k = 4
  · rw [if_pos h, if_pos h, if_pos h, T.put_fold ps _ (hA h) hr]
  · rw [if_neg h, if_neg h, if_neg h, T.put_fold ps [] T.prod_nil hr];rfl
theorem nf4 {z : L} {A : T} (h : z.t = A) (h4 : z.k = 4) (hn : 0 < z.n) : z.pl = (if A.k = 4 then A.ps else [])∧(z.kid 0).t = (if A.k = 4 then A.xs.headD (T.word .empty) else A) := by
  subst h
  rw [L.t_k, if_pos h4, if_pos h4, L.t_ps, L.t_xs]
  refine ⟨rfl, ?_⟩
  obtain ⟨n, hn'⟩ : ∃ n, z.n = n + 1 := ⟨z.n - 1, by omega⟩
  rw [hn', List.range_succ_eq_map];rfl
theorem nfn {z : L} {A : T} (h : z.t = A) (h4 : ¬ z.k = 4) : (plL none 0 []).pl = (if A.k = 4 then A.ps else [])∧z.t = (if A.k = 4 then A.xs.headD (T.word .empty) else A) := by
  subst h
  rw [L.t_k, if_neg h4, if_neg h4, plL_pl]
  exact ⟨rfl, rfl⟩
theorem T.ps_wt (t : T) : 60 * t.ps.length + 300 ≤ t.wt := by
  cases t with
  | mk k i s xs ps => show 60 * ps.length + 300 ≤ 300 + 2 * s.size + 60 * ps.length + T.wtL xs;omega
theorem l0_len {y : L} {d : Nat} {w : L} (h : 0 < y.n) (hw : y.t.wt ≤ 1000000) (e : w.pl = (if (T.nrm (d + 1) (y.kid 0).t).k = 4 then (T.nrm (d + 1) (y.kid 0).t).ps else [])) : w.m ≤ 20000 := by
  have h1 := congrArg List.length e
  have h2 : w.pl.length = w.m := by simp [L.pl]
  have h3 := T.ps_wt (T.nrm (d + 1) (y.kid 0).t)
  have h4 := T.wt_nrm (d + 1) (y.kid 0).t
  have h5 := L.wt_kid y h
  have h6 : (if (T.nrm (d + 1) (y.kid 0).t).k = 4 then (T.nrm (d + 1) (y.kid 0).t).ps else []).length ≤ (T.nrm (d + 1) (y.kid 0).t).ps.length := by split <;> simp
  omega
abbrev PF (y : L) (l : List PW) (j : Nat) : List PW := ((List.range j).map y.pw).foldl (fun l p => putL p l) l
theorem pF_step (y : L) (l : List PW) (j : Nat) : PF y l (j + 1) = putL (y.pw j) (PF y l j) := by simp [PF, List.range_succ]
theorem pF_len (y : L) (l : List PW) : ∀ j, (PF y l j).length ≤ l.length + j
  | 0 => Nat.le_refl _
  | j + 1 => by
    have h1 := pF_len y l j
    have h2 := T.putL_len (y.pw j) (PF y l j)
    rw [pF_step];omega
inductive RN where
  | done (z : L)
  | hash (b : Option Nat) (cap : Nat) (s : ByteArray) (zs : List L)
  | pow (a : Nat) (t z : L)
namespace RN
def v : RN → Value
  | .done z => z.v
  | .hash b cap s zs => .agg #[vi 3, vu 0, .string s, gsv b zs.length cap, .slice none 0 0]
  | .pow a _ z => .agg #[vi 4, vu 0, .string .empty, slA a 1 1, .slice z.pa z.m z.pc]
def b : RN → Option Nat | .done _ => none | .hash b _ _ _ => b | .pow a _ _ => some a
def cap : RN → Nat | .done _ => 0 | .hash _ c _ _ => c | .pow _ _ _ => 1
def rows : RN → List Value | .done _ => [] | .hash _ _ _ zs => rowsL zs | .pow _ t _ => t.row
def ok (G : RO) : RN → Prop
  | .done z => z.ok G
  | .hash b cap _ zs => (∀ z ∈ zs, z.ok G)∧zs.length ≤ cap∧cap ≤ maxLen∧(b = none → cap = 0)
  | .pow _ t z => t.ok G∧z.ok G
noncomputable def t : RN → T
  | .done z => z.t
  | .hash _ _ s zs => .mk 3 0 s (zs.map L.t) []
  | .pow _ t z => .mk 4 0 .empty [t.t] z.pl
end RN
theorem rn_early {y : L} {d : Nat} (h : 40 < d ∨ y.k < 1 ∨ 4 < y.k ∨ (y.k = 4∧y.n ≠ 1)) : T.nrm d y.t = T.word .empty := by
  by_cases hd : 40 < d
  · exact nrm_deep hd
  · exact nrm_else (by omega) (by omega) (by omega) (by omega)
theorem ki0 {n : Nat} {F : Nat → T} {G : RO} {j : Nat} {b : Option Nat} {cap : Nat} {Lr : List Value} {zs : List L} (h : KI n F G j b cap Lr zs) (h0 : 0 < j) : (zat zs 0).ok G∧(zat zs 0).t = F 0 := by
  have := zat_map h.2.2.2.2.2.2.2 h0
  exact ⟨h.2.2.2.2.2.2.1 _ this.2, this.1⟩
theorem rn_pow {y w bs v : L} {d j : Nat} (h1 : ¬ 40 < d) (h4 : y.k = 4) (hn : y.n = 1) (ho : y.t.okn) (e1 : w.pl = (if (T.nrm (d + 1) (y.kid 0).t).k = 4 then (T.nrm (d + 1) (y.kid 0).t).ps else [])) (e2 : bs.t = (if (T.nrm (d + 1) (y.kid 0).t).k = 4 then (T.nrm (d + 1) (y.kid 0).t).xs.headD (T.word .empty) else (T.nrm (d + 1) (y.kid 0).t))) (e3 : j = y.m) (e4 : v.pl = PF y w.pl j) : T.nrm d y.t = if v.pl = [] then bs.t else .mk 4 0 .empty [bs.t] v.pl := by
  subst e3
  rw [nrm_pow (by omega) (by omega) (by omega), e4, e1, e2]
  exact pow_put T.nrm_ps (okn_pl ho)
noncomputable def rnormal_own_L10_inv (y : L) (d : Nat) (a0 : Nat) (a1 : Nat) (a2 : Nat) (x3 : Bool×NV)  : Nat×Option Nat×Nat×List Value×List L×NV → St := fun zx => ⟨(.agg y.row.toArray::vi (d : Int)::ptA a0::undef::ptA a1::ptA a2::gsv zx.2.1 zx.1 zx.2.2.1::undef::(zx.2.2.2.2.2 8)::uns 4 (.agg #[vi 2, vu 0, .string ByteArray.empty, .slice none 0 0, .slice none 0 0]::urun x3.2 14 22 (.bool false::undef::ptA a0::vi y.k::.bool false::undef::undef::undef::ptA a0::vi y.k::.bool false::undef::undef::undef::(ptO a0 (3))::.slice y.aa y.n y.ac::vi (y.n : Int)::vi ((zx.1 : Nat) : Int)::urun zx.2.2.2.2.2 54 11 (uns 38 [])))), [], [some (a0, .row y.row 47 5), some (a1, .row [vi 0, vu 0, .string ByteArray.empty, .slice none 0 0, .slice none 0 0] 47 5), some (a2, .row [vi 2, vu 0, .string ByteArray.empty, .slice none 0 0, .slice none 0 0] 47 5), gsb zx.2.1 zx.2.2.2.1 47 (zx.2.2.1 * 5)]⟩
def rnormal_own_L10_I (y : L) (d : Nat) (a0 : Nat) (a1 : Nat) (a2 : Nat) (x3 : Bool×NV)  (R : RO) : Nat×Option Nat×Nat×List Value×List L×NV → RO → Prop := fun zx G => R.le G∧(KI y.n (fun i => T.nrm (d + 1) (y.kid i).t) G zx.1 zx.2.1 zx.2.2.1 zx.2.2.2.1 zx.2.2.2.2.1)
def rnormal_own_L10_mu (y : L) (d : Nat) (a0 : Nat) (a1 : Nat) (a2 : Nat) (x3 : Bool×NV)  : Nat×Option Nat×Nat×List Value×List L×NV → Nat := fun zx => y.n - zx.1
noncomputable def rnormal_own_L10_K (y : L) (d : Nat) (a0 : Nat) (a1 : Nat) (a2 : Nat) (x3 : Bool×NV)  (R : RO) : Exit' → St → RO → Prop := altPost R (.altG (Nat×Option Nat×Nat×List Value×List L×NV) (fun zx G => zx.1 = y.n∧KI y.n (fun i => T.nrm (d + 1) (y.kid i).t) G zx.1 zx.2.1 zx.2.2.1 zx.2.2.2.1 zx.2.2.2.2.1) (fun zx => (.exit 0, ((rnormal_own_L10_inv y d a0 a1 a2 x3 zx).up [] [some (a0, .row y.row 47 5), some (a1, .row [vi 0, vu 0, .string ByteArray.empty, .slice none 0 0, .slice none 0 0] 47 5), some (a2, .row [vi 2, vu 0, .string ByteArray.empty, .slice none 0 0, .slice none 0 0] 47 5), gsb zx.2.1 zx.2.2.2.1 47 (zx.2.2.1 * 5)]))) (fun _ => .altn) .altn)
theorem rnormal_own_L10_body (y : L) (d : Nat) (a0 : Nat) (a1 : Nat) (a2 : Nat) (x3 : Bool×NV)  (R0 R : RO) (hle : R0.le R) (hrec : d ≤ 40 → ∀ (y : L) (S : RO), y.ok S → y.t.wt ≤ 1000000 → y.t.okn → Does Tryd.prog 16 [y.v, vi ((d : Int) + 1)] S [] (fun r G B => ∃ z : L, (z.ok G∧z.t = T.nrm (d + 1) y.t)∧r = .ret z.v∧B = [])) (hy : y.ok R) (hw : y.t.wt ≤ 1000000) (ho : y.t.okn) (hd : d ≤ 40) (j : Nat) (b : Option Nat) (cap : Nat) (Lr : List Value) (zs : List L) (u37 : Nat → Value) (hI : KI y.n (fun i => T.nrm (d + 1) (y.kid i).t) R j b cap Lr zs) : CT Tryd.prog (sub (bodyOf Tryd.f16) [1, 1, 1, 1, 1, 1, 0, 1, 0, 0]) (rnormal_own_L10_inv y d a0 a1 a2 x3 (j, b, cap, Lr, zs, u37)) R (LK (rnormal_own_L10_inv y d a0 a1 a2 x3) (rnormal_own_L10_I y d a0 a1 a2 x3 R0) (rnormal_own_L10_mu y d a0 a1 a2 x3) (rnormal_own_L10_K y d a0 a1 a2 x3 R0) (j, b, cap, Lr, zs, u37)) :=
  CT.of_wp_eq (VC := (let z6 := (rnormal_own_L10_inv y d a0 a1 a2 x3 (j, b, cap, Lr, zs, u37));let z5 : List Value := [vi 2, vu 0, .string ByteArray.empty, .slice none 0 0, .slice none 0 0];let z4 : List Value := [vi 0, vu 0, .string ByteArray.empty, .slice none 0 0, .slice none 0 0];let z3 : List Value := y.row;let z2 : List Value := [vi ((y.kid j).k), vu ((y.kid j).id), .string ((y.kid j).s), .slice (y.kid j).aa ((y.kid j).n) ((y.kid j).ac), .slice (y.kid j).pa ((y.kid j).m) ((y.kid j).pc)];let z1 : Array Value := #[vi ((y.kid j).k), vu ((y.kid j).id), .string ((y.kid j).s), .slice (y.kid j).aa ((y.kid j).n) ((y.kid j).ac), .slice (y.kid j).pa ((y.kid j).m) ((y.kid j).pc)];((decide ((j : Int) < (y.n : Int))) = true → (y.aa = some ⟨y.AB, y.AO, none⟩∧(0 : Int) ≤ (j : Int)∧((j : Int) : Int) < (y.n : Int))∧(R.cells y.AB (y.AO + Int.toNat (j : Int) * 5) z2)∧∀ a89 : Nat, (a89 = a89)∧(a89 = a89)∧(NW .i64 ((d : Int) + 1))∧(Does Tryd.prog 16 [.agg z1, vi ((d : Int) + 1)] R [] (fun r G B => ∃ z90 : L, (z90.ok G∧z90.t = T.nrm (d + 1) (y.kid j).t)∧r = .ret (.agg z90.row.toArray)∧B = []))∧∀ (z90 : L) (G91 : RO), let z0 : List Value := z90.row;R.le G91 → (z90.ok G91∧z90.t = T.nrm (d + 1) (y.kid j).t) → ∀ a92 : Nat, (PrimOK Tryd.prog (.app 44 44 44 (gsv b j cap) (slA a92 1 1)) G91 [gsb b Lr 47 (cap * 5), some (a92, .row z0 47 5)] (Nat×Nat) (fun y93 => j + 1 ≤ y93.2∧y93.2 ≤ maxLen) (fun y93 => (.slice (some ⟨y93.1, 0, none⟩) (j + 1) y93.2, [some (y93.1, .row (Lr ++ (z0 : List Value)) 47 (y93.2 * 5)), some (a92, .row z0 47 5)])))∧∀ y93 : Nat×Nat, (j + 1 ≤ y93.2∧y93.2 ≤ maxLen) → (NW .i64 ((j : Int) + 1))∧LK (rnormal_own_L10_inv y d a0 a1 a2 x3) (rnormal_own_L10_I y d a0 a1 a2 x3 R0) (rnormal_own_L10_mu y d a0 a1 a2 x3) (rnormal_own_L10_K y d a0 a1 a2 x3 R0) (j, b, cap, Lr, zs, u37) .normal (z6.up [(6, .slice (some ⟨y93.1, 0, none⟩) (j + 1) y93.2), (8, ptA a89), (53, vi ((j : Int) + 1)), (54, .bool true), (55, (ptO y.AB (y.AO + Int.toNat (j : Int) * 5))), (56, .agg z1), (57, gsv b j cap), (58, .agg z1), (59, vi (d : Int)), (60, vi ((d : Int) + 1)), (61, .agg z90.row.toArray), (62, slA a92 1 1), (63, .slice (some ⟨y93.1, 0, none⟩) (j + 1) y93.2), (64, vi ((j : Int) + 1))] [some (a0, .row z3 47 5), some (a1, .row z4 47 5), some (a2, .row z5 47 5), some (y93.1, .row (Lr ++ (z0 : List Value)) 47 (y93.2 * 5)), some (a89, .row z2 47 5), some (a92, .row z0 47 5)]) G91)∧((decide ((j : Int) < (y.n : Int))) = false → LK (rnormal_own_L10_inv y d a0 a1 a2 x3) (rnormal_own_L10_I y d a0 a1 a2 x3 R0) (rnormal_own_L10_mu y d a0 a1 a2 x3) (rnormal_own_L10_K y d a0 a1 a2 x3 R0) (j, b, cap, Lr, zs, u37) (.exit 0) (z6.up [(54, .bool false)] [some (a0, .row z3 47 5), some (a1, .row z4 47 5), some (a2, .row z5 47 5), gsb b Lr 47 (cap * 5)]) R))) (ops [.d] (.sp 54 (ops [.ib y.AB y.AO, .ro (fun v => [vi ((y.kid j).k), vu ((y.kid j).id), .string ((y.kid j).s), .slice (y.kid j).aa ((y.kid j).n) ((y.kid j).ac), .slice (y.kid j).pa ((y.kid j).m) ((y.kid j).pc)])] (.opn 4 (fun a89 => (ops [.p 4, .d, .p 4, .d, .nw] (.opg [] [] (L) (fun z90 G => z90.ok G∧z90.t = T.nrm (d + 1) (y.kid j).t) (fun z90 => (.agg z90.row.toArray, [])) (fun z90 => let y_0 : List Value := z90.row;(.opn 5 (fun a92 => (.opp [3, 5] [] (Nat×Nat) (fun y93 => j + 1 ≤ y93.2∧y93.2 ≤ maxLen) (fun y93 => (.slice (some ⟨y93.1, 0, none⟩) (j + 1) y93.2, [some (y93.1, .row (Lr ++ (y_0 : List Value)) 47 (y93.2 * 5)), some (a92, .row y_0 47 5)])) (fun y93 => (ops [.d, .nw, .d] (.fin [] [])))))))))))) (.fin [] []))) (by kernel_rfl)
    (⟨fun h88 => (have := of_decide_eq_true h88;⟨⟨(hy.arg (j := j) (by omega)).1, by omega, by omega⟩, ⟨(hy.arg (j := j) (by omega)).2, fun a89 => ⟨rfl, ⟨rfl, ⟨(nwI (by omega) (by have h9 := L.wt_n y;have h8 := L.wt_m y;omega)), ⟨(hrec (by omega) (y.kid j) R (hy.kid (by omega)) (by have h9 := L.wt_kid y (j := j) (by omega);omega) (okn_kid ho (by omega))), fun z90 G91 hG91 qz90 => (have hle := RO.le_trans hle hG91;have hy := L.ok_mono hG91 _ hy;have hI := kI_mono hG91 hI;fun a92 => ⟨(app1_ok (e := 47) (e' := 47) (z := 5) (by' := 80) (zc := [vi 0, vu 0, .string ByteArray.empty, .slice none 0 0, .slice none 0 0]) (b := b) (len := j) (cap := cap) (n := 1) (cs := Lr) (new := z90.row) (by kernel_rfl) (.inl (by kernel_rfl)) (by kernel_rfl) rfl (by rw [hI.2.2.2.2.2.1, rowsL_len, hI.2.2.2.2.1]) hI.2.2.1 hI.2.2.2.1 hI.2.1 ⟨rfl, .inr (.inr ⟨_, _, _, rfl, .inl ⟨1, _, _, _, rfl, rfl⟩⟩)⟩ (ones_spec rfl) (by have h9 := L.wt_n y;omega) (by have h9 := L.wt_n y;simp only [maxLen];omega) (by omega)), fun y93 qy93 => ⟨(nwI (by omega) (by have h9 := L.wt_n y;have h8 := L.wt_m y;omega)), LKn (fun zw => ((j + 1), (some y93.1), y93.2, (Lr ++ (z90.row : List Value)), (zs ++ [z90]), zw)) ⟨⟨hle, (show KI y.n (fun i => T.nrm (d + 1) (y.kid i).t) G91 (j + 1) (some y93.1) y93.2 (Lr ++ (z90.row : List Value)) (zs ++ [z90]) from (kI_step hI (by omega) qy93.1 qy93.2 qz90.1 qz90.2))⟩, (show y.n - (j + 1) < y.n - j from (by omega)), ⟨(by show _ = _;kernel_rfl), rfl, rfl⟩⟩⟩⟩)⟩⟩⟩⟩⟩⟩), fun h88 => (have := of_decide_eq_false h88;LKe (altGA (G := R) (fun zw => (j, b, cap, Lr, zs, zw)) ⟨(show j = y.n∧KI y.n (fun i => T.nrm (d + 1) (y.kid i).t) R j b cap Lr zs from ⟨by have h9 := hI.1;omega, hI⟩), (by show _ = _;kernel_rfl), ⟨(by show _ = _;kernel_rfl), (by show _ = _;kernel_rfl), (by show _ = _;kernel_rfl)⟩⟩))⟩)
theorem rnormal_own_L10_ct (y : L) (d : Nat) (a0 : Nat) (a1 : Nat) (a2 : Nat) (x3 : Bool×NV)  (R : RO) (hrec : d ≤ 40 → ∀ (y : L) (S : RO), y.ok S → y.t.wt ≤ 1000000 → y.t.okn → Does Tryd.prog 16 [y.v, vi ((d : Int) + 1)] S [] (fun r G B => ∃ z : L, (z.ok G∧z.t = T.nrm (d + 1) y.t)∧r = .ret z.v∧B = [])) (hy : y.ok R) (hw : y.t.wt ≤ 1000000) (ho : y.t.okn) (hd : d ≤ 40)  : CT Tryd.prog (sub (bodyOf Tryd.f16) [1, 1, 1, 1, 1, 1, 0, 1, 0]) ⟨(.agg y.row.toArray::vi (d : Int)::ptA a0::undef::ptA a1::ptA a2::.slice none 0 0::uns 6 (.agg #[vi 2, vu 0, .string ByteArray.empty, .slice none 0 0, .slice none 0 0]::urun x3.2 14 22 (.bool false::undef::ptA a0::vi y.k::.bool false::undef::undef::undef::ptA a0::vi y.k::.bool false::undef::undef::undef::(ptO a0 (3))::.slice y.aa y.n y.ac::vi (y.n : Int)::vi 0::uns 49 []))), [], [some (a0, .row y.row 47 5), some (a1, .row [vi 0, vu 0, .string ByteArray.empty, .slice none 0 0, .slice none 0 0] 47 5), some (a2, .row [vi 2, vu 0, .string ByteArray.empty, .slice none 0 0, .slice none 0 0] 47 5)]⟩ R (rnormal_own_L10_K y d a0 a1 a2 x3 R) :=
  CT.pad 1 <| CT.loop_eqs (rnormal_own_L10_inv y d a0 a1 a2 x3) (rnormal_own_L10_I y d a0 a1 a2 x3 R) (rnormal_own_L10_mu y d a0 a1 a2 x3) (fun zw => (0, (none : Option Nat), 0, ([] : List Value), ([] : List L), zw)) (by kernel_rfl) (by kernel_rfl) ⟨RO.le_refl R, (show KI y.n (fun i => T.nrm (d + 1) (y.kid i).t) R 0 (none : Option Nat) 0 ([] : List Value) ([] : List L) from ⟨Nat.zero_le _, fun _ => rfl, Nat.le_refl _, by simp [maxLen], rfl, rfl, by simp, rfl⟩)⟩
    (by
      rintro ⟨j, b, cap, Lr, zs, u37⟩ G hG ⟨hle, hI⟩
      have hy := L.ok_mono hle _ hy
      exact rnormal_own_L10_body y d a0 a1 a2 x3 R G hle hrec hy hw ho hd j b cap Lr zs u37 hI)
noncomputable def rnormal_own_L22_inv (y : L) (d : Nat) (a0 : Nat) (a1 : Nat) (a2 : Nat) (x3 : Bool×NV) (x38 : Nat×Option Nat×Nat×List Value×List L×NV) (a45 : Nat) (a46 : Nat) (x47 : L×L×NV)  : Nat×L×NV → St := fun zx => ⟨(.agg y.row.toArray::vi (d : Int)::ptA a0::undef::ptA a1::ptA a2::gsv (some a45) x38.1 x38.2.2.1::undef::(x38.2.2.2.2.2 8)::.slice zx.2.1.pa zx.2.1.m zx.2.1.pc::ptA a46::undef::(zx.2.2 12)::.agg #[vi 2, vu 0, .string ByteArray.empty, .slice none 0 0, .slice none 0 0]::urun x3.2 14 22 (.bool false::undef::ptA a0::vi y.k::.bool false::undef::undef::undef::ptA a0::vi y.k::.bool false::undef::undef::undef::(ptO a0 (3))::.slice y.aa y.n y.ac::vi (y.n : Int)::vi (x38.1 : Int)::urun x38.2.2.2.2.2 54 11 (ptA a0::vi y.k::.bool false::uns 4 (gsv (some a45) x38.1 x38.2.2.1::(ptO a45 (0 + Int.toNat 0 * 5))::.agg #[vi ((zat x38.2.2.2.2.1 0).k), vu ((zat x38.2.2.2.2.1 0).id), .string ((zat x38.2.2.2.2.1 0).s), .slice (zat x38.2.2.2.2.1 0).aa ((zat x38.2.2.2.2.1 0).n) ((zat x38.2.2.2.2.1 0).ac), .slice (zat x38.2.2.2.2.1 0).pa ((zat x38.2.2.2.2.1 0).m) ((zat x38.2.2.2.2.1 0).pc)]::ptA a46::vi ((zat x38.2.2.2.2.1 0).k)::urun x47.2.2 77 7 ((ptO a0 (4))::.slice y.pa y.m y.pc::vi (y.m : Int)::vi ((zx.1 : Nat) : Int)::urun zx.2.2 88 7 (uns 8 [])))))), [], [some (a0, .row y.row 47 5), some (a1, .row [vi 0, vu 0, .string ByteArray.empty, .slice none 0 0, .slice none 0 0] 47 5), some (a2, .row [vi 2, vu 0, .string ByteArray.empty, .slice none 0 0, .slice none 0 0] 47 5), gsb (some a45) x38.2.2.2.1 47 (x38.2.2.1 * 5), some (a46, .row x47.2.1.row 47 5)]⟩
def rnormal_own_L22_I (y : L) (d : Nat) (a0 : Nat) (a1 : Nat) (a2 : Nat) (x3 : Bool×NV) (x38 : Nat×Option Nat×Nat×List Value×List L×NV) (a45 : Nat) (a46 : Nat) (x47 : L×L×NV)  (R : RO) : Nat×L×NV → RO → Prop := fun zx G => R.le G∧(zx.1 ≤ y.m∧zx.2.1.ok G∧zx.2.1.pl = PF y x47.1.pl zx.1)
def rnormal_own_L22_mu (y : L) (d : Nat) (a0 : Nat) (a1 : Nat) (a2 : Nat) (x3 : Bool×NV) (x38 : Nat×Option Nat×Nat×List Value×List L×NV) (a45 : Nat) (a46 : Nat) (x47 : L×L×NV)  : Nat×L×NV → Nat := fun zx => y.m - zx.1
noncomputable def rnormal_own_L22_K (y : L) (d : Nat) (a0 : Nat) (a1 : Nat) (a2 : Nat) (x3 : Bool×NV) (x38 : Nat×Option Nat×Nat×List Value×List L×NV) (a45 : Nat) (a46 : Nat) (x47 : L×L×NV)  (R : RO) : Exit' → St → RO → Prop := altPost R (.altG (Nat×L×NV) (fun zx G => zx.1 = y.m∧zx.2.1.ok G∧zx.2.1.pl = PF y x47.1.pl zx.1) (fun zx => (.exit 2, ((rnormal_own_L22_inv y d a0 a1 a2 x3 x38 a45 a46 x47 zx).up [] [some (a0, .row y.row 47 5), some (a1, .row [vi 0, vu 0, .string ByteArray.empty, .slice none 0 0, .slice none 0 0] 47 5), some (a2, .row [vi 2, vu 0, .string ByteArray.empty, .slice none 0 0, .slice none 0 0] 47 5), gsb (some a45) x38.2.2.2.1 47 (x38.2.2.1 * 5), some (a46, .row x47.2.1.row 47 5)]))) (fun _ => .altn) .altn)
theorem rnormal_own_L22_body (y : L) (d : Nat) (a0 : Nat) (a1 : Nat) (a2 : Nat) (x3 : Bool×NV) (x38 : Nat×Option Nat×Nat×List Value×List L×NV) (a45 : Nat) (a46 : Nat) (x47 : L×L×NV)  (R0 R : RO) (hle : R0.le R) (hy : y.ok R) (hw : y.t.wt ≤ 1000000) (ho : y.t.okn) (hb : x47.1.m ≤ 20000) (j : Nat) (v : L) (u79 : Nat → Value) (hI : j ≤ y.m∧v.ok R∧v.pl = PF y x47.1.pl j) : CT Tryd.prog (sub (bodyOf Tryd.f16) [1, 1, 1, 1, 1, 1, 1, 1, 1, 1, 1, 0, 1, 0, 0]) (rnormal_own_L22_inv y d a0 a1 a2 x3 x38 a45 a46 x47 (j, v, u79)) R (LK (rnormal_own_L22_inv y d a0 a1 a2 x3 x38 a45 a46 x47) (rnormal_own_L22_I y d a0 a1 a2 x3 x38 a45 a46 x47 R0) (rnormal_own_L22_mu y d a0 a1 a2 x3 x38 a45 a46 x47) (rnormal_own_L22_K y d a0 a1 a2 x3 x38 a45 a46 x47 R0) (j, v, u79)) :=
  CT.of_wp_eq (VC := (let z5 := (rnormal_own_L22_inv y d a0 a1 a2 x3 x38 a45 a46 x47 (j, v, u79));let z4 : List Value := [vi 2, vu 0, .string ByteArray.empty, .slice none 0 0, .slice none 0 0];let z3 : List Value := [vi 0, vu 0, .string ByteArray.empty, .slice none 0 0, .slice none 0 0];let z2 : List Value := y.row;let z1 : Array Value := #[vu ((y.pw j).1), vi ((y.pw j).2)];let z0 : List Value := x47.2.1.row;((decide ((j : Int) < (y.m : Int))) = true → (y.pa = some ⟨y.PB, y.PO, none⟩∧(0 : Int) ≤ (j : Int)∧((j : Int) : Int) < (y.m : Int))∧(R.cells y.PB (y.PO + Int.toNat (j : Int) * 2) [vu ((y.pw j).1), vi ((y.pw j).2)])∧∀ a131 : Nat, (a131 = a131)∧(a131 = a131)∧(Does Tryd.prog 30 [.slice v.pa v.m v.pc, .agg z1] R [] (fun r G B => ∃ z132 : L, (z132.ok G∧z132.pl = putL (y.pw j) v.pl)∧r = .ret (.slice z132.pa z132.m z132.pc)∧B = []))∧∀ (z132 : L) (G133 : RO), R.le G133 → (z132.ok G133∧z132.pl = putL (y.pw j) v.pl) → (NW .i64 ((j : Int) + 1))∧LK (rnormal_own_L22_inv y d a0 a1 a2 x3 x38 a45 a46 x47) (rnormal_own_L22_I y d a0 a1 a2 x3 x38 a45 a46 x47 R0) (rnormal_own_L22_mu y d a0 a1 a2 x3 x38 a45 a46 x47) (rnormal_own_L22_K y d a0 a1 a2 x3 x38 a45 a46 x47 R0) (j, v, u79) .normal (z5.up [(9, .slice z132.pa z132.m z132.pc), (12, ptA a131), (87, vi ((j : Int) + 1)), (88, .bool true), (89, (ptO y.PB (y.PO + Int.toNat (j : Int) * 2))), (90, .agg z1), (91, .slice v.pa v.m v.pc), (92, .agg z1), (93, .slice z132.pa z132.m z132.pc), (94, vi ((j : Int) + 1))] [some (a0, .row z2 47 5), some (a1, .row z3 47 5), some (a2, .row z4 47 5), gsb (some a45) x38.2.2.2.1 47 (x38.2.2.1 * 5), some (a46, .row z0 47 5), some (a131, .row [vu ((y.pw j).1), vi ((y.pw j).2)] 65 2)]) G133)∧((decide ((j : Int) < (y.m : Int))) = false → LK (rnormal_own_L22_inv y d a0 a1 a2 x3 x38 a45 a46 x47) (rnormal_own_L22_I y d a0 a1 a2 x3 x38 a45 a46 x47 R0) (rnormal_own_L22_mu y d a0 a1 a2 x3 x38 a45 a46 x47) (rnormal_own_L22_K y d a0 a1 a2 x3 x38 a45 a46 x47 R0) (j, v, u79) (.exit 2) (z5.up [(88, .bool false)] [some (a0, .row z2 47 5), some (a1, .row z3 47 5), some (a2, .row z4 47 5), gsb (some a45) x38.2.2.2.1 47 (x38.2.2.1 * 5), some (a46, .row z0 47 5)]) R))) (ops [.d] (.sp 88 (ops [.ib y.PB y.PO, .ro (fun v => [vu ((y.pw j).1), vi ((y.pw j).2)])] (.opn 5 (fun a131 => (ops [.p 5, .d, .p 5] (.opg [] [] (L) (fun z132 G => z132.ok G∧z132.pl = putL (y.pw j) v.pl) (fun z132 => (.slice z132.pa z132.m z132.pc, [])) (fun z132 => (ops [.d, .nw, .d] (.fin [] [])))))))) (.fin [] []))) (by kernel_rfl)
    (⟨fun h130 => (have := of_decide_eq_true h130;⟨⟨(hy.pow j (by omega)).1, by omega, by omega⟩, ⟨(hy.pow j (by omega)).2, fun a131 => ⟨rfl, ⟨rfl, ⟨(put_ok v (y.pw j) R hI.2.1 (by have h9 := congrArg List.length hI.2.2;have h8 : v.pl.length = v.m := (by simp [L.pl]);have h7 := pF_len y x47.1.pl j;have h6 : x47.1.pl.length = x47.1.m := (by simp [L.pl]);have h5 := L.wt_m y;omega)), fun z132 G133 hG133 qz132 => (have hle := RO.le_trans hle hG133;have hy := L.ok_mono hG133 _ hy;have hI := And.intro hI.1 (And.intro (L.ok_mono hG133 _ hI.2.1) hI.2.2);⟨(nwI (by omega) (by have h9 := L.wt_n y;have h8 := L.wt_m y;omega)), LKn (fun zw => ((j + 1), z132, zw)) ⟨⟨hle, (show (j + 1) ≤ y.m∧z132.ok G133∧z132.pl = PF y x47.1.pl (j + 1) from ⟨by omega, qz132.1, by rw [pF_step, ← hI.2.2];exact qz132.2⟩)⟩, (show y.m - (j + 1) < y.m - j from (by omega)), ⟨(by show _ = _;kernel_rfl), rfl, rfl⟩⟩⟩)⟩⟩⟩⟩⟩), fun h130 => (have := of_decide_eq_false h130;LKe (altGA (G := R) (fun zw => (j, v, zw)) ⟨(show j = y.m∧v.ok R∧v.pl = PF y x47.1.pl j from ⟨by omega, hI.2⟩), (by show _ = _;kernel_rfl), ⟨(by show _ = _;kernel_rfl), (by show _ = _;kernel_rfl), (by show _ = _;kernel_rfl)⟩⟩))⟩)
theorem rnormal_own_L22_ct (y : L) (d : Nat) (a0 : Nat) (a1 : Nat) (a2 : Nat) (x3 : Bool×NV) (x38 : Nat×Option Nat×Nat×List Value×List L×NV) (a45 : Nat) (a46 : Nat) (x47 : L×L×NV)  (R : RO) (hy : y.ok R) (hw : y.t.wt ≤ 1000000) (ho : y.t.okn) (hb : x47.1.m ≤ 20000) (h0 : x47.1.ok R) : CT Tryd.prog (sub (bodyOf Tryd.f16) [1, 1, 1, 1, 1, 1, 1, 1, 1, 1, 1, 0, 1, 0]) ⟨(.agg y.row.toArray::vi (d : Int)::ptA a0::undef::ptA a1::ptA a2::gsv (some a45) x38.1 x38.2.2.1::undef::(x38.2.2.2.2.2 8)::.slice x47.1.pa x47.1.m x47.1.pc::ptA a46::undef::undef::.agg #[vi 2, vu 0, .string ByteArray.empty, .slice none 0 0, .slice none 0 0]::urun x3.2 14 22 (.bool false::undef::ptA a0::vi y.k::.bool false::undef::undef::undef::ptA a0::vi y.k::.bool false::undef::undef::undef::(ptO a0 (3))::.slice y.aa y.n y.ac::vi (y.n : Int)::vi (x38.1 : Int)::urun x38.2.2.2.2.2 54 11 (ptA a0::vi y.k::.bool false::uns 4 (gsv (some a45) x38.1 x38.2.2.1::(ptO a45 (0 + Int.toNat 0 * 5))::.agg #[vi ((zat x38.2.2.2.2.1 0).k), vu ((zat x38.2.2.2.2.1 0).id), .string ((zat x38.2.2.2.2.1 0).s), .slice (zat x38.2.2.2.2.1 0).aa ((zat x38.2.2.2.2.1 0).n) ((zat x38.2.2.2.2.1 0).ac), .slice (zat x38.2.2.2.2.1 0).pa ((zat x38.2.2.2.2.1 0).m) ((zat x38.2.2.2.2.1 0).pc)]::ptA a46::vi ((zat x38.2.2.2.2.1 0).k)::urun x47.2.2 77 7 ((ptO a0 (4))::.slice y.pa y.m y.pc::vi (y.m : Int)::vi 0::uns 15 []))))), [], [some (a0, .row y.row 47 5), some (a1, .row [vi 0, vu 0, .string ByteArray.empty, .slice none 0 0, .slice none 0 0] 47 5), some (a2, .row [vi 2, vu 0, .string ByteArray.empty, .slice none 0 0, .slice none 0 0] 47 5), gsb (some a45) x38.2.2.2.1 47 (x38.2.2.1 * 5), some (a46, .row x47.2.1.row 47 5)]⟩ R (rnormal_own_L22_K y d a0 a1 a2 x3 x38 a45 a46 x47 R) :=
  CT.loop_eqs (rnormal_own_L22_inv y d a0 a1 a2 x3 x38 a45 a46 x47) (rnormal_own_L22_I y d a0 a1 a2 x3 x38 a45 a46 x47 R) (rnormal_own_L22_mu y d a0 a1 a2 x3 x38 a45 a46 x47) (fun zw => (0, x47.1, zw)) (by kernel_rfl) (by kernel_rfl) ⟨RO.le_refl R, (show 0 ≤ y.m∧x47.1.ok R∧x47.1.pl = PF y x47.1.pl 0 from ⟨Nat.zero_le _, h0, rfl⟩)⟩
    (by
      rintro ⟨j, v, u79⟩ G hG ⟨hle, hI⟩
      have hy := L.ok_mono hle _ hy
      exact rnormal_own_L22_body y d a0 a1 a2 x3 x38 a45 a46 x47 R G hle hy hw ho hb j v u79 hI)
theorem rnormal_own (y : L) (d : Nat) (R : RO) (hrec : d ≤ 40 → ∀ (y : L) (S : RO), y.ok S → y.t.wt ≤ 1000000 → y.t.okn → Does Tryd.prog 16 [y.v, vi ((d : Int) + 1)] S [] (fun r G B => ∃ z : L, (z.ok G∧z.t = T.nrm (d + 1) y.t)∧r = .ret z.v∧B = [])) (hy : y.ok R) (hw : y.t.wt ≤ 1000000) (ho : y.t.okn) (hd : d ≤ 41) : Does Tryd.prog 16 [.agg y.row.toArray, vi (d : Int)] R [] (fun (r : Out) (G : RO) (B : Hp) => ∃ x : RN, (x.ok G∧x.t = T.nrm d y.t)∧r = .ret (x.v)∧B = [gsb x.b x.rows 47 (x.cap * 5)]) :=
  Does.of_wp_eq (VC := (let z8 := (T.nrm (d + 1) (y.kid 0).t);let z7 : List Value := [vi 2, vu 0, .string ByteArray.empty, .slice none 0 0, .slice none 0 0];let z6 : List Value := [vi 0, vu 0, .string ByteArray.empty, .slice none 0 0, .slice none 0 0];let z5 : List Value := y.row;let z3 : Array Value := y.row.toArray;let z1 : Array Value := #[vi 2, vu 0, .string ByteArray.empty, .slice none 0 0, .slice none 0 0];∀ a0 : Nat, ∀ a1 : Nat, ∀ a2 : Nat, let z2 : Hp := [some (a0, .row z5 47 5), some (a1, .row z6 47 5), some (a2, .row z7 47 5)];(a2 = a2)∧(CT Tryd.prog (sub (bodyOf Tryd.f16) [1, 1, 0, 0]) ⟨(.agg z3::vi (d : Int)::ptA a0::undef::ptA a1::ptA a2::uns 7 (.agg z1::uns 89 [])), [], z2⟩ R (altPost R (.alt (Bool×NV) (fun zx => zx.1 = decide (40 < d ∨ y.k < 1 ∨ 4 < y.k ∨ (y.k = 4∧y.n ≠ 1))) (fun zx => (.normal, ⟨(.agg z3::vi (d : Int)::ptA a0::undef::ptA a1::ptA a2::uns 7 (.agg z1::urun zx.2 14 22 (.bool zx.1::uns 66 []))), [], z2⟩)) (fun _ => .altn) .altn)))∧(∀ x3 : Bool×NV, (x3.1 = decide (40 < d ∨ y.k < 1 ∨ 4 < y.k ∨ (y.k = 4∧y.n ≠ 1))) → ((x3.1) = true → (a2 = a2)∧(a1 = a1)∧(a1 = a1)∧(fun (r : Out) (G : RO) (B : Hp) => ∃ x : RN, (x.ok G∧x.t = T.nrm d y.t)∧r = .ret (x.v)∧B = [gsb x.b x.rows 47 (x.cap * 5)]) (.ret (.agg z1)) R [none])∧((x3.1) = false → (a0 = a0)∧((y.k == 1) = true → (a0 = a0)∧(a1 = a1)∧(a1 = a1)∧(fun (r : Out) (G : RO) (B : Hp) => ∃ x : RN, (x.ok G∧x.t = T.nrm d y.t)∧r = .ret (x.v)∧B = [gsb x.b x.rows 47 (x.cap * 5)]) (.ret (.agg #[vi 1, vu y.id, .string ByteArray.empty, .slice none 0 0, .slice none 0 0])) R [none])∧((y.k == 1) = false → (a0 = a0)∧((y.k == 2) = true → (a0 = a0)∧(a1 = a1)∧(a1 = a1)∧(fun (r : Out) (G : RO) (B : Hp) => ∃ x : RN, (x.ok G∧x.t = T.nrm d y.t)∧r = .ret (x.v)∧B = [gsb x.b x.rows 47 (x.cap * 5)]) (.ret (.agg #[vi 2, vu 0, .string y.s, .slice none 0 0, .slice none 0 0])) R [none])∧((y.k == 2) = false → (a0 = a0)∧(CT Tryd.prog (sub (bodyOf Tryd.f16) [1, 1, 1, 1, 1, 1, 0, 1, 0]) ⟨(.agg z3::vi (d : Int)::ptA a0::undef::ptA a1::ptA a2::.slice none 0 0::uns 6 (.agg z1::urun x3.2 14 22 (.bool false::undef::ptA a0::vi y.k::.bool false::undef::undef::undef::ptA a0::vi y.k::.bool false::undef::undef::undef::(ptO a0 (3))::.slice y.aa y.n y.ac::vi (y.n : Int)::vi 0::uns 49 []))), [], z2⟩ R (rnormal_own_L10_K y d a0 a1 a2 x3 R))∧(∀ (x38 : Nat×Option Nat×Nat×List Value×List L×NV) (G39 : RO), let z10 := ((zat x38.2.2.2.2.1 0).k);let z4 : List Value := (.bool false::undef::ptA a0::vi y.k::.bool false::undef::undef::undef::ptA a0::vi y.k::.bool false::undef::undef::undef::(ptO a0 (3))::.slice y.aa y.n y.ac::vi (y.n : Int)::vi (x38.1 : Int)::urun x38.2.2.2.2.2 54 11 (ptA a0::vi y.k::.bool false::uns 35 []));let z0 : Array Value := #[vi z10, vu ((zat x38.2.2.2.2.1 0).id), .string ((zat x38.2.2.2.2.1 0).s), .slice (zat x38.2.2.2.2.1 0).aa ((zat x38.2.2.2.2.1 0).n) ((zat x38.2.2.2.2.1 0).ac), .slice (zat x38.2.2.2.2.1 0).pa ((zat x38.2.2.2.2.1 0).m) ((zat x38.2.2.2.2.1 0).pc)];R.le G39 → (x38.1 = y.n∧KI y.n (fun i => T.nrm (d + 1) (y.kid i).t) G39 x38.1 x38.2.1 x38.2.2.1 x38.2.2.2.1 x38.2.2.2.2.1) → (a0 = a0)∧((y.k == 3) = true → (a0 = a0)∧(a1 = a1)∧(a1 = a1)∧(fun (r : Out) (G : RO) (B : Hp) => ∃ x : RN, (x.ok G∧x.t = T.nrm d y.t)∧r = .ret (x.v)∧B = [gsb x.b x.rows 47 (x.cap * 5)]) (.ret (.agg #[vi 3, vu 0, .string y.s, gsv x38.2.1 x38.1 x38.2.2.1, .slice none 0 0])) G39 [gsb x38.2.1 x38.2.2.2.1 47 (x38.2.2.1 * 5)])∧((y.k == 3) = false → (∃ a45 : Nat, x38.2.1 = some a45)∧∀ a45 : Nat, x38.2.1 = some a45 → ((⟨(.agg z3::vi (d : Int)::ptA a0::undef::ptA a1::ptA a2::gsv x38.2.1 x38.1 x38.2.2.1::undef::(x38.2.2.2.2.2 8)::.slice none 0 0::undef::undef::undef::.agg z1::urun x3.2 14 22 z4), [], [some (a0, .row z5 47 5), some (a1, .row z6 47 5), some (a2, .row z7 47 5), gsb x38.2.1 x38.2.2.2.1 47 (x38.2.2.1 * 5)]⟩ : St) = ⟨(.agg z3::vi (d : Int)::ptA a0::undef::ptA a1::ptA a2::gsv (some a45) x38.1 x38.2.2.1::undef::(x38.2.2.2.2.2 8)::.slice none 0 0::undef::undef::undef::.agg z1::urun x3.2 14 22 z4), [], [some (a0, .row z5 47 5), some (a1, .row z6 47 5), some (a2, .row z7 47 5), gsb (some a45) x38.2.2.2.1 47 (x38.2.2.1 * 5)]⟩∧(IB 0 (x38.1 : Nat))∧(a45 = a45∧readVar Tryd.prog 47 x38.2.2.2.1 (0 + Int.toNat 0 * 5) = some (.agg z0))∧∀ a46 : Nat, (a46 = a46)∧(a46 = a46)∧(CT Tryd.prog (sub (bodyOf Tryd.f16) [1, 1, 1, 1, 1, 1, 1, 1, 1, 1, 0, 1]) ⟨(.agg z3::vi (d : Int)::ptA a0::undef::ptA a1::ptA a2::gsv (some a45) x38.1 x38.2.2.1::undef::(x38.2.2.2.2.2 8)::.slice none 0 0::ptA a46::undef::undef::.agg z1::urun x3.2 14 22 (.bool false::undef::ptA a0::vi y.k::.bool false::undef::undef::undef::ptA a0::vi y.k::.bool false::undef::undef::undef::(ptO a0 (3))::.slice y.aa y.n y.ac::vi (y.n : Int)::vi (x38.1 : Int)::urun x38.2.2.2.2.2 54 11 (ptA a0::vi y.k::.bool false::uns 4 (gsv (some a45) x38.1 x38.2.2.1::(ptO a45 (0 + Int.toNat 0 * 5))::.agg z0::ptA a46::vi z10::.bool (z10 == 4)::uns 25 [])))), [], [some (a0, .row z5 47 5), some (a1, .row z6 47 5), some (a2, .row z7 47 5), gsb (some a45) x38.2.2.2.1 47 (x38.2.2.1 * 5), some (a46, .row [vi z10, vu ((zat x38.2.2.2.2.1 0).id), .string ((zat x38.2.2.2.2.1 0).s), .slice (zat x38.2.2.2.2.1 0).aa ((zat x38.2.2.2.2.1 0).n) ((zat x38.2.2.2.2.1 0).ac), .slice (zat x38.2.2.2.2.1 0).pa ((zat x38.2.2.2.2.1 0).m) ((zat x38.2.2.2.2.1 0).pc)] 47 5)]⟩ G39 (altPost G39 (.altG (L×L×NV) (fun zx G => zx.1.ok G∧zx.2.1.ok G∧zx.1.pl = (if z8.k = 4 then z8.ps else [])∧zx.2.1.t = (if z8.k = 4 then z8.xs.headD (T.word .empty) else z8)) (fun zx => (.normal, ⟨(.agg z3::vi (d : Int)::ptA a0::undef::ptA a1::ptA a2::gsv (some a45) x38.1 x38.2.2.1::undef::(x38.2.2.2.2.2 8)::.slice zx.1.pa zx.1.m zx.1.pc::ptA a46::undef::undef::.agg z1::urun x3.2 14 22 (.bool false::undef::ptA a0::vi y.k::.bool false::undef::undef::undef::ptA a0::vi y.k::.bool false::undef::undef::undef::(ptO a0 (3))::.slice y.aa y.n y.ac::vi (y.n : Int)::vi (x38.1 : Int)::urun x38.2.2.2.2.2 54 11 (ptA a0::vi y.k::.bool false::uns 4 (gsv (some a45) x38.1 x38.2.2.1::(ptO a45 (0 + Int.toNat 0 * 5))::.agg z0::ptA a46::vi z10::urun zx.2.2 77 7 (uns 19 []))))), [], [some (a0, .row z5 47 5), some (a1, .row z6 47 5), some (a2, .row z7 47 5), gsb (some a45) x38.2.2.2.1 47 (x38.2.2.1 * 5), some (a46, .row zx.2.1.row 47 5)]⟩)) (fun _ => .altn) .altn)))∧(∀ (x47 : L×L×NV) (G48 : RO), let z9 : List Value := x47.2.1.row;G39.le G48 → (x47.1.ok G48∧x47.2.1.ok G48∧x47.1.pl = (if z8.k = 4 then z8.ps else [])∧x47.2.1.t = (if z8.k = 4 then z8.xs.headD (T.word .empty) else z8)) → (a0 = a0)∧(CT Tryd.prog (sub (bodyOf Tryd.f16) [1, 1, 1, 1, 1, 1, 1, 1, 1, 1, 1, 0, 1, 0]) ⟨(.agg z3::vi (d : Int)::ptA a0::undef::ptA a1::ptA a2::gsv (some a45) x38.1 x38.2.2.1::undef::(x38.2.2.2.2.2 8)::.slice x47.1.pa x47.1.m x47.1.pc::ptA a46::undef::undef::.agg z1::urun x3.2 14 22 (.bool false::undef::ptA a0::vi y.k::.bool false::undef::undef::undef::ptA a0::vi y.k::.bool false::undef::undef::undef::(ptO a0 (3))::.slice y.aa y.n y.ac::vi (y.n : Int)::vi (x38.1 : Int)::urun x38.2.2.2.2.2 54 11 (ptA a0::vi y.k::.bool false::uns 4 (gsv (some a45) x38.1 x38.2.2.1::(ptO a45 (0 + Int.toNat 0 * 5))::.agg z0::ptA a46::vi z10::urun x47.2.2 77 7 ((ptO a0 (4))::.slice y.pa y.m y.pc::vi (y.m : Int)::vi 0::uns 15 []))))), [], [some (a0, .row z5 47 5), some (a1, .row z6 47 5), some (a2, .row z7 47 5), gsb (some a45) x38.2.2.2.1 47 (x38.2.2.1 * 5), some (a46, .row z9 47 5)]⟩ G48 (rnormal_own_L22_K y d a0 a1 a2 x3 x38 a45 a46 x47 G48))∧(∀ (x80 : Nat×L×NV) (G81 : RO), G48.le G81 → (x80.1 = y.m∧x80.2.1.ok G81∧x80.2.1.pl = PF y x47.1.pl x80.1) → (((x80.2.1.m : Int) == 0) = true → (a46 = a46)∧(a1 = a1)∧(a1 = a1)∧(fun (r : Out) (G : RO) (B : Hp) => ∃ x : RN, (x.ok G∧x.t = T.nrm d y.t)∧r = .ret (x.v)∧B = [gsb x.b x.rows 47 (x.cap * 5)]) (.ret (.agg x47.2.1.row.toArray)) G81 [none])∧(((x80.2.1.m : Int) == 0) = false → (a46 = a46)∧∀ a87 : Nat, (a1 = a1)∧(a1 = a1)∧(fun (r : Out) (G : RO) (B : Hp) => ∃ x : RN, (x.ok G∧x.t = T.nrm d y.t)∧r = .ret (x.v)∧B = [gsb x.b x.rows 47 (x.cap * 5)]) (.ret (.agg #[vi 4, vu 0, .string ByteArray.empty, slA a87 1 1, .slice x80.2.1.pa x80.2.1.m x80.2.1.pc])) G81 [some (a87, .row z9 47 5)]))∧True)∧True)))∧True))))∧True)) (let y_6 := (T.nrm (d + 1) (y.kid 0).t);let y_5 : Array Value := #[vi 2, vu 0, .string ByteArray.empty, .slice none 0 0, .slice none 0 0];let y_4 : Array Value := y.row.toArray;let y_2 : List Value := [vi 2, vu 0, .string ByteArray.empty, .slice none 0 0, .slice none 0 0];let y_1 : List Value := [vi 0, vu 0, .string ByteArray.empty, .slice none 0 0, .slice none 0 0];let y_0 : List Value := y.row;.opn 0 (fun a0 => (.opn 1 (fun a1 => (ops [.d] (.opn 2 (fun a2 => (ops [.p 2] (.alt (Bool×NV) (fun zx => zx.1 = decide (40 < d ∨ y.k < 1 ∨ 4 < y.k ∨ (y.k = 4∧y.n ≠ 1))) (fun zx => (.normal, ⟨(.agg y_4::vi (d : Int)::ptA a0::undef::ptA a1::ptA a2::uns 7 (.agg y_5::urun zx.2 14 22 (.bool zx.1::uns 66 []))), [], [some (a0, .row y_0 47 5), some (a1, .row y_1 47 5), some (a2, .row y_2 47 5)]⟩)) (fun x3 => (.sp 36 (ops [.p 2, .p 1] (.fin [3] [(1, none)])) (ops [.d, .p 0, .d] (.sp 40 (ops [.d, .p 0, .d, .p 1] (.fin [3] [(1, none)])) (ops [.d, .p 0, .d] (.sp 46 (ops [.d, .p 0, .d, .p 1] (.fin [3] [(1, none)])) (ops [.d, .d, .p 0, .d, .d] (.altG (Nat×Option Nat×Nat×List Value×List L×NV) (fun zx G => zx.1 = y.n∧KI y.n (fun i => T.nrm (d + 1) (y.kid i).t) G zx.1 zx.2.1 zx.2.2.1 zx.2.2.2.1 zx.2.2.2.2.1) (fun zx => (.exit 0, ((rnormal_own_L10_inv y d a0 a1 a2 x3 zx).up [] [some (a0, .row y_0 47 5), some (a1, .row y_1 47 5), some (a2, .row y_2 47 5), gsb zx.2.1 zx.2.2.2.1 47 (zx.2.2.1 * 5)]))) (fun x38 => let y_3 : Array Value := #[vi ((zat x38.2.2.2.2.1 0).k), vu ((zat x38.2.2.2.2.1 0).id), .string ((zat x38.2.2.2.2.1 0).s), .slice (zat x38.2.2.2.2.1 0).aa ((zat x38.2.2.2.2.1 0).n) ((zat x38.2.2.2.2.1 0).ac), .slice (zat x38.2.2.2.2.1 0).pa ((zat x38.2.2.2.2.1 0).m) ((zat x38.2.2.2.2.1 0).pc)];(ops [.d, .p 0, .d] (.sp 67 (ops [.d, .p 0, .d, .d, .p 1] (.fin [3] [(1, none)])) (ops [.d] (.ex Nat (fun a45 => x38.2.1 = some a45) (fun a45 => .rw (⟨(.agg y_4::vi (d : Int)::ptA a0::undef::ptA a1::ptA a2::gsv (some a45) x38.1 x38.2.2.1::undef::(x38.2.2.2.2.2 8)::.slice none 0 0::undef::undef::undef::.agg y_5::urun x3.2 14 22 (.bool false::undef::ptA a0::vi y.k::.bool false::undef::undef::undef::ptA a0::vi y.k::.bool false::undef::undef::undef::(ptO a0 (3))::.slice y.aa y.n y.ac::vi (y.n : Int)::vi ((x38.1 : Nat) : Int)::urun x38.2.2.2.2.2 54 11 (ptA a0::vi y.k::.bool false::uns 35 []))), [], [some (a0, .row y_0 47 5), some (a1, .row y_1 47 5), some (a2, .row y_2 47 5), gsb (some a45) x38.2.2.2.1 47 (x38.2.2.1 * 5)]⟩) (ops [.d, .ia, .q 3 (fun e v => .agg y_3)] (.opn 4 (fun a46 => (ops [.p 4, .d, .p 4, .d] (.altG (L×L×NV) (fun zx G => zx.1.ok G∧zx.2.1.ok G∧zx.1.pl = (if y_6.k = 4 then y_6.ps else [])∧zx.2.1.t = (if y_6.k = 4 then y_6.xs.headD (T.word .empty) else y_6)) (fun zx => (.normal, ⟨(.agg y_4::vi (d : Int)::ptA a0::undef::ptA a1::ptA a2::gsv (some a45) x38.1 x38.2.2.1::undef::(x38.2.2.2.2.2 8)::.slice zx.1.pa zx.1.m zx.1.pc::ptA a46::undef::undef::.agg y_5::urun x3.2 14 22 (.bool false::undef::ptA a0::vi y.k::.bool false::undef::undef::undef::ptA a0::vi y.k::.bool false::undef::undef::undef::(ptO a0 (3))::.slice y.aa y.n y.ac::vi (y.n : Int)::vi ((x38.1 : Nat) : Int)::urun x38.2.2.2.2.2 54 11 (ptA a0::vi y.k::.bool false::uns 4 (gsv (some a45) x38.1 x38.2.2.1::(ptO a45 (0 + Int.toNat 0 * 5))::.agg y_3::ptA a46::vi ((zat x38.2.2.2.2.1 0).k)::urun zx.2.2 77 7 (uns 19 []))))), [], [some (a0, .row y_0 47 5), some (a1, .row y_1 47 5), some (a2, .row y_2 47 5), gsb (some a45) x38.2.2.2.1 47 (x38.2.2.1 * 5), some (a46, .row zx.2.1.row 47 5)]⟩)) (fun x47 => (ops [.d, .p 0, .d, .d] (.altG (Nat×L×NV) (fun zx G => zx.1 = y.m∧zx.2.1.ok G∧zx.2.1.pl = PF y x47.1.pl zx.1) (fun zx => (.exit 2, ((rnormal_own_L22_inv y d a0 a1 a2 x3 x38 a45 a46 x47 zx).up [] [some (a0, .row y_0 47 5), some (a1, .row y_1 47 5), some (a2, .row y_2 47 5), gsb (some a45) x38.2.2.2.1 47 (x38.2.2.1 * 5), some (a46, .row x47.2.1.row 47 5)]))) (fun x80 => (ops [.d, .d, .d] (.sp 97 (ops [.p 4, .p 1] (.fin [5] [(1, none)])) (ops [.p 4] (.opn 5 (fun a87 => (ops [.d, .d, .p 1] (.fin [5] [(1, none)])))))))) .altn))) .altn))))))))))) .altn)))))))) .altn))))))))) Tryd.func16 (by kernel_rfl) (by kernel_rfl)
    (fun a0 => fun a1 => fun a2 => ⟨rfl, ⟨CT.of_wp_eq (VC := (let z4 := (decide ((d : Int) > 40));let z3 : Array Value := #[vi 2, vu 0, .string ByteArray.empty, .slice none 0 0, .slice none 0 0];let z2 : Array Value := y.row.toArray;let z1 : Hp := [some (a0, .row y.row 47 5), some (a1, .row [vi 0, vu 0, .string ByteArray.empty, .slice none 0 0, .slice none 0 0] 47 5), some (a2, .row [vi 2, vu 0, .string ByteArray.empty, .slice none 0 0, .slice none 0 0] 47 5)];let z0 : Sc := (.alt (Bool×NV) (fun zx => zx.1 = decide (40 < d ∨ y.k < 1 ∨ 4 < y.k ∨ (y.k = 4∧y.n ≠ 1))) (fun zx => (.normal, ⟨(.agg z2::vi (d : Int)::ptA a0::undef::ptA a1::ptA a2::uns 7 (.agg z3::urun zx.2 14 22 (.bool zx.1::uns 66 []))), [], z1⟩)) (fun _ => .altn) .altn);(z4 = true → altPost R z0 .normal ⟨(.agg z2::vi (d : Int)::ptA a0::undef::ptA a1::ptA a2::uns 7 (.agg z3::vi (d : Int)::.bool z4::.bool true::undef::undef::undef::.bool true::.bool true::undef::undef::undef::.bool true::.bool true::uns 9 (.bool true::uns 66 []))), [], z1⟩ R)∧(z4 = false → (a0 = a0)∧((decide (y.k < 1)) = true → altPost R z0 .normal ⟨(.agg z2::vi (d : Int)::ptA a0::undef::ptA a1::ptA a2::uns 7 (.agg z3::vi (d : Int)::.bool z4::.bool false::ptA a0::vi y.k::.bool (decide (y.k < 1))::.bool (decide (y.k < 1))::.bool true::undef::undef::undef::.bool true::.bool true::uns 9 (.bool true::uns 66 []))), [], z1⟩ R)∧((decide (y.k < 1)) = false → (a0 = a0)∧((decide (y.k > 4)) = true → altPost R z0 .normal ⟨(.agg z2::vi (d : Int)::ptA a0::undef::ptA a1::ptA a2::uns 7 (.agg z3::vi (d : Int)::.bool z4::.bool false::ptA a0::vi y.k::.bool (decide (y.k < 1))::.bool (decide (y.k < 1))::.bool false::ptA a0::vi y.k::.bool (decide (y.k > 4))::.bool (decide (y.k > 4))::.bool true::uns 9 (.bool true::uns 66 []))), [], z1⟩ R)∧((decide (y.k > 4)) = false → (a0 = a0)∧((y.k == 4) = true → (a0 = a0)∧altPost R z0 .normal ⟨(.agg z2::vi (d : Int)::ptA a0::undef::ptA a1::ptA a2::uns 7 (.agg z3::vi (d : Int)::.bool z4::.bool false::ptA a0::vi y.k::.bool (decide (y.k < 1))::.bool (decide (y.k < 1))::.bool false::ptA a0::vi y.k::.bool (decide (y.k > 4))::.bool (decide (y.k > 4))::.bool false::ptA a0::vi y.k::.bool (y.k == 4)::.bool true::(ptO a0 (3))::.slice y.aa y.n y.ac::vi (y.n : Int)::.bool ((y.n : Int) != 1)::.bool ((y.n : Int) != 1)::.bool ((y.n : Int) != 1)::uns 66 [])), [], z1⟩ R)∧((y.k == 4) = false → altPost R z0 .normal ⟨(.agg z2::vi (d : Int)::ptA a0::undef::ptA a1::ptA a2::uns 7 (.agg z3::vi (d : Int)::.bool z4::.bool false::ptA a0::vi y.k::.bool (decide (y.k < 1))::.bool (decide (y.k < 1))::.bool false::ptA a0::vi y.k::.bool (decide (y.k > 4))::.bool (decide (y.k > 4))::.bool false::ptA a0::vi y.k::.bool (y.k == 4)::.bool false::uns 4 (.bool false::.bool false::uns 66 []))), [], z1⟩ R)))))) (ops [.d, .d, .d] (.sp 16 (ops [.d, .d, .d, .d, .d] (.fin [] [])) (ops [.d, .p 0, .d, .d, .d] (.sp 21 (ops [.d, .d, .d] (.fin [] [])) (ops [.d, .p 0, .d, .d, .d] (.sp 26 (ops [.d] (.fin [] [])) (ops [.d, .p 0, .d, .d] (.sp 30 (ops [.d, .p 0, .d, .d, .d, .d] (.fin [] [])) (ops [.d, .d] (.fin [] [])))))))))) (by kernel_rfl) (⟨fun h3 => (have := of_decide_eq_true h3;altA (fun zw => (true, zw)) ⟨(show true = decide (40 < d ∨ y.k < 1 ∨ 4 < y.k ∨ (y.k = 4∧y.n ≠ 1)) from (decide_eq_true (by omega)).symm), rfl, ⟨rfl, rfl, rfl⟩⟩), fun h3 => (have := of_decide_eq_false h3;⟨rfl, ⟨fun h4 => (have := of_decide_eq_true h4;altA (fun zw => (true, zw)) ⟨(show true = decide (40 < d ∨ y.k < 1 ∨ 4 < y.k ∨ (y.k = 4∧y.n ≠ 1)) from (decide_eq_true (by omega)).symm), rfl, ⟨rfl, rfl, rfl⟩⟩), fun h4 => (have := of_decide_eq_false h4;⟨rfl, ⟨fun h5 => (have := of_decide_eq_true h5;altA (fun zw => (true, zw)) ⟨(show true = decide (40 < d ∨ y.k < 1 ∨ 4 < y.k ∨ (y.k = 4∧y.n ≠ 1)) from (decide_eq_true (by omega)).symm), rfl, ⟨rfl, rfl, rfl⟩⟩), fun h5 => (have := of_decide_eq_false h5;⟨rfl, ⟨fun h6 => (have := eq_of_beq h6;⟨rfl, altA (fun zw => (((y.n : Int) != 1), zw)) ⟨(show ((y.n : Int) != 1) = decide (40 < d ∨ y.k < 1 ∨ 4 < y.k ∨ (y.k = 4∧y.n ≠ 1)) from (by rw [Bool.eq_iff_iff, bne_iff_ne, decide_eq_true_iff];omega)), rfl, ⟨rfl, rfl, rfl⟩⟩⟩), fun h6 => (have := ne_of_beq_false h6;altA (fun zw => (false, zw)) ⟨(show false = decide (40 < d ∨ y.k < 1 ∨ 4 < y.k ∨ (y.k = 4∧y.n ≠ 1)) from (decide_eq_false (by omega)).symm), rfl, ⟨rfl, rfl, rfl⟩⟩)⟩⟩)⟩⟩)⟩⟩)⟩), ⟨fun x3 qx3 => ⟨fun h34 => ⟨rfl, ⟨rfl, ⟨rfl, ⟨(RN.done (L.word .empty)), ⟨L.word_ok _ _, (rn_early (of_decide_eq_true (qx3.symm.trans h34))).symm⟩, (by rfl), (by rfl)⟩⟩⟩⟩, fun h34 => (have hk := of_decide_eq_false (qx3.symm.trans h34);⟨rfl, ⟨fun h35 => (have := eq_of_beq h35;⟨rfl, ⟨rfl, ⟨rfl, ⟨(RN.done (L.atom y.id)), ⟨L.atom_ok _ _, (nrm_atom (by omega) (by omega)).symm⟩, (by rfl), (by rfl)⟩⟩⟩⟩), fun h35 => (have := ne_of_beq_false h35;⟨rfl, ⟨fun h36 => (have := eq_of_beq h36;⟨rfl, ⟨rfl, ⟨rfl, ⟨(RN.done (L.word y.s)), ⟨L.word_ok _ _, (nrm_word (by omega) (by omega)).symm⟩, (by rfl), (by rfl)⟩⟩⟩⟩), fun h36 => (have := ne_of_beq_false h36;⟨rfl, ⟨rnormal_own_L10_ct y d a0 a1 a2 x3 R hrec hy hw ho (by omega), ⟨fun x38 G39 hG39 qx38 => (have hy := L.ok_mono hG39 _ hy;⟨rfl, ⟨fun h44 => (have := eq_of_beq h44;⟨rfl, ⟨rfl, ⟨rfl, ⟨(RN.hash x38.2.1 x38.2.2.1 y.s x38.2.2.2.2.1), ⟨⟨qx38.2.2.2.2.2.2.2.1, (by rw [qx38.2.2.2.2.2.1];exact qx38.2.2.2.1), qx38.2.2.2.2.1, qx38.2.2.1⟩, (by rw [nrm_hash (zs := x38.2.2.2.2.1) (by omega) (by omega) (by rw [qx38.2.2.2.2.2.2.2.2, qx38.1])];rfl)⟩, (by exact congrArg (fun z => Out.ret (.agg #[vi 3, vu 0, .string y.s, gsv _ z _, .slice none 0 0])) (qx38.2.2.2.2.2.1).symm), (by exact congrArg (fun z => [gsb _ z 47 _]) (qx38.2.2.2.2.2.2.1))⟩⟩⟩⟩), fun h44 => (have := ne_of_beq_false h44;⟨(by cases h9 : x38.2.1 with | none => exact absurd (qx38.2.2.1 h9) (by have h8 := qx38.2.2.2.1;have h7 := qx38.1;omega) | some a => exact ⟨a, rfl⟩), fun a45 hxa45 => ⟨(by rw [hxa45]), ⟨⟨by omega, by omega⟩, ⟨⟨rfl, (rd_L47 qx38.2.2.2.2.2.2.1 (by have h9 := qx38.2.2.2.2.2.1;omega))⟩, fun a46 => ⟨rfl, ⟨rfl, ⟨CT.of_wp_eq (VC := (let z12 := ((zat x38.2.2.2.2.1 0).m);let z11 := ((zat x38.2.2.2.2.1 0).pc);let z10 := (T.nrm (d + 1) (y.kid 0).t);let z8 := ((zat x38.2.2.2.2.1 0).k);let z7 : List Value := [vi 2, vu 0, .string ByteArray.empty, .slice none 0 0, .slice none 0 0];let z6 : List Value := [vi 0, vu 0, .string ByteArray.empty, .slice none 0 0, .slice none 0 0];let z5 : Array Value := #[vi 2, vu 0, .string ByteArray.empty, .slice none 0 0, .slice none 0 0];let z4 : List Value := y.row;let z3 : Array Value := y.row.toArray;let z2 : Array Value := #[vi z8, vu ((zat x38.2.2.2.2.1 0).id), .string ((zat x38.2.2.2.2.1 0).s), .slice (zat x38.2.2.2.2.1 0).aa ((zat x38.2.2.2.2.1 0).n) ((zat x38.2.2.2.2.1 0).ac), .slice (zat x38.2.2.2.2.1 0).pa z12 z11];let z1 := ((zat x38.2.2.2.2.1 0).kid 0);let z9 : List Value := [vi (z1.k), vu (z1.id), .string (z1.s), .slice z1.aa (z1.n) (z1.ac), .slice z1.pa (z1.m) (z1.pc)];let z0 : Sc := (.altG (L×L×NV) (fun zx G => zx.1.ok G∧zx.2.1.ok G∧zx.1.pl = (if z10.k = 4 then z10.ps else [])∧zx.2.1.t = (if z10.k = 4 then z10.xs.headD (T.word .empty) else z10)) (fun zx => (.normal, ⟨(.agg z3::vi (d : Int)::ptA a0::undef::ptA a1::ptA a2::gsv (some a45) x38.1 x38.2.2.1::undef::(x38.2.2.2.2.2 8)::.slice zx.1.pa zx.1.m zx.1.pc::ptA a46::undef::undef::.agg z5::urun x3.2 14 22 (.bool false::undef::ptA a0::vi y.k::.bool false::undef::undef::undef::ptA a0::vi y.k::.bool false::undef::undef::undef::(ptO a0 (3))::.slice y.aa y.n y.ac::vi (y.n : Int)::vi ((x38.1 : Nat) : Int)::urun x38.2.2.2.2.2 54 11 (ptA a0::vi y.k::.bool false::uns 4 (gsv (some a45) x38.1 x38.2.2.1::(ptO a45 (0 + Int.toNat 0 * 5))::.agg z2::ptA a46::vi z8::urun zx.2.2 77 7 (uns 19 []))))), [], [some (a0, .row z4 47 5), some (a1, .row z6 47 5), some (a2, .row z7 47 5), gsb (some a45) x38.2.2.2.1 47 (x38.2.2.1 * 5), some (a46, .row zx.2.1.row 47 5)]⟩)) (fun _ => .altn) .altn);((z8 == 4) = true → (a46 = a46)∧(a46 = a46)∧((zat x38.2.2.2.2.1 0).aa = some ⟨(zat x38.2.2.2.2.1 0).AB, (zat x38.2.2.2.2.1 0).AO, none⟩∧(0 : Int) ≤ 0∧(0 : Int) < (((zat x38.2.2.2.2.1 0).n : Nat) : Int))∧(G39.cells (zat x38.2.2.2.2.1 0).AB ((zat x38.2.2.2.2.1 0).AO + Int.toNat 0 * 5) z9)∧(a46 = a46)∧altPost G39 z0 .normal ⟨(.agg z3::vi (d : Int)::ptA a0::undef::ptA a1::ptA a2::gsv (some a45) x38.1 x38.2.2.1::undef::(x38.2.2.2.2.2 8)::.slice (zat x38.2.2.2.2.1 0).pa z12 z11::ptA a46::undef::undef::.agg z5::urun x3.2 14 22 (.bool false::undef::ptA a0::vi y.k::.bool false::undef::undef::undef::ptA a0::vi y.k::.bool false::undef::undef::undef::(ptO a0 (3))::.slice y.aa y.n y.ac::vi (y.n : Int)::vi ((x38.1 : Nat) : Int)::urun x38.2.2.2.2.2 54 11 (ptA a0::vi y.k::.bool false::uns 4 (gsv (some a45) x38.1 x38.2.2.1::(ptO a45 (0 + Int.toNat 0 * 5))::.agg z2::ptA a46::vi z8::.bool true::(ptO a46 (4))::.slice (zat x38.2.2.2.2.1 0).pa z12 z11::(ptO a46 (3))::.slice (zat x38.2.2.2.2.1 0).aa ((zat x38.2.2.2.2.1 0).n) ((zat x38.2.2.2.2.1 0).ac)::.pointer (some ⟨(zat x38.2.2.2.2.1 0).AB, (zat x38.2.2.2.2.1 0).AO + Int.toNat 0 * 5, none⟩)::.agg #[vi (z1.k), vu (z1.id), .string (z1.s), .slice z1.aa (z1.n) (z1.ac), .slice z1.pa (z1.m) (z1.pc)]::uns 19 [])))), [], [some (a0, .row z4 47 5), some (a1, .row z6 47 5), some (a2, .row z7 47 5), gsb (some a45) x38.2.2.2.1 47 (x38.2.2.1 * 5), some (a46, .row z9 47 5)]⟩ G39)∧((z8 == 4) = false → altPost G39 z0 .normal ⟨(.agg z3::vi (d : Int)::ptA a0::undef::ptA a1::ptA a2::gsv (some a45) x38.1 x38.2.2.1::undef::(x38.2.2.2.2.2 8)::.slice none 0 0::ptA a46::undef::undef::.agg z5::urun x3.2 14 22 (.bool false::undef::ptA a0::vi y.k::.bool false::undef::undef::undef::ptA a0::vi y.k::.bool false::undef::undef::undef::(ptO a0 (3))::.slice y.aa y.n y.ac::vi (y.n : Int)::vi ((x38.1 : Nat) : Int)::urun x38.2.2.2.2.2 54 11 (ptA a0::vi y.k::.bool false::uns 4 (gsv (some a45) x38.1 x38.2.2.1::(ptO a45 (0 + Int.toNat 0 * 5))::.agg z2::ptA a46::vi z8::.bool false::uns 25 [])))), [], [some (a0, .row z4 47 5), some (a1, .row z6 47 5), some (a2, .row z7 47 5), gsb (some a45) x38.2.2.2.1 47 (x38.2.2.1 * 5), some (a46, .row [vi z8, vu ((zat x38.2.2.2.2.1 0).id), .string ((zat x38.2.2.2.2.1 0).s), .slice (zat x38.2.2.2.2.1 0).aa ((zat x38.2.2.2.2.1 0).n) ((zat x38.2.2.2.2.1 0).ac), .slice (zat x38.2.2.2.2.1 0).pa z12 z11] 47 5)]⟩ G39))) (.sp 77 (ops [.d, .p 4, .d, .d, .p 4, .ib (zat x38.2.2.2.2.1 0).AB (zat x38.2.2.2.2.1 0).AO, .ro (fun v => [vi (((zat x38.2.2.2.2.1 0).kid 0).k), vu (((zat x38.2.2.2.2.1 0).kid 0).id), .string (((zat x38.2.2.2.2.1 0).kid 0).s), .slice ((zat x38.2.2.2.2.1 0).kid 0).aa (((zat x38.2.2.2.2.1 0).kid 0).n) (((zat x38.2.2.2.2.1 0).kid 0).ac), .slice ((zat x38.2.2.2.2.1 0).kid 0).pa (((zat x38.2.2.2.2.1 0).kid 0).m) (((zat x38.2.2.2.2.1 0).kid 0).pc)]), .p 4] (.fin [] [])) (.fin [] [])) (by kernel_rfl) (⟨fun h47 => (have := eq_of_beq h47;⟨rfl, ⟨rfl, ⟨⟨((ki0 qx38.2 (by omega)).1.arg (j := 0) (nrm_n (ki0 qx38.2 (by omega)).2 (by omega))).1, by decide, by have h9 := (nrm_n (ki0 qx38.2 (by omega)).2 (by omega));omega⟩, ⟨((ki0 qx38.2 (by omega)).1.arg (j := 0) (nrm_n (ki0 qx38.2 (by omega)).2 (by omega))).2, ⟨rfl, altGA (fun zw => ((zat x38.2.2.2.2.1 0), ((zat x38.2.2.2.2.1 0).kid 0), zw)) ⟨(show (zat x38.2.2.2.2.1 0).ok G39∧((zat x38.2.2.2.2.1 0).kid 0).ok G39∧(zat x38.2.2.2.2.1 0).pl = (if (T.nrm (d + 1) (y.kid 0).t).k = 4 then (T.nrm (d + 1) (y.kid 0).t).ps else [])∧((zat x38.2.2.2.2.1 0).kid 0).t = (if (T.nrm (d + 1) (y.kid 0).t).k = 4 then (T.nrm (d + 1) (y.kid 0).t).xs.headD (T.word .empty) else (T.nrm (d + 1) (y.kid 0).t)) from ⟨(ki0 qx38.2 (by omega)).1, (ki0 qx38.2 (by omega)).1.kid (nrm_n (ki0 qx38.2 (by omega)).2 (by omega)), nf4 (ki0 qx38.2 (by omega)).2 (by omega) (nrm_n (ki0 qx38.2 (by omega)).2 (by omega))⟩), rfl, ⟨rfl, rfl, rfl⟩⟩⟩⟩⟩⟩⟩), fun h47 => (have := ne_of_beq_false h47;altGA (fun zw => ((plL none 0 []), (zat x38.2.2.2.2.1 0), zw)) ⟨(show (plL none 0 []).ok G39∧(zat x38.2.2.2.2.1 0).ok G39∧(plL none 0 []).pl = (if (T.nrm (d + 1) (y.kid 0).t).k = 4 then (T.nrm (d + 1) (y.kid 0).t).ps else [])∧(zat x38.2.2.2.2.1 0).t = (if (T.nrm (d + 1) (y.kid 0).t).k = 4 then (T.nrm (d + 1) (y.kid 0).t).xs.headD (T.word .empty) else (T.nrm (d + 1) (y.kid 0).t)) from ⟨plL_ok (Nat.le_refl _) (by simp [maxLen]) (fun _ => rfl) (fun a h => by cases h), (ki0 qx38.2 (by omega)).1, nfn (ki0 qx38.2 (by omega)).2 (by omega)⟩), rfl, ⟨rfl, rfl, rfl⟩⟩)⟩), ⟨fun x47 G48 hG48 qx47 => (have hy := L.ok_mono hG48 _ hy;have qx38 := And.intro qx38.1 (kI_mono hG48 qx38.2);⟨rfl, ⟨rnormal_own_L22_ct y d a0 a1 a2 x3 x38 a45 a46 x47 G48 hy hw ho (l0_len (by omega) hw qx47.2.2.1) qx47.1, ⟨fun x80 G81 hG81 qx80 => (have hy := L.ok_mono hG81 _ hy;have qx38 := And.intro qx38.1 (kI_mono hG81 qx38.2);have qx47 := And.intro (L.ok_mono hG81 _ qx47.1) (And.intro (L.ok_mono hG81 _ qx47.2.1) qx47.2.2);⟨fun h86 => (have := eq_of_beq h86;⟨rfl, ⟨rfl, ⟨rfl, ⟨(RN.done x47.2.1), ⟨qx47.2.1, (by rw [(rn_pow (by omega) (by omega) (by omega) ho qx47.2.2.1 qx47.2.2.2 qx80.1 qx80.2.2), if_pos (pl_nil h86)];rfl)⟩, (by rfl), (by rfl)⟩⟩⟩⟩), fun h86 => (have := ne_of_beq_false h86;⟨rfl, fun a87 => ⟨rfl, ⟨rfl, ⟨(RN.pow a87 x47.2.1 x80.2.1), ⟨⟨qx47.2.1, qx80.2.1⟩, (by rw [(rn_pow (by omega) (by omega) (by omega) ho qx47.2.2.1 qx47.2.2.2 qx80.1 qx80.2.2), if_neg (pl_ne h86)];rfl)⟩, (by rfl), (by rfl)⟩⟩⟩⟩)⟩), trivial⟩⟩⟩), trivial⟩⟩⟩⟩⟩⟩⟩⟩)⟩⟩), trivial⟩⟩⟩)⟩⟩)⟩⟩)⟩, trivial⟩⟩⟩)
theorem rnormal_frz {y : L} {d : Nat} {R : RO} (h : Does Tryd.prog 16 [y.v, vi (d : Int)] R [] (fun (r : Out) (G : RO) (B : Hp) => ∃ x : RN, (x.ok G∧x.t = T.nrm d y.t)∧r = .ret x.v∧B = [gsb x.b x.rows 47 (x.cap * 5)])) :
    Does Tryd.prog 16 [y.v, vi (d : Int)] R [] (fun r G B => ∃ z : L, (z.ok G∧z.t = T.nrm d y.t)∧r = .ret z.v∧B = []) := by
  refine (Does.freeze (X := RN) (q := fun x G => x.ok G∧x.t = T.nrm d y.t) (g := fun x => (x.v, [gsb x.b x.rows 47 (x.cap * 5)])) h).mono ?_
  rintro o G B hle ⟨x, G0, h0, ⟨q1, q2⟩, hc, rfl, rfl⟩
  cases x with
  | done z => exact ⟨z, ⟨L.ok_mono h0 _ q1, q2⟩, rfl, rfl⟩
  | hash b cap s zs =>
    obtain ⟨q3, q4, q5, q6⟩ := q1
    refine ⟨hsL b cap s zs, ⟨hsL_ok (fun z hz => L.ok_mono h0 _ (q3 z hz)) q4 q5 q6 fun a ha => hc 0 a _ 47 _ (by show Hp.at [gsb b _ 47 _] 0 = _;rw [ha];rfl), ?_⟩, rfl, rfl⟩
    rw [hsL_t];exact q2
  | pow a t z =>
    have q3 := L.ok_mono h0 _ q1.2
    refine ⟨⟨4, 0, .empty, some ⟨a, 0, none⟩, 1, 1, a, 0, fun _ => t, z.pa, z.m, z.pc, z.PB, z.PO, z.pw⟩, ⟨?_, q2⟩, rfl, rfl⟩
    rw [L.ok_eq]
    refine ⟨⟨Nat.le_refl 1, by simp [maxLen], q3.len.2.2⟩, fun j hj => ?_, q3.pow⟩
    have hj : j < 1 := hj
    have : j = 0 := by omega
    subst this
    exact ⟨rfl, hc 0 a t.row 47 5 rfl, L.ok_mono h0 _ q1.1⟩
theorem rnormal_ok : ∀ (c d : Nat), d + c = 41 → ∀ (y : L) (R : RO), y.ok R → y.t.wt ≤ 1000000 → y.t.okn → Does Tryd.prog 16 [y.v, vi (d : Int)] R [] (fun r G B => ∃ z : L, (z.ok G∧z.t = T.nrm d y.t)∧r = .ret z.v∧B = []) := by
  intro c
  induction c with
  | zero => exact fun d hd y R hy hw ho => rnormal_frz (rnormal_own y d R (fun h => by omega) hy hw ho (by omega))
  | succ c ih => exact fun d hd y R hy hw ho => rnormal_frz (rnormal_own y d R (fun _ y S h1 h2 h3 => ih (d + 1) (by omega) y S h1 h2 h3) hy hw ho (by omega))
end Go.Proofs.YtejpoojgbnppoaaDoor
