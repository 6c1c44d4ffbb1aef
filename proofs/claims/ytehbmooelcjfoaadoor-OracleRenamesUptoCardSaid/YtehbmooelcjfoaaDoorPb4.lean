/- Parts of the proof: what the texts behind this one need. -/
import Derived.Shelf.Strings.OnBuilder
import Derived.Shelf.Strings.Builder1
import Derived.Shelf.Strconv.Itoa3
import Derived.Shelf.Strconv.Itoa2
import Derived.Test.YtehbmooelcjfoaaDoorProg
import Derived.WalkKit
import Derived.BigCall
import Derived.ProofKit
import Derived.SizedLaws
import Derived.Below
import Derived.Carry
import Derived.Test.YtehbmooelcjfoaaDoorRows
import Derived.Test.YtehbmooelcjfoaaDoorPb3
set_option maxRecDepth 100000
set_option maxHeartbeats 4000000
namespace Go.Proofs.YtehbmooelcjfoaaDoor
open Vc Go
set_option linter.unusedVariables false
set_option linter.unusedSimpArgs false
abbrev PW := Int×Int
def prS (f : Nat → PW) : Nat → MPz×Nat
  | 0 => ([], 0)
  | j + 1 => (aput (prS f j).1 (f j).1 (IntKind.i64.wrap ((aget (prS f j).1 (f j).1).getD 0 + (f j).2)) (prS f j).2, aclk (prS f j).1 (f j).1 (prS f j).2)
theorem prS_stm (f : Nat → PW) : ∀ j, Stm (prS f j).1 (prS f j).2
  | 0 => Stm.nil 0
  | j + 1 => (prS_stm f j).put
theorem aput_len {α β : Type} [DecidableEq α] {a : α} {v : β} {c : Nat} : ∀ (m : List (α×β×Nat)), (aput m a v c).length ≤ m.length + 1
  | [] => by simp [aput]
  | y::m => by
    simp only [aput]
    split
    · simp
    · have := aput_len (a := a) (v := v) (c := c) m
      simp only [List.length_cons];omega
theorem prS_len (f : Nat → PW) : ∀ j, (prS f j).1.length ≤ j
  | 0 => Nat.le_refl _
  | j + 1 => by
    have := prS_len f j
    have := aput_len (a := (f j).1) (v := IntKind.i64.wrap ((aget (prS f j).1 (f j).1).getD 0 + (f j).2)) (c := (prS f j).2) (prS f j).1
    show (aput _ _ _ _).length ≤ _
    omega
theorem prS_ne (f : Nat → PW) {j : Nat} (h : 0 < j) : (prS f j).1 ≠ [] := by
  obtain ⟨k, rfl⟩ : ∃ k, j = k + 1 := ⟨j - 1, by omega⟩
  show aput _ _ _ _ ≠ []
  cases (prS f k).1 with
  | nil => simp [aput]
  | cons y m => simp only [aput];split <;> simp
def prO (m : MPz) (ks : Array Int) : Nat → List PW
  | 0 => []
  | j + 1 => prO m ks j ++ (if ((aget m ks[j]!).getD 0 != 0) = true then [(ks[j]!, (aget m ks[j]!).getD 0)] else [])
theorem prO_t {m : MPz} {ks : Array Int} {j : Nat} (h : ((aget m ks[j]!).getD 0 != 0) = true) : prO m ks (j + 1) = prO m ks j ++ [(ks[j]!, (aget m ks[j]!).getD 0)] := by
  rw [prO, if_pos h]
theorem prO_f {m : MPz} {ks : Array Int} {j : Nat} (h : ((aget m ks[j]!).getD 0 != 0) = false) : prO m ks (j + 1) = prO m ks j := by
  rw [prO, h, if_neg (by decide), List.append_nil]
theorem prO_len (m : MPz) (ks : Array Int) : ∀ j, (prO m ks j).length ≤ j
  | 0 => Nat.le_refl _
  | j + 1 => by
    have := prO_len m ks j
    simp only [prO, List.length_append]
    split
    · simp;omega
    · simp;omega
def powR (l : List PW) : List Value := l.flatMap fun p => [vu p.1, vi p.2]
theorem powR_len (l : List PW) : (powR l).length = l.length * 2 := by
  induction l with
  | nil => rfl
  | cons x l ih =>
    show ([_, _] ++ powR l).length = _
    simp only [List.length_append, ih, List.length_cons, List.length_nil];omega
theorem powR_snoc (l : List PW) (p : PW) : powR (l ++ [p]) = powR l ++ [vu p.1, vi p.2] := by simp [powR]
def prodL (f : Nat → PW) (n : Nat) : List PW := prO (prS f n).1 (ksort (prS f n).1) (prS f n).1.length
theorem rd_k {P : Program} {t : Nat} (ht : tinfo P t = some (false, 1)) {d : Array Int} {i : Int} (h : 0 ≤ i) (hi : Int.toNat i < d.size) : readVar P t (u32l d) (0 + Int.toNat i * 1) = some (vu d[Int.toNat i]!) := by
  rw [readVar_one ht, show 0 + Int.toNat i * 1 = Int.toNat i by omega, u32l_get hi]
theorem sorted_some (bx M c : Nat) (m : MPz) (R : RO) (hS : Stm m c) (hm : m.length ≤ 1000000) (hne : m ≠ []) : GivesX Tryd.prog 48 [.func (.func 60) #[] #[ptA bx]] R [some (bx, .row [.map (some M)] 89 1), some (M, .map (ents (Value.int .u32) (Value.int .i64) m) c)] {y : Nat×Nat // m.length ≤ y.2∧y.2 ≤ maxLen} (fun y => (slA y.1.1 m.length y.1.2, [some (bx, .row [.map (some M)] 89 1), some (M, .map (ents (Value.int .u32) (Value.int .i64) m) c), some (y.1.1, .row (u32l (ksort m)) 23 (y.1.2 * 1))])) :=
  (sorted_ok bx M c m R hS hm).mono (by
    rintro o G B hle ⟨rfl, ⟨⟨b, cap⟩, h1, h2, h3⟩, rfl, rfl⟩
    cases b with
    | none => exact (hne (h1.1 rfl)).elim
    | some a => exact ⟨rfl, ⟨(a, cap), h2, h3⟩, rfl, rfl⟩)
theorem pr_eq {f : Nat → PW} {ln j k nn : Nat} {b : Option Nat} {cap : Nat} {L : List Value} (h1 : k = ln) (h : j = (prS f k).1.length∧(b = none → cap = 0)∧nn ≤ cap∧cap ≤ maxLen∧nn = (prO (prS f k).1 (ksort (prS f k).1) j).length∧L = powR (prO (prS f k).1 (ksort (prS f k).1) j)) : nn = (prodL f ln).length∧L = powR (prodL f ln) := by
  obtain ⟨rfl, _, _, _, rfl, rfl⟩ := h
  subst h1
  exact ⟨rfl, rfl⟩
theorem pr_end {f : Nat → PW} {ln j k nn : Nat} {b : Option Nat} {cap : Nat} {L : List Value} (h1 : k = ln) (h : j = (prS f k).1.length∧(b = none → cap = 0)∧nn ≤ cap∧cap ≤ maxLen∧nn = (prO (prS f k).1 (ksort (prS f k).1) j).length∧L = powR (prO (prS f k).1 (ksort (prS f k).1) j)) : (prodL f ln).length ≤ cap∧cap ≤ maxLen∧(b = none → cap = 0) :=
  ⟨by rw [← (pr_eq h1 h).1];exact h.2.2.1, h.2.2.2.1, h.2.1⟩
noncomputable def product_ok_L3_inv (lv : Option Addr) (ln lc LB LO : Nat) (f : Nat → PW) (a0 : Nat)  : Nat×NV → St := fun zx => ⟨(.slice lv ln lc::undef::.slice none 0 0::.map (some a0)::undef::(zx.2 5)::undef::undef::undef::.map (some a0)::.slice lv ln lc::vi (ln : Int)::vi ((zx.1 : Nat) : Int)::urun zx.2 13 11 (uns 22 [])), [], [some (a0, .map (ents (Value.int .u32) (Value.int .i64) ((prS f zx.1).1)) ((prS f zx.1).2))]⟩
def product_ok_L3_I (lv : Option Addr) (ln lc LB LO : Nat) (f : Nat → PW) (a0 : Nat)  (R : RO) : Nat×NV → RO → Prop := fun zx G => G = R∧(zx.1 ≤ ln)
def product_ok_L3_mu (lv : Option Addr) (ln lc LB LO : Nat) (f : Nat → PW) (a0 : Nat)  : Nat×NV → Nat := fun zx => ln - zx.1
noncomputable def product_ok_L3_K (lv : Option Addr) (ln lc LB LO : Nat) (f : Nat → PW) (a0 : Nat)  (R : RO) : Exit' → St → RO → Prop := altPost R (.alt (Nat×NV) (fun zx => zx.1 = ln) (fun zx => (.exit 0, ((product_ok_L3_inv lv ln lc LB LO f a0 zx).up [] [some (a0, .map (ents (Value.int .u32) (Value.int .i64) ((prS f zx.1).1)) ((prS f zx.1).2))]))) (fun _ => .altn) .altn)
theorem product_ok_L3_body (lv : Option Addr) (ln lc LB LO : Nat) (f : Nat → PW) (a0 : Nat)  (R : RO) (hn : ln ≤ 1000000) (hx : ∀ j, j < ln → lv = some ⟨LB, LO, none⟩∧R.cells LB (LO + j * 2) [vu (f j).1, vi (f j).2]) (j : Nat) (u1 : Nat → Value) (hI : j ≤ ln) : CT Tryd.prog (sub (bodyOf Tryd.f40) [1, 1, 0, 1, 0, 0]) (product_ok_L3_inv lv ln lc LB LO f a0 (j, u1)) R (LK (product_ok_L3_inv lv ln lc LB LO f a0) (product_ok_L3_I lv ln lc LB LO f a0 R) (product_ok_L3_mu lv ln lc LB LO f a0) (product_ok_L3_K lv ln lc LB LO f a0 R) (j, u1)) :=
  CT.of_wp_eq (VC := (let z3 := ((aget ((prS f j).1) ((f j).1)).getD 0);let z1 := (IntKind.i64.wrap (z3 + ((f j).2)));let z2 := (ents (Value.int .u32) (Value.int .i64) (aput ((prS f j).1) ((f j).1) z1 ((prS f j).2)));let z0 : Hp := [some (a0, .map (ents (Value.int .u32) (Value.int .i64) ((prS f j).1)) ((prS f j).2))];((decide ((j : Int) < (ln : Int))) = true → (lv = some ⟨LB, LO, none⟩∧(0 : Int) ≤ (j : Int)∧((j : Int) : Int) < (ln : Int))∧(R.cells LB (LO + Int.toNat (j : Int) * 2) [vu ((f j).1), vi ((f j).2)])∧∀ a53 : Nat, (a53 = a53)∧(a53 = a53)∧(Prim0 Tryd.prog (.look 89 (.map (some a0)) (vu ((f j).1)) false) R z0 (vi z3) z0)∧(a53 = a53)∧(Prim0 Tryd.prog (.mup 89 (.map (some a0)) (vu ((f j).1)) (vi z1)) R z0 (undef) [some (a0, .map z2 (aclk ((prS f j).1) ((f j).1) ((prS f j).2)))])∧(NW .i64 ((j : Int) + 1))∧LK (product_ok_L3_inv lv ln lc LB LO f a0) (product_ok_L3_I lv ln lc LB LO f a0 R) (product_ok_L3_mu lv ln lc LB LO f a0) (product_ok_L3_K lv ln lc LB LO f a0 R) (j, u1) .normal ⟨(.slice lv ln lc::undef::.slice none 0 0::.map (some a0)::undef::ptA a53::undef::undef::undef::.map (some a0)::.slice lv ln lc::vi (ln : Int)::vi ((j : Int) + 1)::.bool true::(ptO LB (LO + Int.toNat (j : Int) * 2))::.agg #[vu ((f j).1), vi ((f j).2)]::.map (some a0)::ptA a53::vu ((f j).1)::vi z3::(ptO a53 (1))::vi ((f j).2)::vi z1::vi ((j : Int) + 1)::uns 22 []), [], [some (a0, .map z2 (aclk ((prS f j).1) ((f j).1) ((prS f j).2))), some (a53, .row [vu ((f j).1), vi ((f j).2)] 58 2)]⟩ R)∧((decide ((j : Int) < (ln : Int))) = false → LK (product_ok_L3_inv lv ln lc LB LO f a0) (product_ok_L3_I lv ln lc LB LO f a0 R) (product_ok_L3_mu lv ln lc LB LO f a0) (product_ok_L3_K lv ln lc LB LO f a0 R) (j, u1) (.exit 0) ((product_ok_L3_inv lv ln lc LB LO f a0 (j, u1)).up [(13, .bool false)] z0) R))) (ops [.d] (.sp 13 (ops [.ib LB LO, .ro (fun v => [vu ((f j).1), vi ((f j).2)])] (.opn 1 (fun a53 => (ops [.p 1, .d, .d, .p 1, .pr0 [0] [] (fun e v => .int .i64 ((aget ((prS f j).1) ((f j).1)).getD 0)) (fun e v => [some (a0, .map (ents (Value.int .u32) (Value.int .i64) ((prS f j).1)) ((prS f j).2))]), .d, .p 1, .d, .pr0 [0] [] (fun e v => undef) (fun e v => [some (a0, .map (ents (Value.int .u32) (Value.int .i64) (aput ((prS f j).1) ((f j).1) (IntKind.i64.wrap (((aget ((prS f j).1) ((f j).1)).getD 0) + ((f j).2))) ((prS f j).2))) (aclk ((prS f j).1) ((f j).1) ((prS f j).2)))]), .nw, .d] (.fin [] []))))) (.fin [] []))) (by kernel_rfl)
    (⟨fun h52 => (have := of_decide_eq_true h52;⟨⟨(hx j (by omega)).1, by omega, by omega⟩, ⟨(by have h9 := (hx j (by omega)).2;simpa using h9), fun a53 => ⟨rfl, ⟨rfl, ⟨(look1_ok (kf := Value.int .u32) (vf := Value.int .i64) (kt := 23) (et := 3) (m := (prS f j).1) (a := (f j).1) (z0 := 0) (by kernel_rfl) (keyInt (by kernel_rfl)) (by kernel_rfl)), ⟨rfl, ⟨(mup_ok (kf := Value.int .u32) (vf := Value.int .i64) (kt := 23) (et := 3) (m := (prS f j).1) (a := (f j).1) (v := IntKind.i64.wrap (((aget ((prS f j).1) ((f j).1)).getD 0) + ((f j).2))) (by kernel_rfl) (keyInt (by kernel_rfl))), ⟨(nwI (by omega) (by omega)), LKn (fun zw => ((j + 1), zw)) ⟨⟨rfl, (show (j + 1) ≤ ln from (by omega))⟩, (show ln - (j + 1) < ln - j from (by omega)), ⟨rfl, rfl, rfl⟩⟩⟩⟩⟩⟩⟩⟩⟩⟩), fun h52 => (have := of_decide_eq_false h52;altA (fun zw => (j, zw)) ⟨(show j = ln from (by omega)), (by show _ = _;kernel_rfl), ⟨(by show _ = _;kernel_rfl), (by show _ = _;kernel_rfl), (by show _ = _;kernel_rfl)⟩⟩)⟩)
theorem product_ok_L3_ct (lv : Option Addr) (ln lc LB LO : Nat) (f : Nat → PW) (a0 : Nat)  (R : RO) (hn : ln ≤ 1000000) (hx : ∀ j, j < ln → lv = some ⟨LB, LO, none⟩∧R.cells LB (LO + j * 2) [vu (f j).1, vi (f j).2])  : CT Tryd.prog (sub (bodyOf Tryd.f40) [1, 1, 0, 1, 0]) ⟨(.slice lv ln lc::undef::.slice none 0 0::.map (some a0)::uns 5 (.map (some a0)::.slice lv ln lc::vi (ln : Int)::vi 0::uns 33 [])), [], [some (a0, .map (ents (Value.int .u32) (Value.int .i64) []) 0)]⟩ R (product_ok_L3_K lv ln lc LB LO f a0 R) :=
  CT.loop_eqs (product_ok_L3_inv lv ln lc LB LO f a0) (product_ok_L3_I lv ln lc LB LO f a0 R) (product_ok_L3_mu lv ln lc LB LO f a0) (fun zw => (0, zw)) (by kernel_rfl) (by kernel_rfl) ⟨rfl, (show 0 ≤ ln from (Nat.zero_le _))⟩
    (by
      rintro ⟨j, u1⟩ G hG ⟨rfl, hI⟩
      exact product_ok_L3_body lv ln lc LB LO f a0 _ hn hx j u1 hI)
noncomputable def product_ok_L9_inv (lv : Option Addr) (ln lc LB LO : Nat) (f : Nat → PW) (a0 : Nat) (x2 : Nat×NV) (w8 : Nat) (w9 : {y : Nat×Nat // ((prS f x2.1).1).length ≤ y.2∧y.2 ≤ maxLen})  : Nat×Option Nat×Nat×Nat×List Value×NV → St := fun zx => ⟨(.slice lv ln lc::undef::.slice none 0 0::.map (some a0)::undef::(x2.2 5)::gsv zx.2.1 zx.2.2.2.1 zx.2.2.1::undef::(zx.2.2.2.2.2 8)::.map (some a0)::.slice lv ln lc::vi (ln : Int)::vi (x2.1 : Int)::urun x2.2 13 11 (.map (some a0)::.func (.func 60) #[] #[ptA w8]::.slice (some ⟨w9.1.1, 0, none⟩) (((prS f x2.1).1).length) w9.1.2::vi ((((prS f x2.1).1).length : Nat) : Int)::vi ((zx.1 : Nat) : Int)::urun zx.2.2.2.2.2 29 16 (undef::[]))), [], [some (a0, .map (ents (Value.int .u32) (Value.int .i64) ((prS f x2.1).1)) ((prS f x2.1).2)), some (w8, .row [.map (some a0)] 89 1), some (w9.1.1, .row (u32l (ksort ((prS f x2.1).1))) 23 (w9.1.2 * 1)), none, gsb zx.2.1 zx.2.2.2.2.1 58 (zx.2.2.1 * 2)]⟩
def product_ok_L9_I (lv : Option Addr) (ln lc LB LO : Nat) (f : Nat → PW) (a0 : Nat) (x2 : Nat×NV) (w8 : Nat) (w9 : {y : Nat×Nat // ((prS f x2.1).1).length ≤ y.2∧y.2 ≤ maxLen})  (R : RO) : Nat×Option Nat×Nat×Nat×List Value×NV → RO → Prop := fun zx G => G = R∧(zx.1 ≤ ((prS f x2.1).1).length∧(zx.2.1 = none → zx.2.2.1 = 0)∧zx.2.2.2.1 ≤ zx.2.2.1∧zx.2.2.1 ≤ maxLen∧zx.2.2.2.1 = (prO ((prS f x2.1).1) (ksort ((prS f x2.1).1)) zx.1).length∧zx.2.2.2.2.1 = powR (prO ((prS f x2.1).1) (ksort ((prS f x2.1).1)) zx.1))
def product_ok_L9_mu (lv : Option Addr) (ln lc LB LO : Nat) (f : Nat → PW) (a0 : Nat) (x2 : Nat×NV) (w8 : Nat) (w9 : {y : Nat×Nat // ((prS f x2.1).1).length ≤ y.2∧y.2 ≤ maxLen})  : Nat×Option Nat×Nat×Nat×List Value×NV → Nat := fun zx => ((prS f x2.1).1).length - zx.1
noncomputable def product_ok_L9_K (lv : Option Addr) (ln lc LB LO : Nat) (f : Nat → PW) (a0 : Nat) (x2 : Nat×NV) (w8 : Nat) (w9 : {y : Nat×Nat // ((prS f x2.1).1).length ≤ y.2∧y.2 ≤ maxLen})  (R : RO) : Exit' → St → RO → Prop := altPost R (.alt (Nat×Option Nat×Nat×Nat×List Value×NV) (fun zx => zx.1 = ((prS f x2.1).1).length∧(zx.2.1 = none → zx.2.2.1 = 0)∧zx.2.2.2.1 ≤ zx.2.2.1∧zx.2.2.1 ≤ maxLen∧zx.2.2.2.1 = (prO ((prS f x2.1).1) (ksort ((prS f x2.1).1)) zx.1).length∧zx.2.2.2.2.1 = powR (prO ((prS f x2.1).1) (ksort ((prS f x2.1).1)) zx.1)) (fun zx => (.exit 2, ((product_ok_L9_inv lv ln lc LB LO f a0 x2 w8 w9 zx).up [] [some (a0, .map (ents (Value.int .u32) (Value.int .i64) ((prS f x2.1).1)) ((prS f x2.1).2)), some (w8, .row [.map (some a0)] 89 1), some (w9.1.1, .row (u32l (ksort ((prS f x2.1).1))) 23 (w9.1.2 * 1)), none, gsb zx.2.1 zx.2.2.2.2.1 58 (zx.2.2.1 * 2)]))) (fun _ => .altn) .altn)
theorem product_ok_L9_body (lv : Option Addr) (ln lc LB LO : Nat) (f : Nat → PW) (a0 : Nat) (x2 : Nat×NV) (w8 : Nat) (w9 : {y : Nat×Nat // ((prS f x2.1).1).length ≤ y.2∧y.2 ≤ maxLen})  (R : RO) (hm : ((prS f x2.1).1).length ≤ 1000000) (j : Nat) (b : Option Nat) (cap : Nat) (nn : Nat) (L : List Value) (u10 : Nat → Value) (hI : j ≤ ((prS f x2.1).1).length∧(b = none → cap = 0)∧nn ≤ cap∧cap ≤ maxLen∧nn = (prO ((prS f x2.1).1) (ksort ((prS f x2.1).1)) j).length∧L = powR (prO ((prS f x2.1).1) (ksort ((prS f x2.1).1)) j)) : CT Tryd.prog (sub (bodyOf Tryd.f40) [1, 1, 1, 1, 0, 1, 0, 0]) (product_ok_L9_inv lv ln lc LB LO f a0 x2 w8 w9 (j, b, cap, nn, L, u10)) R (LK (product_ok_L9_inv lv ln lc LB LO f a0 x2 w8 w9) (product_ok_L9_I lv ln lc LB LO f a0 x2 w8 w9 R) (product_ok_L9_mu lv ln lc LB LO f a0 x2 w8 w9) (product_ok_L9_K lv ln lc LB LO f a0 x2 w8 w9 R) (j, b, cap, nn, L, u10)) :=
  CT.of_wp_eq (VC := (let z13 := (ksort ((prS f x2.1).1));let z12 := (product_ok_L9_inv lv ln lc LB LO f a0 x2 w8 w9 (j, b, cap, nn, L, u10));let z11 := (((prS f x2.1).1).length : Nat);let z9 := (product_ok_L9_mu lv ln lc LB LO f a0 x2 w8 w9);let z8 := (product_ok_L9_K lv ln lc LB LO f a0 x2 w8 w9 R);let z7 := (product_ok_L9_I lv ln lc LB LO f a0 x2 w8 w9 R);let z6 := (product_ok_L9_inv lv ln lc LB LO f a0 x2 w8 w9);let z5 := ((j : Int) + 1);let z2 := (ents (Value.int .u32) (Value.int .i64) ((prS f x2.1).1));let z3 : Hp := [some (a0, .map z2 ((prS f x2.1).2)), some (w8, .row [.map (some a0)] 89 1), some (w9.1.1, .row (u32l z13) 23 (w9.1.2 * 1)), none, gsb b L 58 (cap * 2)];let z0 := (z13[Int.toNat (j : Int)]!);let z1 := ((aget ((prS f x2.1).1) z0).getD 0);let z10 : List Value := [vu z0, vi z1];let z4 := (Prim0 Tryd.prog (.look 89 (.map (some a0)) (vu z0) false) R [some (a0, .map z2 ((prS f x2.1).2))] (vi z1) [some (a0, .map z2 ((prS f x2.1).2))]);((decide ((j : Int) < (z11 : Int))) = true → (IB (j : Int) z11)∧(w9.1.1 = w9.1.1∧readVar Tryd.prog 23 (u32l z13) (0 + Int.toNat (j : Int) * 1) = some (vu z0))∧z4∧((z1 != 0) = true → z4∧∀ a63 : Nat, (PrimOK Tryd.prog (.app 27 27 27 (gsv b nn cap) (slA a63 1 1)) R [gsb b L 58 (cap * 2), some (a63, .row z10 58 2)] (Nat×Nat) (fun y64 => nn + 1 ≤ y64.2∧y64.2 ≤ maxLen) (fun y64 => (.slice (some ⟨y64.1, 0, none⟩) (nn + 1) y64.2, [some (y64.1, .row (L ++ (z10 : List Value)) 58 (y64.2 * 2)), some (a63, .row z10 58 2)])))∧∀ y64 : Nat×Nat, (nn + 1 ≤ y64.2∧y64.2 ≤ maxLen) → (NW .i64 z5)∧LK z6 z7 z9 z8 (j, b, cap, nn, L, u10) .normal ⟨(.slice lv ln lc::undef::.slice none 0 0::.map (some a0)::undef::(x2.2 5)::.slice (some ⟨y64.1, 0, none⟩) (nn + 1) y64.2::undef::vu z0::.map (some a0)::.slice lv ln lc::vi (ln : Int)::vi (x2.1 : Int)::urun x2.2 13 11 (.map (some a0)::.func (.func 60) #[] #[ptA w8]::.slice (some ⟨w9.1.1, 0, none⟩) (((prS f x2.1).1).length) w9.1.2::vi (z11 : Int)::vi z5::.bool true::(ptO w9.1.1 (0 + Int.toNat (j : Int) * 1))::vu z0::.map (some a0)::vu z0::vi z1::.bool true::gsv b nn cap::vu z0::.map (some a0)::vu z0::vi z1::.agg #[vu z0, vi z1]::slA a63 1 1::.slice (some ⟨y64.1, 0, none⟩) (nn + 1) y64.2::vi z5::undef::[])), [], [some (a0, .map z2 ((prS f x2.1).2)), some (w8, .row [.map (some a0)] 89 1), some (w9.1.1, .row (u32l z13) 23 (w9.1.2 * 1)), none, some (y64.1, .row (L ++ (z10 : List Value)) 58 (y64.2 * 2)), some (a63, .row z10 58 2)]⟩ R)∧((z1 != 0) = false → (NW .i64 z5)∧LK z6 z7 z9 z8 (j, b, cap, nn, L, u10) .normal (z12.up [(8, vu z0), (28, vi z5), (29, .bool true), (30, (ptO w9.1.1 (0 + Int.toNat (j : Int) * 1))), (31, vu z0), (32, .map (some a0)), (33, vu z0), (34, vi z1), (35, .bool false), (44, vi z5)] z3) R))∧((decide ((j : Int) < (z11 : Int))) = false → LK z6 z7 z9 z8 (j, b, cap, nn, L, u10) (.exit 2) (z12.up [(29, .bool false)] z3) R))) (let y_2 : Hp := [some (a0, .map (ents (Value.int .u32) (Value.int .i64) ((prS f x2.1).1)) ((prS f x2.1).2))];let y_0 := ((ksort ((prS f x2.1).1))[Int.toNat (j : Int)]!);let y_1 := ((aget ((prS f x2.1).1) y_0).getD 0);ops [.d] (.sp 29 (ops [.ia, .q 2 (fun e v => .int .u32 y_0), .d, .d, .d, .pr0 [0] [] (fun e v => .int .i64 y_1) (fun e v => y_2), .d] (.sp 35 (ops [.d, .d, .d, .d, .pr0 [0] [] (fun e v => .int .i64 y_1) (fun e v => y_2), .d] (.opn 5 (fun a63 => (.opp [4, 5] [] (Nat×Nat) (fun y64 => nn + 1 ≤ y64.2∧y64.2 ≤ maxLen) (fun y64 => (.slice (some ⟨y64.1, 0, none⟩) (nn + 1) y64.2, [some (y64.1, .row (L ++ ([vu y_0, vi y_1] : List Value)) 58 (y64.2 * 2)), some (a63, .row [vu y_0, vi y_1] 58 2)])) (fun y64 => (ops [.d, .nw, .d] (.fin [] []))))))) (ops [.nw, .d] (.fin [] [])))) (.fin [] []))) (by kernel_rfl)
    (⟨fun h61 => (have := of_decide_eq_true h61;⟨(by omega), ⟨⟨rfl, (rd_k (by kernel_rfl) (by omega) (by rw [ksort_size];omega))⟩, ⟨(look1_ok (kf := Value.int .u32) (vf := Value.int .i64) (kt := 23) (et := 3) (m := (prS f x2.1).1) (a := (ksort ((prS f x2.1).1))[Int.toNat (j : Int)]!) (z0 := 0) (by kernel_rfl) (keyInt (by kernel_rfl)) (by kernel_rfl)), ⟨fun h62 => ⟨(look1_ok (kf := Value.int .u32) (vf := Value.int .i64) (kt := 23) (et := 3) (m := (prS f x2.1).1) (a := (ksort ((prS f x2.1).1))[Int.toNat (j : Int)]!) (z0 := 0) (by kernel_rfl) (keyInt (by kernel_rfl)) (by kernel_rfl)), fun a63 => ⟨(app1_ok (e := 58) (e' := 58) (z := 2) (by' := 16) (zc := [vu 0, vi 0]) (b := b) (len := nn) (cap := cap) (n := 1) (cs := L) (new := [vu ((ksort ((prS f x2.1).1))[Int.toNat (j : Int)]!), vi ((aget ((prS f x2.1).1) ((ksort ((prS f x2.1).1))[Int.toNat (j : Int)]!)).getD 0)]) (by kernel_rfl) (.inl (by kernel_rfl)) (by kernel_rfl) rfl (by rw [hI.2.2.2.2.2, hI.2.2.2.2.1, powR_len]) hI.2.2.1 hI.2.2.2.1 hI.2.1 ⟨rfl, .inr (.inr ⟨_, _, _, rfl, .inl ⟨1, _, _, _, rfl, rfl⟩⟩)⟩ (ones_spec rfl) (by have := prO_len ((prS f x2.1).1) (ksort ((prS f x2.1).1)) j;omega) (by have := prO_len ((prS f x2.1).1) (ksort ((prS f x2.1).1)) j;simp only [maxLen];omega) (by omega)), fun y64 qy64 => ⟨(nwI (by omega) (by omega)), LKn (fun zw => ((j + 1), (some y64.1), y64.2, (nn + 1), (L ++ ([vu ((ksort ((prS f x2.1).1))[Int.toNat (j : Int)]!), vi ((aget ((prS f x2.1).1) ((ksort ((prS f x2.1).1))[Int.toNat (j : Int)]!)).getD 0)] : List Value)), zw)) ⟨⟨rfl, (show (j + 1) ≤ ((prS f x2.1).1).length∧((some y64.1) = none → y64.2 = 0)∧(nn + 1) ≤ y64.2∧y64.2 ≤ maxLen∧(nn + 1) = (prO ((prS f x2.1).1) (ksort ((prS f x2.1).1)) (j + 1)).length∧(L ++ ([vu ((ksort ((prS f x2.1).1))[Int.toNat (j : Int)]!), vi ((aget ((prS f x2.1).1) ((ksort ((prS f x2.1).1))[Int.toNat (j : Int)]!)).getD 0)] : List Value)) = powR (prO ((prS f x2.1).1) (ksort ((prS f x2.1).1)) (j + 1)) from ⟨by omega, (fun h => by cases h), qy64.1, qy64.2, (by rw [prO_t (j := j) h62, List.length_append, hI.2.2.2.2.1];rfl), (by rw [prO_t (j := j) h62, powR_snoc, hI.2.2.2.2.2];rfl)⟩)⟩, (show ((prS f x2.1).1).length - (j + 1) < ((prS f x2.1).1).length - j from (by omega)), ⟨rfl, rfl, rfl⟩⟩⟩⟩⟩, fun h62 => ⟨(nwI (by omega) (by omega)), LKn (fun zw => ((j + 1), b, cap, nn, L, zw)) ⟨⟨rfl, (show (j + 1) ≤ ((prS f x2.1).1).length∧(b = none → cap = 0)∧nn ≤ cap∧cap ≤ maxLen∧nn = (prO ((prS f x2.1).1) (ksort ((prS f x2.1).1)) (j + 1)).length∧L = powR (prO ((prS f x2.1).1) (ksort ((prS f x2.1).1)) (j + 1)) from ⟨by omega, hI.2.1, hI.2.2.1, hI.2.2.2.1, (by rw [prO_f (j := j) h62];exact hI.2.2.2.2.1), (by rw [prO_f (j := j) h62];exact hI.2.2.2.2.2)⟩)⟩, (show ((prS f x2.1).1).length - (j + 1) < ((prS f x2.1).1).length - j from (by omega)), ⟨(by show _ = _;kernel_rfl), rfl, rfl⟩⟩⟩⟩⟩⟩⟩), fun h61 => (have := of_decide_eq_false h61;altA (fun zw => (j, b, cap, nn, L, zw)) ⟨(show j = ((prS f x2.1).1).length∧(b = none → cap = 0)∧nn ≤ cap∧cap ≤ maxLen∧nn = (prO ((prS f x2.1).1) (ksort ((prS f x2.1).1)) j).length∧L = powR (prO ((prS f x2.1).1) (ksort ((prS f x2.1).1)) j) from ⟨by omega, hI.2⟩), (by show _ = _;kernel_rfl), ⟨(by show _ = _;kernel_rfl), (by show _ = _;kernel_rfl), (by show _ = _;kernel_rfl)⟩⟩)⟩)
theorem product_ok_L9_ct (lv : Option Addr) (ln lc LB LO : Nat) (f : Nat → PW) (a0 : Nat) (x2 : Nat×NV) (w8 : Nat) (w9 : {y : Nat×Nat // ((prS f x2.1).1).length ≤ y.2∧y.2 ≤ maxLen})  (R : RO) (hm : ((prS f x2.1).1).length ≤ 1000000)  : CT Tryd.prog (sub (bodyOf Tryd.f40) [1, 1, 1, 1, 0, 1, 0]) ⟨(.slice lv ln lc::undef::.slice none 0 0::.map (some a0)::undef::(x2.2 5)::.slice none 0 0::undef::undef::.map (some a0)::.slice lv ln lc::vi (ln : Int)::vi (x2.1 : Int)::urun x2.2 13 11 (.map (some a0)::.func (.func 60) #[] #[ptA w8]::.slice (some ⟨w9.1.1, 0, none⟩) (((prS f x2.1).1).length) w9.1.2::vi ((((prS f x2.1).1).length : Nat) : Int)::vi 0::uns 17 [])), [], [some (a0, .map (ents (Value.int .u32) (Value.int .i64) ((prS f x2.1).1)) ((prS f x2.1).2)), some (w8, .row [.map (some a0)] 89 1), some (w9.1.1, .row (u32l (ksort ((prS f x2.1).1))) 23 (w9.1.2 * 1))]⟩ R (product_ok_L9_K lv ln lc LB LO f a0 x2 w8 w9 R) :=
  CT.pad 2 <| CT.loop_eqs (product_ok_L9_inv lv ln lc LB LO f a0 x2 w8 w9) (product_ok_L9_I lv ln lc LB LO f a0 x2 w8 w9 R) (product_ok_L9_mu lv ln lc LB LO f a0 x2 w8 w9) (fun zw => (0, (none : Option Nat), 0, 0, ([] : List Value), zw)) (by kernel_rfl) (by kernel_rfl) ⟨rfl, (show 0 ≤ ((prS f x2.1).1).length∧((none : Option Nat) = none → 0 = 0)∧0 ≤ 0∧0 ≤ maxLen∧0 = (prO ((prS f x2.1).1) (ksort ((prS f x2.1).1)) 0).length∧([] : List Value) = powR (prO ((prS f x2.1).1) (ksort ((prS f x2.1).1)) 0) from ⟨Nat.zero_le _, fun _ => rfl, Nat.le_refl _, by simp [maxLen], rfl, rfl⟩)⟩
    (by
      rintro ⟨j, b, cap, nn, L, u10⟩ G hG ⟨rfl, hI⟩
      exact product_ok_L9_body lv ln lc LB LO f a0 x2 w8 w9 _ hm j b cap nn L u10 hI)
theorem product_ok (lv : Option Addr) (ln lc LB LO : Nat) (f : Nat → PW) (R : RO) (hn : ln ≤ 1000000) (h0 : 0 < ln) (hx : ∀ j, j < ln → lv = some ⟨LB, LO, none⟩∧R.cells LB (LO + j * 2) [vu (f j).1, vi (f j).2]) : GivesX Tryd.prog 40 [.slice lv ln lc] R [] ({y : Option Nat×Nat // (prodL f ln).length ≤ y.2∧y.2 ≤ maxLen∧(y.1 = none → y.2 = 0)}) (fun y => (gsv y.1.1 ((prodL f ln).length) y.1.2, [gsb y.1.1 (powR (prodL f ln)) 58 (y.1.2 * 2)])) :=
  Does.of_wp_eq (VC := (∀ a0 : Nat, (CT Tryd.prog (sub (bodyOf Tryd.f40) [1, 1, 0, 1, 0]) ⟨(.slice lv ln lc::undef::.slice none 0 0::.map (some a0)::uns 5 (.map (some a0)::.slice lv ln lc::vi (ln : Int)::vi 0::uns 33 [])), [], [some (a0, .map (ents (Value.int .u32) (Value.int .i64) []) 0)]⟩ R (product_ok_L3_K lv ln lc LB LO f a0 R))∧(∀ x2 : Nat×NV, let z1 := (ksort ((prS f x2.1).1));let z0 := (ents (Value.int .u32) (Value.int .i64) ((prS f x2.1).1));(x2.1 = ln) → (GivesX Tryd.prog 49 [.map (some a0)] R [] (Nat) (fun w8 => (.func (.func 60) #[] #[ptA w8], [some (w8, .row [.map (some a0)] 89 1)])))∧∀ w8 : Nat, (GivesX Tryd.prog 48 [.func (.func 60) #[] #[ptA w8]] R [some (w8, .row [.map (some a0)] 89 1), some (a0, .map z0 ((prS f x2.1).2))] ({y : Nat×Nat // ((prS f x2.1).1).length ≤ y.2∧y.2 ≤ maxLen}) (fun w9 => (.slice (some ⟨w9.1.1, 0, none⟩) (((prS f x2.1).1).length) w9.1.2, [some (w8, .row [.map (some a0)] 89 1), some (a0, .map z0 ((prS f x2.1).2)), some (w9.1.1, .row (u32l z1) 23 (w9.1.2 * 1))])))∧∀ w9 : {y : Nat×Nat // ((prS f x2.1).1).length ≤ y.2∧y.2 ≤ maxLen}, (CT Tryd.prog (sub (bodyOf Tryd.f40) [1, 1, 1, 1, 0, 1, 0]) ⟨(.slice lv ln lc::undef::.slice none 0 0::.map (some a0)::undef::(x2.2 5)::.slice none 0 0::undef::undef::.map (some a0)::.slice lv ln lc::vi (ln : Int)::vi (x2.1 : Int)::urun x2.2 13 11 (.map (some a0)::.func (.func 60) #[] #[ptA w8]::.slice (some ⟨w9.1.1, 0, none⟩) (((prS f x2.1).1).length) w9.1.2::vi ((((prS f x2.1).1).length : Nat) : Int)::vi 0::uns 17 [])), [], [some (a0, .map z0 ((prS f x2.1).2)), some (w8, .row [.map (some a0)] 89 1), some (w9.1.1, .row (u32l z1) 23 (w9.1.2 * 1))]⟩ R (product_ok_L9_K lv ln lc LB LO f a0 x2 w8 w9 R))∧(∀ x11 : Nat×Option Nat×Nat×Nat×List Value×NV, (x11.1 = ((prS f x2.1).1).length∧(x11.2.1 = none → x11.2.2.1 = 0)∧x11.2.2.2.1 ≤ x11.2.2.1∧x11.2.2.1 ≤ maxLen∧x11.2.2.2.1 = (prO ((prS f x2.1).1) z1 x11.1).length∧x11.2.2.2.2.1 = powR (prO ((prS f x2.1).1) z1 x11.1)) → GX R ({y : Option Nat×Nat // (prodL f ln).length ≤ y.2∧y.2 ≤ maxLen∧(y.1 = none → y.2 = 0)}) (fun y => (gsv y.1.1 ((prodL f ln).length) y.1.2, [gsb y.1.1 (powR (prodL f ln)) 58 (y.1.2 * 2)])) (.ret (gsv x11.2.1 x11.2.2.2.1 x11.2.2.1)) R [gsb x11.2.1 x11.2.2.2.2.1 58 (x11.2.2.1 * 2)])∧True)∧True)) (ops [.d] (.opn 0 (fun a0 => (ops [.d, .d, .d, .d] (.alt (Nat×NV) (fun zx => zx.1 = ln) (fun zx => (.exit 0, ((product_ok_L3_inv lv ln lc LB LO f a0 zx).up [] [some (a0, .map (ents (Value.int .u32) (Value.int .i64) ((prS f zx.1).1)) ((prS f zx.1).2))]))) (fun x2 => let y_0 := (ksort ((prS f x2.1).1));(ops [.d, .d] (.opx [] [1] (Nat) (fun w8 => (.func (.func 60) #[] #[ptA w8], [some (w8, .row [.map (some a0)] 89 1)])) (fun w8 => (.opx [1, 0] [2] ({y : Nat×Nat // ((prS f x2.1).1).length ≤ y.2∧y.2 ≤ maxLen}) (fun w9 => (.slice (some ⟨w9.1.1, 0, none⟩) (((prS f x2.1).1).length) w9.1.2, [some (w8, .row [.map (some a0)] 89 1), some (a0, .map (ents (Value.int .u32) (Value.int .i64) ((prS f x2.1).1)) ((prS f x2.1).2)), some (w9.1.1, .row (u32l y_0) 23 (w9.1.2 * 1))])) (fun w9 => (ops [.d, .d] (.alt (Nat×Option Nat×Nat×Nat×List Value×NV) (fun zx => zx.1 = ((prS f x2.1).1).length∧(zx.2.1 = none → zx.2.2.1 = 0)∧zx.2.2.2.1 ≤ zx.2.2.1∧zx.2.2.1 ≤ maxLen∧zx.2.2.2.1 = (prO ((prS f x2.1).1) y_0 zx.1).length∧zx.2.2.2.2.1 = powR (prO ((prS f x2.1).1) y_0 zx.1)) (fun zx => (.exit 2, ((product_ok_L9_inv lv ln lc LB LO f a0 x2 w8 w9 zx).up [] [some (a0, .map (ents (Value.int .u32) (Value.int .i64) ((prS f x2.1).1)) ((prS f x2.1).2)), some (w8, .row [.map (some a0)] 89 1), some (w9.1.1, .row (u32l y_0) 23 (w9.1.2 * 1)), none, gsb zx.2.1 zx.2.2.2.2.1 58 (zx.2.2.1 * 2)]))) (fun x11 => (ops [.d, .d] (.fin [4] []))) .altn)))))))) .altn))))) Tryd.func40 (by kernel_rfl) (by kernel_rfl)
    (fun a0 => ⟨product_ok_L3_ct lv ln lc LB LO f a0 R hn hx, ⟨fun x2 qx2 => ⟨(keys_ok a0 R), fun w8 => ⟨(sorted_some w8 a0 ((prS f x2.1).2) ((prS f x2.1).1) R (prS_stm _ _) (Nat.le_trans (prS_len _ _) (by omega)) (prS_ne f (by omega))), fun w9 => ⟨product_ok_L9_ct lv ln lc LB LO f a0 x2 w8 w9 R (Nat.le_trans (prS_len _ _) (by omega)), ⟨fun x11 qx11 => ⟨rfl, ⟨(x11.2.1, x11.2.2.1), pr_end qx2 qx11⟩, (by exact congrArg (fun z => Out.ret (gsv _ z _)) (pr_eq qx2 qx11).1), (by exact congrArg (fun z => [gsb _ z 58 _]) (pr_eq qx2 qx11).2)⟩, trivial⟩⟩⟩⟩, trivial⟩⟩)
end Go.Proofs.YtehbmooelcjfoaaDoor
set_option linter.unusedVariables false
set_option linter.unusedSimpArgs false
namespace Vc
open Go
theorem app0_ok {P : Program} {R : RO} {t u ty e : TypeId} {kk : IntKind} {z by' n : Nat} {zc : List Value} (ht : P.underlying t = some (.slice e)) (hu : P.underlying u = some (.int kk)) (hi : tyI P e = some (z, by', zc)) (hz : zc.length = z)
    (hn : 0 < n) (hbytes : n * by' ≤ 140737488355328) (h63 : n ≤ 1000000000) :
    PrimOK P (.app t u ty (.slice none 0 0) (vi (n : Int))) R [] (Nat×Nat) (fun y => n ≤ y.2∧y.2 ≤ maxLen) (fun y => (slA y.1 n y.2, [some (y.1, .row [] e (y.2 * z))])) := by
  intro Rx w hR hs
  obtain ⟨i, v, g1, g2, g3, g4, g5⟩ := tyI_spec hi
  have hzs : v.cells.size = z := by rw [← hz, ← g5, Array.length_toList]
  have hw : IntKind.i64.wrap (n : Int) = (n : Int) := wrapI (by omega) (by omega)
  have h1 : ¬ ((n : Int) < 0) := by omega
  have h2 : ¬ ((n : Int) * (i.bytes : Int) > 281474976710656) := by rw [g4, ← Int.natCast_mul];omega
  have hroom : ¬ n ≤ 0 := by omega
  have h63' : ¬ (9223372036854775807 < (n : Int)) := by omega
  have hfits := growslice_fits (need := n) (old := 0) (bytes := by') (by omega) (by simpa using hbytes)
  have h48 : ¬ (281474976710656 < Builtin.nextslicecap n 0 * i.bytes) := by rw [g4];omega
  have hge := grownCap_ge w n 0 e
  have hcm' : grownCap w n 0 e ≤ maxLen := grownCap_le_maxLen w n 0 e (by simp only [maxLen];omega)
  have hcut : (Question.appendCap n 0 e).cut (w.tape w.drawn (.appendCap n 0 e)) = grownCap w n 0 e := rfl
  have hold : (Builtin.firstCells z 0 (.slice none 0 0)).run P w.drew = .ok #[] w.drew := run_firstCells_none w.drew z 0 0 0
  rw [g4] at h2 h48
  obtain ⟨row, hrow, hrun⟩ : ∃ row : Array Value, row.size = grownCap w n 0 e * z∧(PC.app t u ty (.slice none 0 0) (vi (n : Int))).sem.run P w = .ok (.slice (some ⟨w.heap.size, 0, none⟩) n (grownCap w n 0 e)) (w.drew.alloc (.cells row e)) := by
    refine ⟨(#[] : Array Value) ++ (if n * z = 0 then #[] else Builtin.zeroCells v.cells n) ++ Builtin.zeroCells v.cells (grownCap w n 0 e - n), ?_, ?_⟩
    · split
      · rename_i h0
        have hz0 : z = 0 := by rcases Nat.mul_eq_zero.1 h0 with h | h <;> omega
        subst hz0
        simp only [Array.size_append, size_zeroCells, hzs];simp
      · simp only [Array.size_append, size_zeroCells, hzs]
        have : grownCap w n 0 e * z = n * z + (grownCap w n 0 e - n) * z := by rw [← Nat.add_mul];congr 1;omega
        rw [this];simp
    · simp [PC.sem, Builtin.append_, run_underlying ht, run_underlying hu, Go.sizeOf, typeInfo, zeroValue, asInt, asIntOf, g1, g2, g3, g4, hw, h1, h2, hroom, h63', h48, Question.forced, newRow, hcut, hold]
      rw [if_neg (by omega : ¬ n = 0)]
      by_cases h0 : n * z = 0
      · rw [if_pos h0, if_pos h0];simp
      · rw [if_neg h0, if_neg h0]
  refine ⟨(w.heap.size, grownCap w n 0 e), _, hrun, ⟨hge, hcm'⟩, ?_⟩
  exact Sat.put_new (w' := w.drew.alloc (.cells row e)) hs.drew (i := 0) (o := .cells row e) rfl rfl
    (B := .row [] e (grownCap w n 0 e * z)) ⟨_, 0, 0, heap_alloc_new w.drew _, hrow, by simp, by omega⟩ ⟨rfl, rfl, rfl⟩
theorem Does.freeze {P : Program} {f : FuncId} {args : List Value} {R : RO} {H : Hp} {X : Type} {q : X → RO → Prop} {g : X → Value×Hp}
    (h : Does P f args R H fun o G B => ∃ x, q x G∧o = .ret (g x).1∧B = (g x).2) :
    Does P f args R H fun o G B => ∃ x G0, G0.le G∧q x G0∧(∀ i a cs t n, Hp.at (g x).2 i = some (a, .row cs t n) → G.cells a 0 cs)∧o = .ret (g x).1∧B = [] := by
  intro Rx w hR hs
  refine (h Rx w hR hs).mono ?_
  rintro e w' ⟨o, G, B, Rx', rfl, ⟨x, hq, rfl, rfl⟩, hx, hs'⟩
  obtain ⟨F, hF⟩ : ∃ F : Nat → Option Obj, F = fun b => open Classical in if ∃ i C, Hp.at (g x).2 i = some (b, C) then w'.heap[b]? else none := ⟨_, rfl⟩
  have hFs : ∀ b, (∃ i C, Hp.at (g x).2 i = some (b, C)) → F b = w'.heap[b]?∧Rx'.mem b = none := fun b ⟨i, C, hi⟩ => by
    refine ⟨by rw [hF];simp only;rw [if_pos ⟨i, C, hi⟩], hs'.off i b C hi⟩
  have hFn : ∀ b, ¬ (∃ i C, Hp.at (g x).2 i = some (b, C)) → F b = none := fun b hb => by rw [hF];simp only;rw [if_neg hb]
  have gn : ∀ b, Rx'.mem b = none → G.mem b = none := fun b hb => RO.none_of_le hx.leg hb
  let ad : RO → RO := fun S => ⟨fun b => match S.mem b with | some o => some o | none => F b, S.os, S.tape, S.out⟩
  have adm : ∀ S b, (ad S).mem b = match S.mem b with | some o => some o | none => F b := fun _ _ => rfl
  have hFR : ∀ b, F b ≠ none → Rx'.mem b = none := fun b hb => by
    rcases Classical.em (∃ i C, Hp.at (g x).2 i = some (b, C)) with h | h
    · exact (hFs b h).2
    · exact (hb (hFn b h)).elim
  refine ⟨.ret (g x).1, ad G, [], ad Rx', rfl, ⟨x, G, ⟨fun b o hb => by rw [adm, hb], rfl, rfl, rfl⟩, hq, fun i a cs t n hi => ?_, rfl, rfl⟩, ⟨⟨fun b o hb => by rw [adm, hx.le.mem b o hb], hx.le.os, hx.le.tape, hx.le.out⟩, ⟨fun b o hb => by rw [adm, hx.lex.mem b o hb], hx.lex.os, hx.lex.tape, hx.lex.out⟩, ⟨fun b o hb => ?_, hx.leg.os, hx.leg.tape, hx.leg.out⟩, fun b hb => ?_⟩, ?_⟩
  · obtain ⟨c, lo, hi', hc, hn, ht, _⟩ := hs'.own i a _ hi
    refine ⟨c, t, (lo, hi'), ?_, by simpa using ht⟩
    have h1 := hFs a ⟨i, _, hi⟩
    rw [adm, gn a h1.2]
    simp only
    rw [h1.1];exact hc
  · rw [adm] at hb ⊢
    cases hg : G.mem b with
    | some o' => rw [hg] at hb;rw [hx.leg.mem b o' hg];exact hb
    | none =>
      rw [hg] at hb
      simp only at hb
      have := hFR b (by rw [hb];simp)
      rw [this];exact hb
  · rw [adm] at hb
    cases hg : G.mem b with
    | some o' => exact hx.own b (by rw [hg];simp)
    | none =>
      rw [hg] at hb
      have h1 := hFR b hb
      exact .inr (RO.none_of_le hx.lex h1)
  · refine ⟨fun b o hb => ?_, fun i a C hi => by simp [Hp.at_nil] at hi, fun i a C hi => by simp [Hp.at_nil] at hi, fun i j a C D hi hj => by simp [Hp.at_nil] at hi, hs'.os, hs'.tape, hs'.out⟩
    rw [adm] at hb
    cases hr : Rx'.mem b with
    | some o' => rw [hr] at hb;cases hb;exact hs'.ro b _ hr
    | none =>
      rw [hr] at hb
      simp only at hb
      rcases Classical.em (∃ i C, Hp.at (g x).2 i = some (b, C)) with h | h
      · rw [(hFs b h).1] at hb;exact hb
      · rw [hFn b h] at hb;cases hb
theorem Does.give {P : Program} {f : FuncId} {args : List Value} {R : RO} {a : Nat} {cs : List Value} {t : TypeId} {n : Nat} {H : Hp} {Q : Out → RO → Hp → Prop}
    (h : ∀ S, R.le S → S.cells a 0 cs → Does P f args S H Q) :
    Does P f args R (some (a, .row cs t n)::H) fun o G B => ∃ B', B = none::B'∧Q o G B' := by
  intro Rx w hR hs
  obtain ⟨c, lo, hi', hc, hn, ht, hf⟩ := hs.own 0 a _ rfl
  have hoff : Rx.mem a = none := hs.off 0 a _ rfl
  let ad : RO → RO := fun S => ⟨fun b => if b = a then some (.cells c t (lo, hi')) else S.mem b, S.os, S.tape, S.out⟩
  have adm : ∀ S b, (ad S).mem b = if b = a then some (.cells c t (lo, hi')) else S.mem b := fun _ _ => rfl
  have hRa : R.mem a = none := RO.none_of_le hR hoff
  have hS : R.le (ad R) := ⟨fun b o hb => by
    rw [adm];split
    · rename_i he;subst he;rw [hRa] at hb;cases hb
    · exact hb, rfl, rfl, rfl⟩
  have hX : Rx.le (ad Rx) := ⟨fun b o hb => by
    rw [adm];split
    · rename_i he;subst he;rw [hoff] at hb;cases hb
    · exact hb, rfl, rfl, rfl⟩
  have hSX : (ad R).le (ad Rx) := ⟨fun b o hb => by
    rw [adm] at hb ⊢;split
    · rename_i he;rw [if_pos he] at hb;exact hb
    · rename_i he;rw [if_neg he] at hb;exact hR.mem b o hb, hR.os, hR.tape, hR.out⟩
  have hsat : Sat w (ad Rx) H := ⟨fun b o hb => by
      rw [adm] at hb;split at hb
      · rename_i he;subst he;cases hb;exact hc
      · exact hs.ro b o hb,
    fun i a' B hi => hs.own (i + 1) a' B hi,
    fun i a' B hi => by
      rw [adm, if_neg]
      · exact hs.off (i + 1) a' B hi
      · intro he;subst he
        have := hs.one 0 (i + 1) a' _ _ rfl hi
        omega,
    fun i j a' C D hi hj => by
      have := hs.one (i + 1) (j + 1) a' C D hi hj
      omega,
    hs.os, hs.tape, hs.out⟩
  refine (h (ad R) hS ⟨c, t, (lo, hi'), by rw [adm, if_pos rfl], by simpa using ht⟩ (ad Rx) w hSX hsat).mono ?_
  rintro e w' ⟨o, G, B, Rx', rfl, hq, hx, hs'⟩
  refine ⟨o, G, none::B, Rx', rfl, ⟨B, rfl, hq⟩, ⟨RO.le_trans hS hx.le, RO.le_trans hX hx.lex, hx.leg, fun b hb => ?_⟩, ?_⟩
  · rcases hx.own b hb with h1 | h1
    · rw [adm] at h1
      split at h1
      · rename_i he;subst he;exact .inr hoff
      · exact .inl h1
    · rw [adm] at h1
      split at h1
      · cases h1
      · exact .inr h1
  · refine ⟨hs'.ro, fun i a' C hi => ?_, fun i a' C hi => ?_, fun i j a' C D hi hj => ?_, hs'.os, hs'.tape, hs'.out⟩
    · cases i with
      | zero => cases hi
      | succ i => exact hs'.own i a' C hi
    · cases i with
      | zero => cases hi
      | succ i => exact hs'.off i a' C hi
    · cases i with
      | zero => cases hi
      | succ i => cases j with
        | zero => cases hj
        | succ j => have := hs'.one i j a' C D hi hj;omega
theorem altGA {R : RO} {X : Type} {q : X → RO → Prop} {out : X → Exit'×St} {rest : Sc} {e : Exit'} {s : St} {G : RO} (f : NV → X)
    (h : q (f (tget s.tm)) G∧e = (out (f (tget s.tm))).1∧s.cut (out (f (tget s.tm))).2) : altPost R (.altG X q out (fun _ => .altn) rest) e s G := Or.inl ⟨_, h⟩
theorem LKe {ι : Type} {inv : ι → St} {I : ι → RO → Prop} {μ : ι → Nat} {K : Exit' → St → RO → Prop} {i : ι} {n : Nat} {s : St} {G : RO} (h : K (.exit n) s G) : LK inv I μ K i (.exit n) s G := h
theorem LKr {ι : Type} {inv : ι → St} {I : ι → RO → Prop} {μ : ι → Nat} {K : Exit' → St → RO → Prop} {i : ι} {s : St} {G : RO} (h : K .ret s G) : LK inv I μ K i .ret s G := h
theorem RO.cells_sub {R : RO} {a o i : Nat} {cs l : List Value} (h : R.cells a o cs) (hl : (cs.drop i).take l.length = l) : R.cells a (o + i) l := by
  obtain ⟨c, t, fr, h1, h2⟩ := h
  refine ⟨c, t, fr, h1, ?_⟩
  rw [← h2] at hl
  rw [← List.drop_drop]
  rcases Nat.eq_zero_or_pos l.length with h0 | h0
  · rw [h0];simp [List.length_eq_zero_iff.1 h0]
  · rw [List.drop_take, List.take_take] at hl
    have hlen : l.length ≤ cs.length - i := by
      have := congrArg List.length hl
      simp only [List.length_take] at this
      omega
    rw [Nat.min_eq_left hlen] at hl
    exact hl
theorem Ext.give {R Rx : RO} {w : World} {H : Hp} {i a : Nat} {cs : List Value} {t : TypeId} {n : Nat} (hR : R.le Rx) (hs : Sat w Rx H) (hi : H.at i = some (a, .row cs t n)) :
    ∃ S Sx, R.le S∧S.le Sx∧S.cells a 0 cs∧Sat w Sx (H.put i none)∧∀ G Rx', Ext S Sx G Rx' → Ext R Rx G Rx' := by
  obtain ⟨c, lo, hi', hc, hn, ht, hf⟩ := hs.own i a _ hi
  have hoff : Rx.mem a = none := hs.off i a _ hi
  let ad : RO → RO := fun S => ⟨fun b => if b = a then some (.cells c t (lo, hi')) else S.mem b, S.os, S.tape, S.out⟩
  have adm : ∀ S b, (ad S).mem b = if b = a then some (.cells c t (lo, hi')) else S.mem b := fun _ _ => rfl
  have hRa : R.mem a = none := RO.none_of_le hR hoff
  have hS : R.le (ad R) := ⟨fun b o hb => by
    rw [adm];split
    · rename_i he;subst he;rw [hRa] at hb;cases hb
    · exact hb, rfl, rfl, rfl⟩
  have hX : Rx.le (ad Rx) := ⟨fun b o hb => by
    rw [adm];split
    · rename_i he;subst he;rw [hoff] at hb;cases hb
    · exact hb, rfl, rfl, rfl⟩
  have hSX : (ad R).le (ad Rx) := ⟨fun b o hb => by
    rw [adm] at hb ⊢;split
    · rename_i he;rw [if_pos he] at hb;exact hb
    · rename_i he;rw [if_neg he] at hb;exact hR.mem b o hb, hR.os, hR.tape, hR.out⟩
  have hput : ∀ {j : Nat} {x : Nat×Blk}, (H.put i none).at j = some x → H.at j = some x∧j ≠ i := fun {j x} hj => by
    rw [Hp.at_put] at hj
    split at hj
    · cases hj
    · rename_i hne;exact ⟨hj, fun he => hne he.symm⟩
  refine ⟨ad R, ad Rx, hS, hSX, ⟨c, t, (lo, hi'), by rw [adm, if_pos rfl], by simpa using ht⟩, ⟨fun b o hb => ?_, fun j a' B hj => hs.own j a' B (hput hj).1, fun j a' B hj => ?_, fun j k a' C D hj hk => hs.one j k a' C D (hput hj).1 (hput hk).1, hs.os, hs.tape, hs.out⟩, fun G Rx' hx => ?_⟩
  · rw [adm] at hb;split at hb
    · rename_i he;subst he;cases hb;exact hc
    · exact hs.ro b o hb
  · obtain ⟨h1, h2⟩ := hput hj
    rw [adm, if_neg]
    · exact hs.off j a' B h1
    · intro he;subst he;exact h2 (hs.one _ _ _ _ _ h1 hi)
  · refine ⟨RO.le_trans hS hx.le, RO.le_trans hX hx.lex, hx.leg, fun b hb => ?_⟩
    rcases hx.own b hb with h1 | h1
    · rw [adm] at h1
      split at h1
      · rename_i he;subst he;exact .inr hoff
      · exact .inl h1
    · rw [adm] at h1
      split at h1
      · cases h1
      · exact .inr h1
theorem CT.frz {P : Program} {c : Code} {s : St} {R : RO} {K : Exit' → St → RO → Prop} (i : Nat) {b : Option Nat} {cs : List Value} {t : TypeId} {n : Nat} (hi : s.hp.at i = gsb b cs t n)
    (h : ∀ S, R.le S → (∀ a, b = some a → S.cells a 0 cs) → CT P c ⟨s.tm, s.df, s.hp.put i none⟩ S K) : CT P c s R K := by
  intro Rx w hR hs
  cases b with
  | none =>
    refine h R (RO.le_refl _) (fun a ha => by cases ha) Rx w hR ?_
    have hput : ∀ {j : Nat} {x : Nat×Blk}, (s.hp.put i none).at j = some x → s.hp.at j = some x := fun {j x} hj => by
      rw [Hp.at_put] at hj
      split at hj
      · cases hj
      · exact hj
    exact ⟨hs.ro, fun j a' B hj => hs.own j a' B (hput hj), fun j a' B hj => hs.off j a' B (hput hj), fun j k a' C D hj hk => hs.one j k a' C D (hput hj) (hput hk), hs.os, hs.tape, hs.out⟩
  | some a =>
    obtain ⟨S, Sx, h1, h2, h3, h4, h5⟩ := Ext.give hR hs hi
    refine wp_mono (h S h1 (fun a' ha => by cases ha;exact h3) Sx w h2 h4) fun e a' w' hl => ?_
    obtain ⟨e', s', G, Rx', g1, g2, g3, g4, g5⟩ := hl
    exact ⟨e', s', G, Rx', g1, g2, g3, h5 _ _ g4, g5⟩
end Vc
namespace Go.Proofs.YtehbmooelcjfoaaDoor
open Vc Go
set_option linter.unusedVariables false
set_option linter.unusedSimpArgs false
inductive T where
  | mk (k id : Int) (s : ByteArray) (xs : List T) (ps : List PW)
namespace T
def k : T → Int | .mk k _ _ _ _ => k
def id : T → Int | .mk _ i _ _ _ => i
def s : T → ByteArray | .mk _ _ s _ _ => s
def xs : T → List T | .mk _ _ _ xs _ => xs
def ps : T → List PW | .mk _ _ _ _ ps => ps
def word (s : ByteArray) : T := .mk 2 0 s [] []
def atom (i : Int) : T := .mk 1 i .empty [] []
def prod (l : List PW) : List PW := prodL (fun j => l.getD j (0, 0)) l.length
def pow (t : T) (l : List PW) : T :=
  if t.k = 4 then (if prod (t.ps ++ l) = [] then t.xs.headD (word .empty) else .mk 4 0 .empty [t.xs.headD (word .empty)] (prod (t.ps ++ l)))
  else (if prod l = [] then t else .mk 4 0 .empty [t] (prod l))
mutual
def nrm (d : Nat) : T → T
  | .mk k i s xs ps => if 40 < d then word .empty else if k = 1 then atom i else if k = 2 then word s else if k = 3 then .mk 3 0 s (nrmL (d + 1) xs) []
    else if k = 4 then (match nrmL (d + 1) xs with | [a] => pow a ps | _ => word .empty) else word .empty
def nrmL (d : Nat) : List T → List T
  | [] => []
  | a::l => nrm d a::nrmL d l
end
theorem nrmL_map (d : Nat) : ∀ l, nrmL d l = l.map (nrm d)
  | [] => rfl
  | a::l => by simp only [nrmL, List.map, nrmL_map d l]
mutual
def wt : T → Nat
  | .mk _ _ s xs ps => 300 + 2 * s.size + 60 * ps.length + wtL xs
def wtL : List T → Nat
  | [] => 0
  | a::l => wt a + 1 + wtL l
end
mutual
def ht : T → Nat
  | .mk _ _ _ xs _ => htL xs + 1
def htL : List T → Nat
  | [] => 0
  | a::l => max (ht a) (htL l)
end
mutual
def okn : T → Prop
  | .mk k i _ xs ps => (IntKind.i64.min ≤ k∧k ≤ IntKind.i64.max)∧(0 ≤ i∧i ≤ 4294967295)∧(∀ p ∈ ps, (0 ≤ p.1∧p.1 ≤ 4294967295)∧IntKind.i64.min ≤ p.2∧p.2 ≤ IntKind.i64.max)∧oknL xs
def oknL : List T → Prop
  | [] => True
  | a::l => okn a∧oknL l
end
theorem oknL_iff : ∀ l, oknL l ↔ ∀ t ∈ l, okn t
  | [] => by simp [oknL]
  | a::l => by simp [oknL, oknL_iff l]
theorem htL_le : ∀ {l : List T} {t : T}, t ∈ l → ht t ≤ htL l
  | a::l, t, h => by
    simp only [htL]
    rcases List.mem_cons.1 h with rfl | h
    · omega
    · have := htL_le h;omega
theorem wtL_le : ∀ {l : List T} {t : T}, t ∈ l → wt t < wtL l
  | a::l, t, h => by
    simp only [wtL]
    rcases List.mem_cons.1 h with rfl | h
    · omega
    · have := wtL_le h;omega
end T
structure L where
  k : Int
  id : Int
  s : ByteArray
  aa : Option Addr
  n : Nat
  ac : Nat
  AB : Nat
  AO : Nat
  kd : Fin n → L
  pa : Option Addr
  m : Nat
  pc : Nat
  PB : Nat
  PO : Nat
  pw : Nat → PW
namespace L
abbrev row (y : L) : List Value := [.int .i64 y.k, vu y.id, .string y.s, .slice y.aa y.n y.ac, .slice y.pa y.m y.pc]
def v (y : L) : Value := .agg y.row.toArray
def pl (y : L) : List PW := (List.range y.m).map y.pw
def kid (y : L) (j : Nat) : L := if h : j < y.n then y.kd ⟨j, h⟩ else y
theorem kid_pos {y : L} {j : Nat} (h : j < y.n) : y.kid j = y.kd ⟨j, h⟩ := dif_pos h
noncomputable def t (y : L) : T := L.rec (motive := fun _ => T) (fun k id s _ n _ _ _ _ _ m _ _ _ pw ih => .mk k id s (List.ofFn ih) ((List.range m).map pw)) y
theorem t_eq (y : L) : y.t = .mk y.k y.id y.s ((List.range y.n).map fun j => (y.kid j).t) y.pl := by
  have : (List.ofFn fun j => (y.kd j).t) = (List.range y.n).map fun j => (y.kid j).t := by
    apply List.ext_getElem (by simp)
    intro i h1 h2
    simp only [List.length_ofFn] at h1
    simp [kid_pos h1]
  rw [← this]
  cases y;rfl
def ok0 (R : RO) (y : L) : Prop := L.rec (motive := fun _ => Prop) (fun _ _ _ aa n ac AB AO kd pa m pc PB PO pw ih =>
  (n ≤ ac∧ac ≤ maxLen∧m ≤ pc∧pc ≤ maxLen)∧(∀ j : Fin n, aa = some ⟨AB, AO, none⟩∧R.cells AB (AO + j * 5) (kd j).row∧ih j) ∧
  ∀ j, j < m → pa = some ⟨PB, PO, none⟩∧R.cells PB (PO + j * 2) [vu (pw j).1, vi (pw j).2]) y
def ok (y : L) (R : RO) : Prop := y.ok0 R
theorem ok_eq (R : RO) (y : L) : y.ok R = ((y.n ≤ y.ac∧y.ac ≤ maxLen∧y.m ≤ y.pc∧y.pc ≤ maxLen)∧(∀ j, j < y.n → y.aa = some ⟨y.AB, y.AO, none⟩∧R.cells y.AB (y.AO + j * 5) (y.kid j).row∧(y.kid j).ok R) ∧
  ∀ j, j < y.m → y.pa = some ⟨y.PB, y.PO, none⟩∧R.cells y.PB (y.PO + j * 2) [vu (y.pw j).1, vi (y.pw j).2]) := by
  have h0 : y.ok R = ((y.n ≤ y.ac∧y.ac ≤ maxLen∧y.m ≤ y.pc∧y.pc ≤ maxLen)∧(∀ j : Fin y.n, y.aa = some ⟨y.AB, y.AO, none⟩∧R.cells y.AB (y.AO + j * 5) (y.kd j).row∧(y.kd j).ok R) ∧
    ∀ j, j < y.m → y.pa = some ⟨y.PB, y.PO, none⟩∧R.cells y.PB (y.PO + j * 2) [vu (y.pw j).1, vi (y.pw j).2]) := by cases y;rfl
  rw [h0]
  refine propext ⟨fun h => ⟨h.1, fun j hj => by rw [kid_pos hj];exact h.2.1 ⟨j, hj⟩, h.2.2⟩, fun h => ⟨h.1, fun j => ?_, h.2.2⟩⟩
  have := h.2.1 j j.2
  rw [kid_pos j.2] at this
  exact this
theorem ok_mono {R S : RO} (h : R.le S) (y : L) : y.ok R → y.ok S := by
  induction y with
  | mk k id s aa n ac AB AO kd pa m pc PB PO pw ih =>
    rw [ok_eq, ok_eq]
    rintro ⟨h1, h2, h3⟩
    exact ⟨h1, fun j hj => ⟨(h2 j hj).1, RO.cells_mono h (h2 j hj).2.1, by rw [kid_pos hj];exact ih ⟨j, hj⟩ (by have := (h2 j hj).2.2;rw [kid_pos hj] at this;exact this)⟩, fun j hj => ⟨(h3 j hj).1, RO.cells_mono h (h3 j hj).2⟩⟩
theorem ok.len {R : RO} {y : L} (h : y.ok R) : y.n ≤ y.ac∧y.ac ≤ maxLen∧y.m ≤ y.pc∧y.pc ≤ maxLen := by rw [ok_eq] at h;exact h.1
theorem ok.arg {R : RO} {y : L} (h : y.ok R) {j : Nat} (hj : j < y.n) : y.aa = some ⟨y.AB, y.AO, none⟩∧R.cells y.AB (y.AO + j * 5) (y.kid j).row := by rw [ok_eq] at h;exact ⟨(h.2.1 j hj).1, (h.2.1 j hj).2.1⟩
theorem ok.kid {R : RO} {y : L} (h : y.ok R) {j : Nat} (hj : j < y.n) : (y.kid j).ok R := by rw [ok_eq] at h;exact (h.2.1 j hj).2.2
theorem ok.pow {R : RO} {y : L} (h : y.ok R) : ∀ j, j < y.m → y.pa = some ⟨y.PB, y.PO, none⟩∧R.cells y.PB (y.PO + j * 2) [vu (y.pw j).1, vi (y.pw j).2] := by rw [ok_eq] at h;exact h.2.2
theorem cells_det {R : RO} {a o : Nat} {l m : List Value} (h : R.cells a o l) (h' : R.cells a o m) (hl : l.length = m.length) : l = m := by
  obtain ⟨c, t, fr, h1, h2⟩ := h
  obtain ⟨c', t', fr', h1', h2'⟩ := h'
  rw [h1] at h1';cases h1'
  rw [hl] at h2
  exact h2.symm.trans h2'
theorem det {R : RO} (y : L) : ∀ z : L, y.ok R → z.ok R → y.row = z.row → y.t = z.t := by
  induction y with
  | mk k id s aa n ac AB AO kd pa m pc PB PO pw ih =>
    intro z hy hz hr
    have hy0 := hy
    rw [ok_eq] at hy hz
    simp only [row, List.cons.injEq, Value.int.injEq, true_and, Value.string.injEq, Value.slice.injEq, and_true] at hr
    obtain ⟨r1, r2, r3, ⟨r4, r5, r6⟩, r7, r8, r9⟩ := hr
    rw [t_eq, t_eq]
    simp only [T.mk.injEq]
    refine ⟨r1, r2, r3, ?_, ?_⟩
    · show _ = List.map _ (List.range z.n)
      rw [← r5]
      refine List.map_congr_left fun j hj => ?_
      have hj := List.mem_range.1 hj
      have a1 := hy.2.1 j hj
      have a2 := hz.2.1 j (r5 ▸ hj)
      have e : (⟨AB, AO, none⟩ : Addr) = ⟨z.AB, z.AO, none⟩ := by
        have := a1.1.symm.trans (r4.trans a2.1);simpa using this
      have e1 : AB = z.AB := congrArg Addr.block e
      have e2 : AO = z.AO := congrArg Addr.off e
      have e0 := kid_pos (y := ⟨k, id, s, aa, n, ac, AB, AO, kd, pa, m, pc, PB, PO, pw⟩) hj
      rw [e0]
      rw [e0] at a1
      refine ih ⟨j, hj⟩ (z.kid j) a1.2.2 a2.2.2 ?_
      have c2 := a2.2.1
      rw [← e1, ← e2] at c2
      exact cells_det a1.2.1 c2 rfl
    · show List.map pw (List.range m) = List.map z.pw (List.range z.m)
      rw [← r8]
      refine List.map_congr_left fun j hj => ?_
      have hj := List.mem_range.1 hj
      have a1 := hy.2.2 j hj
      have a2 := hz.2.2 j (r8 ▸ hj)
      have e : (⟨PB, PO, none⟩ : Addr) = ⟨z.PB, z.PO, none⟩ := by
        have := a1.1.symm.trans (r7.trans a2.1);simpa using this
      have e1 : PB = z.PB := congrArg Addr.block e
      have e2 : PO = z.PO := congrArg Addr.off e
      have c2 := a2.2
      rw [← e1, ← e2] at c2
      have := cells_det a1.2 c2 rfl
      simp only [List.cons.injEq, Value.int.injEq, true_and, and_true] at this
      exact Prod.ext this.1 this.2
theorem row_v {y z : L} (h : y.v = z.v) : y.row = z.row := by
  simp only [v, Value.agg.injEq] at h
  exact congrArg Array.toList h
end L
def IsV (G : RO) (x : Value) (t : T) : Prop := ∃ z : L, x = z.v∧z.ok G∧z.t = t
theorem IsV.det {G : RO} {y : L} {t : T} (h : IsV G y.v t) (hy : y.ok G) : t = y.t := by
  obtain ⟨z, hz, ho, rfl⟩ := h
  exact (L.det y z hy ho (L.row_v hz)).symm
theorem IsV.mono {R S : RO} (h : R.le S) {x : Value} {t : T} : IsV R x t → IsV S x t := fun ⟨z, h1, h2, h3⟩ => ⟨z, h1, L.ok_mono h z h2, h3⟩
theorem pl_len (y : L) : y.pl.length = y.m := by simp [L.pl]
theorem prod_of {f : Nat → PW} {n : Nat} {l : List PW} (hl : l = (List.range n).map f) (f' : Nat → PW) (h : ∀ j, j < n → f' j = f j) : prodL f' n = T.prod l := by
  subst hl
  unfold T.prod
  simp only [List.length_map, List.length_range]
  have : ∀ k, k ≤ n → prS f' k = prS (fun j => ((List.range n).map f).getD j (0, 0)) k := by
    intro k
    induction k with
    | zero => intro _;rfl
    | succ k ih =>
      intro hk
      have h1 : ((List.range n).map f).getD k (0, 0) = f' k := by
        rw [List.getD_eq_getElem?_getD, List.getElem?_map, List.getElem?_range (by omega)]
        simp only [Option.map_some, Option.getD_some]
        exact (h k (by omega)).symm
      simp only [prS, ih (by omega), h1]
  unfold prodL
  rw [this n (Nat.le_refl _)]
end Go.Proofs.YtehbmooelcjfoaaDoor
namespace Go.Proofs.YtehbmooelcjfoaaDoor
open Vc Go
set_option linter.unusedVariables false
set_option linter.unusedSimpArgs false
theorem aget_aput {α β : Type} [DecidableEq α] {k : α} {v : β} {c : Nat} (a : α) : ∀ (m : List (α×β×Nat)), aget (aput m k v c) a = if a = k then some v else aget m a
  | [] => by simp only [aput, aget]
  | y::m => by
    have ih := aget_aput (k := k) (v := v) (c := c) a m
    simp only [aput]
    by_cases hy : k = y.1
    · rw [if_pos hy]
      simp only [aget]
      by_cases ha : a = k
      · rw [if_pos ha, if_pos ha]
      · rw [if_neg ha, if_neg ha, if_neg (by rw [← hy];exact ha)]
    · rw [if_neg hy]
      simp only [aget]
      by_cases ha : a = y.1
      · rw [if_pos ha, if_neg (by rw [ha];exact fun he => hy he.symm), if_pos ha]
      · rw [if_neg ha, ih, if_neg ha]
theorem aput_keys {α β : Type} [DecidableEq α] {k : α} {v : β} {c : Nat} : ∀ (m : List (α×β×Nat)), (aput m k v c).map (·.1) = if k ∈ m.map (·.1) then m.map (·.1) else m.map (·.1) ++ [k]
  | [] => by simp [aput]
  | y::m => by
    have ih := aput_keys (k := k) (v := v) (c := c) m
    simp only [aput]
    by_cases hy : k = y.1
    · rw [if_pos hy, if_pos (by rw [List.map_cons, hy];exact List.mem_cons_self ..)]
      simp [hy]
    · rw [if_neg hy, List.map_cons, ih]
      by_cases hk : k ∈ m.map (·.1)
      · rw [if_pos hk, if_pos (by rw [List.map_cons];exact List.mem_cons_of_mem _ hk)];rfl
      · rw [if_neg hk, if_neg]
        · rfl
        · rw [List.map_cons];intro h
          rcases List.mem_cons.1 h with h | h
          · exact hy h
          · exact hk h
def smF (f : Nat → PW) (j : Nat) (a : Int) : Int := ((List.range j).map fun i => if (f i).1 = a then (f i).2 else 0).sum
theorem smF_succ (f : Nat → PW) (j : Nat) (a : Int) : smF f (j + 1) a = smF f j a + (if (f j).1 = a then (f j).2 else 0) := by
  simp [smF, List.range_succ]
theorem wrap_add (x y : Int) : IntKind.i64.wrap (IntKind.i64.wrap x + y) = IntKind.i64.wrap (x + y) := by rw [wi64, wi64, wi64];omega
theorem wrap_zero : IntKind.i64.wrap 0 = 0 := by rw [wi64];omega
theorem prS_keys (f : Nat → PW) : ∀ j, ((prS f j).1.map (·.1)).Nodup∧∀ a, a ∈ (prS f j).1.map (·.1) ↔ ∃ i, i < j∧(f i).1 = a
  | 0 => by simp [prS]
  | j + 1 => by
    obtain ⟨h1, h2⟩ := prS_keys f j
    simp only [prS]
    rw [aput_keys]
    split
    · rename_i hk
      refine ⟨h1, fun a => ?_⟩
      rw [h2]
      constructor
      · rintro ⟨i, hi, rfl⟩;exact ⟨i, by omega, rfl⟩
      · rintro ⟨i, hi, rfl⟩
        by_cases hij : i = j
        · subst hij;exact (h2 _).1 hk
        · exact ⟨i, by omega, rfl⟩
    · rename_i hk
      refine ⟨List.nodup_append.2 ⟨h1, by simp, fun x hx y hy => ?_⟩, fun a => ?_⟩
      · rcases List.mem_singleton.1 hy with rfl
        intro he;subst he;exact hk hx
      · rw [List.mem_append, h2, List.mem_singleton]
        constructor
        · rintro (⟨i, hi, rfl⟩ | rfl)
          · exact ⟨i, by omega, rfl⟩
          · exact ⟨j, by omega, rfl⟩
        · rintro ⟨i, hi, rfl⟩
          by_cases hij : i = j
          · subst hij;exact .inr rfl
          · exact .inl ⟨i, by omega, rfl⟩
theorem prS_get (f : Nat → PW) : ∀ j a, (aget (prS f j).1 a).getD 0 = IntKind.i64.wrap (smF f j a)
  | 0, a => by simp only [prS, aget, smF];exact wrap_zero.symm
  | j + 1, a => by
    simp only [prS]
    rw [aget_aput, smF_succ]
    split
    · rename_i h
      subst h
      rw [if_pos rfl, Option.getD_some, prS_get f j, wrap_add]
    · rename_i h
      rw [if_neg (fun he => h he.symm), prS_get f j, Int.add_zero]
theorem prO_mem {m : MPz} {ks : Array Int} {p : PW} : ∀ {j : Nat}, p ∈ prO m ks j ↔ ∃ i, i < j∧p = (ks[i]!, (aget m ks[i]!).getD 0)∧p.2 ≠ 0
  | 0 => by simp [prO]
  | j + 1 => by
    rw [prO, List.mem_append, prO_mem (j := j)]
    constructor
    · rintro (⟨i, hi, h1, h2⟩ | h)
      · exact ⟨i, by omega, h1, h2⟩
      · split at h
        · rename_i hne
          rcases List.mem_singleton.1 h with rfl
          exact ⟨j, by omega, rfl, by simpa using hne⟩
        · cases h
    · rintro ⟨i, hi, h1, h2⟩
      by_cases hij : i = j
      · subst hij
        right
        rw [h1] at h2
        rw [if_pos (by simpa using h2), h1]
        exact List.mem_singleton.2 rfl
      · exact .inl ⟨i, by omega, h1, h2⟩
theorem prO_sort {m : MPz} {ks : Array Int} {n : Nat} (hk : ∀ i j, i < j → j < n → ks[i]! < ks[j]!) : ∀ {j : Nat}, j ≤ n → (prO m ks j).Pairwise fun x y => x.1 < y.1
  | 0, _ => List.Pairwise.nil
  | j + 1, hj => by
    rw [prO]
    refine List.pairwise_append.2 ⟨prO_sort hk (by omega), ?_, fun x hx y hy => ?_⟩
    · split
      · exact List.pairwise_singleton ..
      · exact List.Pairwise.nil
    · obtain ⟨i, hi, rfl, _⟩ := prO_mem.1 hx
      split at hy
      · rcases List.mem_singleton.1 hy with rfl
        exact hk i j hi (by omega)
      · cases hy
theorem ksort_spec {m : MPz} (hn : (m.map (·.1)).Nodup) : (∀ i j, i < j → j < (ksort m).size → (ksort m)[i]! < (ksort m)[j]!)∧∀ a, a ∈ m.map (·.1) ↔ ∃ i, i < (ksort m).size∧(ksort m)[i]! = a := by
  have hs := List.pairwise_mergeSort (le := fun (x y : Int) => decide (x ≤ y)) (fun a b c h1 h2 => by simp at *;omega) (fun a b => by simp;omega) (m.map (·.1))
  have hp := List.mergeSort_perm (m.map (·.1)) (fun (x y : Int) => decide (x ≤ y))
  have hnd := hp.nodup_iff.2 hn
  have hl : (ksort m).toList = (m.map (·.1)).mergeSort (fun x y => decide (x ≤ y)) := by simp [ksort, sortA]
  have hsz : (ksort m).size = ((m.map (·.1)).mergeSort (fun x y => decide (x ≤ y))).length := by rw [← hl, Array.length_toList]
  have hg : ∀ i (h : i < (ksort m).size), (ksort m)[i]! = ((m.map (·.1)).mergeSort (fun x y => decide (x ≤ y)))[i]'(hsz ▸ h) := fun i h => by
    rw [getElem!_pos _ i h]
    simp [← hl]
  constructor
  · intro i j hij hj
    rw [hg i (by omega), hg j hj]
    have h1 := List.pairwise_iff_getElem.1 hs i j (by omega) (by omega) hij
    have h2 := List.pairwise_iff_getElem.1 hnd i j (by omega) (by omega) hij
    simp at h1
    omega
  · intro a
    rw [← hp.mem_iff, List.mem_iff_getElem]
    constructor
    · rintro ⟨i, hi, rfl⟩;exact ⟨i, by omega, hg i (by omega)⟩
    · rintro ⟨i, hi, rfl⟩;exact ⟨i, by omega, (hg i hi).symm⟩
namespace T
def sm (l : List PW) (a : Int) : Int := (l.map fun p => if p.1 = a then p.2 else 0).sum
theorem sm_append (l m : List PW) (a : Int) : sm (l ++ m) a = sm l a + sm m a := by simp [sm]
theorem sm_f (l : List PW) (a : Int) : smF (fun j => l.getD j (0, 0)) l.length a = sm l a := by
  unfold smF sm
  congr 1
  apply List.ext_getElem (by simp)
  intro i h1 h2
  simp only [List.length_map] at h2
  simp [List.getElem?_eq_getElem h2]
theorem prod_sort (l : List PW) : (prod l).Pairwise fun x y => x.1 < y.1 := by
  unfold prod prodL
  have h := ksort_spec (prS_keys (fun j => l.getD j (0, 0)) l.length).1
  exact prO_sort (n := (ksort (prS (fun j => l.getD j (0, 0)) l.length).1).size) h.1 (by rw [ksort_size];exact Nat.le_refl _)
theorem sm_zero {l : List PW} {a : Int} (h : ∀ p ∈ l, p.1 ≠ a) : sm l a = 0 := by
  induction l with
  | nil => rfl
  | cons x l ih =>
    have h1 := h x (List.mem_cons_self ..)
    have h2 := ih fun p hp => h p (List.mem_cons_of_mem _ hp)
    show (if x.1 = a then x.2 else 0) + sm l a = 0
    rw [if_neg h1, h2];rfl
theorem prod_mem {l : List PW} {p : PW} : p ∈ prod l ↔ p.2 = IntKind.i64.wrap (sm l p.1)∧p.2 ≠ 0 := by
  unfold prod prodL
  have hk := prS_keys (fun j => l.getD j (0, 0)) l.length
  have h := ksort_spec hk.1
  rw [prO_mem]
  constructor
  · rintro ⟨i, hi, h1, h2⟩
    refine ⟨?_, h2⟩
    rw [h1, prS_get, sm_f]
  · rintro ⟨h1, h2⟩
    have h3 : ∃ i, i < l.length∧(l.getD i (0, 0)).1 = p.1 := by
      apply Classical.byContradiction
      intro hno
      have : sm l p.1 = 0 := sm_zero fun q hq he => by
        obtain ⟨i, hi, rfl⟩ := List.mem_iff_getElem.1 hq
        exact hno ⟨i, hi, by rw [List.getD_eq_getElem?_getD, List.getElem?_eq_getElem hi];exact he⟩
      rw [this, wrap_zero] at h1
      exact h2 h1
    obtain ⟨i, hi, he⟩ := (h.2 p.1).1 ((hk.2 p.1).2 h3)
    refine ⟨i, by rw [ksort_size] at hi;exact hi, ?_, h2⟩
    rw [he, prS_get, sm_f, ← h1]
theorem sorted_ext : ∀ {l m : List PW}, l.Pairwise (fun x y => x.1 < y.1) → m.Pairwise (fun x y => x.1 < y.1) → (∀ p, p ∈ l ↔ p ∈ m) → l = m
  | [], [], _, _, _ => rfl
  | [], y::m, _, _, h => by have := (h y).2 (List.mem_cons_self ..);cases this
  | x::l, [], _, _, h => by have := (h x).1 (List.mem_cons_self ..);cases this
  | x::l, y::m, hl, hm, h => by
    obtain ⟨l1, l2⟩ := List.pairwise_cons.1 hl
    obtain ⟨m1, m2⟩ := List.pairwise_cons.1 hm
    have hxy : x = y := by
      rcases List.mem_cons.1 ((h x).1 (List.mem_cons_self ..)) with hx | hx
      · exact hx
      · rcases List.mem_cons.1 ((h y).2 (List.mem_cons_self ..)) with hy | hy
        · exact hy.symm
        · have := l1 y hy;have := m1 x hx;omega
    subst hxy
    rw [sorted_ext l2 m2 fun p => ?_]
    constructor
    · intro hp
      rcases List.mem_cons.1 ((h p).1 (List.mem_cons_of_mem _ hp)) with he | he
      · subst he;have := l1 p hp;omega
      · exact he
    · intro hp
      rcases List.mem_cons.1 ((h p).2 (List.mem_cons_of_mem _ hp)) with he | he
      · subst he;have := m1 p hp;omega
      · exact he
theorem prod_congr {l m : List PW} (h : ∀ a, IntKind.i64.wrap (sm l a) = IntKind.i64.wrap (sm m a)) : prod l = prod m :=
  sorted_ext (prod_sort l) (prod_sort m) fun p => by rw [prod_mem, prod_mem, h]
theorem sm_sorted : ∀ {l : List PW}, l.Pairwise (fun x y => x.1 < y.1) → ∀ p ∈ l, sm l p.1 = p.2
  | x::l, h, p, hp => by
    obtain ⟨h1, h2⟩ := List.pairwise_cons.1 h
    show (if x.1 = p.1 then x.2 else 0) + sm l p.1 = p.2
    rcases List.mem_cons.1 hp with rfl | hp
    · rw [if_pos rfl, sm_zero fun q hq => by have := h1 q hq;omega];omega
    · rw [if_neg (by have := h1 p hp;omega), sm_sorted h2 p hp];omega
theorem sm_prod (l : List PW) (a : Int) : sm (prod l) a = IntKind.i64.wrap (sm l a) := by
  by_cases h : ∃ p ∈ prod l, p.1 = a
  · obtain ⟨p, hp, rfl⟩ := h
    rw [sm_sorted (prod_sort l) p hp]
    exact (prod_mem.1 hp).1
  · rw [sm_zero fun p hp he => h ⟨p, hp, he⟩]
    apply Classical.byContradiction
    intro hne
    exact h ⟨(a, IntKind.i64.wrap (sm l a)), prod_mem.2 ⟨rfl, fun he => hne he.symm⟩, rfl⟩
theorem wrap_wrap (x : Int) : IntKind.i64.wrap (IntKind.i64.wrap x) = IntKind.i64.wrap x := by rw [wi64, wi64];omega
theorem prod_prod (l : List PW) : prod (prod l) = prod l := prod_congr fun a => by rw [sm_prod, wrap_wrap]
theorem prod_nil : prod [] = [] := rfl
end T
end Go.Proofs.YtehbmooelcjfoaaDoor
namespace Go.Proofs.YtehbmooelcjfoaaDoor
open Vc Go
set_option linter.unusedVariables false
set_option linter.unusedSimpArgs false
theorem powR_app (a b : List PW) : powR (a ++ b) = powR a ++ powR b := by simp [powR]
theorem powR_one (l : List PW) : ∀ v ∈ powR l, v.oneCell' = true := by
  intro v hv
  simp only [powR, List.mem_flatMap] at hv
  obtain ⟨p, _, hp⟩ := hv
  rcases List.mem_cons.1 hp with rfl | hp
  · rfl
  · rcases List.mem_singleton.1 hp with rfl;rfl
theorem cells_snoc {R : RO} {a o : Nat} {l m : List Value} (h : R.cells a o l) (h' : R.cells a (o + l.length) m) : R.cells a o (l ++ m) := by
  obtain ⟨c, t, fr, h1, h2⟩ := h
  obtain ⟨c', t', fr', h1', h2'⟩ := h'
  rw [h1] at h1';cases h1'
  refine ⟨c, t, fr, h1, ?_⟩
  rw [List.length_append, List.take_add, h2, List.drop_drop, h2']
theorem cells_pows {R : RO} {B O : Nat} {f : Nat → PW} : ∀ {n : Nat}, 0 < n → (∀ j, j < n → R.cells B (O + j * 2) [vu (f j).1, vi (f j).2]) → R.cells B O (powR ((List.range n).map f))
  | 1, _, h => by simpa [powR] using h 0 (by omega)
  | n + 2, _, h => by
    have ih := cells_pows (n := n + 1) (by omega) fun j hj => h j (by omega)
    rw [List.range_succ, List.map_append, powR_app]
    refine cells_snoc ih ?_
    rw [powR_len, List.length_map, List.length_range]
    simpa [powR] using h (n + 1) (by omega)
theorem src_pows {R : RO} {H : Hp} {lv : Option Addr} {ln lc LB LO : Nat} {f : Nat → PW} (hx : ∀ j, j < ln → lv = some ⟨LB, LO, none⟩∧R.cells LB (LO + j * 2) [vu (f j).1, vi (f j).2]) :
    Src R H 2 ln (.slice lv ln lc) (powR ((List.range ln).map f)) := by
  refine ⟨by rw [powR_len, List.length_map, List.length_range], ?_⟩
  rcases Nat.eq_zero_or_pos ln with h | h
  · subst h;exact .inr (.inl ⟨rfl, lv, lc, rfl⟩)
  · refine .inr (.inr ⟨LB, LO, lc, ?_, .inr (cells_pows h fun j hj => (hx j hj).2)⟩)
    rw [(hx 0 h).1]
theorem grow_some (n : Nat) (R : RO) (h0 : 0 < n) (hn : n ≤ 1000000) : GivesX Tryd.prog 47 [.slice none 0 0, vi (n : Int)] R [] ({y : Nat×Nat // n ≤ y.2∧y.2 ≤ maxLen}) (fun y => (slA y.1.1 0 y.1.2, [some (y.1.1, .row [] 58 (y.1.2 * 2))])) :=
  Does.of_wp_eq (VC := ((decide ((n : Int) < 0)) = false∧(NW .i64 ((n : Int) - 0))∧(decide (((n : Int) - 0) > 0)) = true∧((0 : Int) ≤ 0∧(0 : Int) ≤ 0)∧(PrimOK Tryd.prog (.app 27 3 27 (.slice none 0 0) (vi ((n : Int) - 0))) R [] (Nat×Nat) (fun y0 => n ≤ y0.2∧y0.2 ≤ maxLen) (fun y0 => (slA y0.1 n y0.2, [some (y0.1, .row [] 58 (y0.2 * 2))])))∧∀ y0 : Nat×Nat, (n ≤ y0.2∧y0.2 ≤ maxLen) → ((0 : Int) ≤ 0∧(0 : Int) ≤ ((y0.2 : Nat) : Int))∧GX R ({y : Nat×Nat // n ≤ y.2∧y.2 ≤ maxLen}) (fun y => (slA y.1.1 0 y.1.2, [some (y.1.1, .row [] 58 (y.1.2 * 2))])) (.ret (slA y0.1 0 y0.2)) R [some (y0.1, .row [] 58 (y0.2 * 2))])) (ops [.d, .d, .d] (.br 6 false (ops [.d, .d, .d, .d, .d, .d, .nw, .d, .d, .d] (.br 16 true (ops [.d, .d, .d, .sl0, .d] (.opp [] [0] (Nat×Nat) (fun y0 => n ≤ y0.2∧y0.2 ≤ maxLen) (fun y0 => (slA y0.1 n y0.2, [some (y0.1, .row [] 58 (y0.2 * 2))])) (fun y0 => (ops [.d, .d, .sl0, .d, .d, .d] (.fin [0] []))))))))) Tryd.func47 (by kernel_rfl) (by kernel_rfl)
    (⟨(decide_eq_false (by omega)), ⟨(nwI (by omega) (by omega)), ⟨(decide_eq_true (by omega)), ⟨(by omega), ⟨(by rw [Int.sub_zero];exact app0_ok (e := 58) (kk := .i64) (by' := 16) (zc := [vu 0, vi 0]) (n := n) (by kernel_rfl) (by kernel_rfl) (by kernel_rfl) rfl (by omega) (by omega) (by omega)), fun y0 qy0 => ⟨(by omega), ⟨rfl, ⟨y0, qy0⟩, (by rfl), (by rfl)⟩⟩⟩⟩⟩⟩⟩)
theorem grow_none  (R : RO)  : Gives Tryd.prog 47 [.slice none 0 0, vi 0] R [] (.ret (.slice none 0 0)) [] :=
  Does.of_wp_eq (VC := (GQ R (.ret (.slice none 0 0)) [] (.ret (.slice none 0 0)) R [])) (ops [.d, .d, .d, .d, .d, .d, .d, .d, .d, .d, .d, .d, .d, .d, .d] (.fin [] [])) Tryd.func47 (by kernel_rfl) (by kernel_rfl)
    (⟨rfl, (by rfl), (by rfl)⟩)
theorem Does.pad1 {P : Program} {f : FuncId} {args : List Value} {R : RO} {H : Hp} {Q : Out → RO → Hp → Prop} (h : Does P f args R H Q) : Does P f args R H fun o G B => ∃ B', B = B' ++ [none]∧Q o G B' :=
  fun Rx w hR hs => (h Rx w hR hs).mono fun e w' ⟨o, G, B, Rx', h1, h2, h3, h4⟩ => ⟨o, G, B ++ [none], Rx', h1, ⟨B, rfl, h2⟩, h3,
    ⟨h4.ro, fun i a C hi => h4.own i a C (Hp.at_pad (k := 1) hi), fun i a C hi => h4.off i a C (Hp.at_pad (k := 1) hi), fun i j a C D hi hj => h4.one i j a C D (Hp.at_pad (k := 1) hi) (Hp.at_pad (k := 1) hj), h4.os, h4.tape, h4.out⟩⟩
theorem grow_ok (n : Nat) (R : RO) (hn : n ≤ 1000000) : GivesX Tryd.prog 47 [.slice none 0 0, vi (n : Int)] R [] {y : Option Nat×Nat // n ≤ y.2∧y.2 ≤ maxLen∧(y.1 = none → y.2 = 0)} (fun y => (gsv y.1.1 0 y.1.2, [gsb y.1.1 [] 58 (y.1.2 * 2)])) := by
  rcases Nat.eq_zero_or_pos n with h | h
  · subst h
    exact Does.mono (Does.pad1 (grow_none R)) (by
      rintro o G B hle ⟨B', rfl, rfl, rfl, rfl⟩
      exact ⟨rfl, ⟨(none, 0), by simp [maxLen]⟩, rfl, rfl⟩)
  · exact (grow_some n R h hn).mono (by
      rintro o G B hle ⟨rfl, ⟨⟨a, cap⟩, h1, h2⟩, rfl, rfl⟩
      exact ⟨rfl, ⟨(some a, cap), h1, h2, by simp⟩, rfl, rfl⟩)
theorem concat_own (A1 : Nat) (pa : Option Addr) (pm pc PB PO : Nat) (pw : Nat → PW) (lv : Option Addr) (ln lc LB LO : Nat) (f : Nat → PW) (R : RO) (hn : pm + ln ≤ 1000000) (hp : ∀ j, j < pm → pa = some ⟨PB, PO, none⟩∧R.cells PB (PO + j * 2) [vu (pw j).1, vi (pw j).2]) (hx : ∀ j, j < ln → lv = some ⟨LB, LO, none⟩∧R.cells LB (LO + j * 2) [vu (f j).1, vi (f j).2]) : GivesX Tryd.prog 39 [slA A1 2 2] R [some (A1, .row [.slice pa pm pc, .slice lv ln lc] 27 2)] ({y : Option Nat×Nat // pm + ln ≤ y.2∧y.2 ≤ maxLen∧(y.1 = none → y.2 = 0)}) (fun y => (gsv y.1.1 (pm + ln) y.1.2, [some (A1, .row [.slice pa pm pc, .slice lv ln lc] 27 2), gsb y.1.1 (powR ((List.range pm).map pw ++ (List.range ln).map f)) 58 (y.1.2 * 2)])) :=
  Does.of_wp_eq (VC := (let z1 := ((0 + (pm : Int)) + (ln : Int));let z0 := ([] ++ (powR ((List.range pm).map pw)));(A1 = A1)∧(NW .i64 (0 + (pm : Int)))∧(decide ((0 + (pm : Int)) < 0)) = false∧(A1 = A1)∧(NW .i64 z1)∧(decide (z1 < 0)) = false∧(GivesX Tryd.prog 47 [.slice none 0 0, vi z1] R [] ({y : Option Nat×Nat // pm + ln ≤ y.2∧y.2 ≤ maxLen∧(y.1 = none → y.2 = 0)}) (fun y0 => (gsv y0.1.1 0 y0.1.2, [gsb y0.1.1 [] 58 (y0.1.2 * 2)])))∧∀ y0 : {y : Option Nat×Nat // pm + ln ≤ y.2∧y.2 ≤ maxLen∧(y.1 = none → y.2 = 0)}, (A1 = A1)∧(PrimOK Tryd.prog (.app 27 27 27 (gsv y0.1.1 0 y0.1.2) (.slice pa pm pc)) R [gsb y0.1.1 [] 58 (y0.1.2 * 2)] (Option Nat×Nat) (fun y1 => 0 + pm ≤ y1.2∧y1.2 ≤ maxLen∧(y1.1 = none → y1.2 = 0∧y0.1.1 = none)) (fun y1 => (gsv y1.1 (0 + pm) y1.2, [gsb y1.1 z0 58 (y1.2 * 2)])))∧∀ y1 : Option Nat×Nat, (0 + pm ≤ y1.2∧y1.2 ≤ maxLen∧(y1.1 = none → y1.2 = 0∧y0.1.1 = none)) → (A1 = A1)∧(PrimOK Tryd.prog (.app 27 27 27 (gsv y1.1 (0 + pm) y1.2) (.slice lv ln lc)) R [gsb y1.1 z0 58 (y1.2 * 2)] (Option Nat×Nat) (fun y2 => (0 + pm) + ln ≤ y2.2∧y2.2 ≤ maxLen∧(y2.1 = none → y2.2 = 0∧y1.1 = none)) (fun y2 => (gsv y2.1 ((0 + pm) + ln) y2.2, [gsb y2.1 (z0 ++ (powR ((List.range ln).map f))) 58 (y2.2 * 2)])))∧∀ y2 : Option Nat×Nat, ((0 + pm) + ln ≤ y2.2∧y2.2 ≤ maxLen∧(y2.1 = none → y2.2 = 0∧y1.1 = none)) → GX R ({y : Option Nat×Nat // pm + ln ≤ y.2∧y.2 ≤ maxLen∧(y.1 = none → y.2 = 0)}) (fun y => (gsv y.1.1 (pm + ln) y.1.2, [some (A1, .row [.slice pa pm pc, .slice lv ln lc] 27 2), gsb y.1.1 (powR ((List.range pm).map pw ++ (List.range ln).map f)) 58 (y.1.2 * 2)])) (.ret (gsv y2.1 ((0 + pm) + ln) y2.2)) R [some (A1, .row [.slice pa pm pc, .slice lv ln lc] 27 2), gsb y2.1 (z0 ++ (powR ((List.range ln).map f))) 58 (y2.2 * 2)])) (ops [.d, .d, .d, .d, .d] (.un 3 (ops [.d, .d, .p 0, .d, .d, .d, .d, .nw, .d, .d, .d] (.br 20 false (ops [.d, .d, .d, .d, .p 0, .d, .d, .d, .d, .nw, .d, .d, .d] (.br 20 false (ops [.d, .d, .d, .d] (.opx [] [1] ({y : Option Nat×Nat // pm + ln ≤ y.2∧y.2 ≤ maxLen∧(y.1 = none → y.2 = 0)}) (fun y0 => (gsv y0.1.1 0 y0.1.2, [gsb y0.1.1 [] 58 (y0.1.2 * 2)])) (fun y0 => (ops [.d, .d, .d, .d] (.un 3 (ops [.d, .d, .p 0, .d, .d, .d] (.opp [1] [] (Option Nat×Nat) (fun y1 => 0 + pm ≤ y1.2∧y1.2 ≤ maxLen∧(y1.1 = none → y1.2 = 0∧y0.1.1 = none)) (fun y1 => (gsv y1.1 (0 + pm) y1.2, [gsb y1.1 ([] ++ (powR ((List.range pm).map pw))) 58 (y1.2 * 2)])) (fun y1 => (ops [.d, .d, .d, .d, .d, .p 0, .d, .d, .d] (.opp [1] [] (Option Nat×Nat) (fun y2 => (0 + pm) + ln ≤ y2.2∧y2.2 ≤ maxLen∧(y2.1 = none → y2.2 = 0∧y1.1 = none)) (fun y2 => (gsv y2.1 ((0 + pm) + ln) y2.2, [gsb y2.1 (([] ++ (powR ((List.range pm).map pw))) ++ (powR ((List.range ln).map f))) 58 (y2.2 * 2)])) (fun y2 => (ops [.d, .d, .d, .d, .d, .d] (.fin [0, 1] []))))))))))))))))))) Tryd.func39 (by kernel_rfl) (by kernel_rfl)
    (⟨rfl, ⟨(nwI (by omega) (by omega)), ⟨(decide_eq_false (by omega)), ⟨rfl, ⟨(nwI (by omega) (by omega)), ⟨(decide_eq_false (by omega)), ⟨(by have h9 : (0 + (pm : Int)) + (ln : Int) = (((pm + ln : Nat) : Nat) : Int) := (by omega);rw [h9];exact grow_ok (pm + ln) R (by omega)), fun y0 => ⟨rfl, ⟨(app_ok (e := 58) (e' := 58) (z := 2) (by' := 16) (zc := [vu 0, vi 0]) (b := y0.1.1) (len := 0) (cap := y0.1.2) (n := pm) (cs := []) (new := powR ((List.range pm).map pw)) (by kernel_rfl) (.inl (by kernel_rfl)) (by kernel_rfl) rfl rfl (Nat.zero_le _) y0.2.2.1 y0.2.2.2 (src_pows hp) (powR_one _) (by omega) (by simp only [maxLen];omega)), fun y1 qy1 => ⟨rfl, ⟨(app_ok (e := 58) (e' := 58) (z := 2) (by' := 16) (zc := [vu 0, vi 0]) (b := y1.1) (len := (0 + pm)) (cap := y1.2) (n := ln) (cs := [] ++ (powR ((List.range pm).map pw))) (new := powR ((List.range ln).map f)) (by kernel_rfl) (.inl (by kernel_rfl)) (by kernel_rfl) rfl (by rw [List.nil_append, powR_len, List.length_map, List.length_range, Nat.zero_add]) qy1.1 qy1.2.1 (fun h => (qy1.2.2 h).1) (src_pows hx) (powR_one _) (by omega) (by simp only [maxLen];omega)), fun y2 qy2 => ⟨rfl, ⟨y2, (by have := qy2;omega), qy2.2.1, fun h => (qy2.2.2 h).1⟩, (by exact congrArg (fun z => Out.ret (gsv _ z _)) (by omega)), (by exact congrArg (fun z => [_, gsb _ z 58 _]) (by rw [powR_app, List.nil_append]))⟩⟩⟩⟩⟩⟩⟩⟩⟩⟩⟩⟩)
def plL (b : Option Nat) (cap : Nat) (l : List PW) : L := ⟨0, 0, .empty, none, 0, 0, 0, 0, fun j => j.elim0, b.map fun a => ⟨a, 0, none⟩, l.length, cap, b.getD 0, 0, fun j => l.getD j (0, 0)⟩
theorem plL_pl (b : Option Nat) (cap : Nat) (l : List PW) : (plL b cap l).pl = l := by
  apply List.ext_getElem (by simp [L.pl, plL])
  intro i h1 h2
  simp [L.pl, plL, List.getElem?_eq_getElem h2]
theorem powR_drop : ∀ (l : List PW) (j : Nat), (powR l).drop (j * 2) = powR (l.drop j)
  | l, 0 => by simp
  | [], j + 1 => by simp [powR]
  | p::l, j + 1 => by
    rw [show (j + 1) * 2 = j * 2 + 2 by omega, ← List.drop_drop, List.drop_succ_cons, ← powR_drop l j]
    rw [List.drop_drop, Nat.add_comm, ← List.drop_drop]
    rfl
theorem powR_at {l : List PW} {j : Nat} (h : j < l.length) : ((powR l).drop (j * 2)).take 2 = [vu l[j].1, vi l[j].2] := by
  rw [powR_drop, List.drop_eq_getElem_cons h]
  rfl
theorem plL_ok {G : RO} {b : Option Nat} {cap : Nat} {l : List PW} (h : l.length ≤ cap) (hc : cap ≤ maxLen) (hb : b = none → cap = 0) (hcell : ∀ a, b = some a → G.cells a 0 (powR l)) : (plL b cap l).ok G := by
  rw [L.ok_eq]
  refine ⟨⟨Nat.le_refl 0, by simp [plL, maxLen], h, hc⟩, fun j hj => absurd hj (by simp [plL]), fun j hj => ?_⟩
  have hj : j < l.length := hj
  cases b with
  | none => have := hb rfl;omega
  | some a =>
    refine ⟨rfl, ?_⟩
    have := RO.cells_sub (i := j * 2) (hcell a rfl) (l := [vu (l.getD j (0, 0)).1, vi (l.getD j (0, 0)).2]) (by
      show List.take 2 _ = _
      rw [powR_at hj];simp [List.getElem?_eq_getElem hj])
    exact this
theorem concat_ok (A1 : Nat) (pa : Option Addr) (pm pc PB PO : Nat) (pw : Nat → PW) (lv : Option Addr) (ln lc LB LO : Nat) (f : Nat → PW) (R : RO) (hn : pm + ln ≤ 1000000) (hp : ∀ j, j < pm → pa = some ⟨PB, PO, none⟩∧R.cells PB (PO + j * 2) [vu (pw j).1, vi (pw j).2]) (hx : ∀ j, j < ln → lv = some ⟨LB, LO, none⟩∧R.cells LB (LO + j * 2) [vu (f j).1, vi (f j).2]) : Does Tryd.prog 39 [slA A1 2 2] R [some (A1, .row [.slice pa pm pc, .slice lv ln lc] 27 2)]
    (fun r G B => ∃ z : L, (z.ok G∧z.pl = (List.range pm).map pw ++ (List.range ln).map f)∧r = .ret (.slice z.pa z.m z.pc)∧B = []) :=
  (Does.freeze (X := {y : Option Nat×Nat // pm + ln ≤ y.2∧y.2 ≤ maxLen∧(y.1 = none → y.2 = 0)}) (q := fun _ _ => True) (g := fun y => (gsv y.1.1 (pm + ln) y.1.2, [some (A1, .row [.slice pa pm pc, .slice lv ln lc] 27 2), gsb y.1.1 (powR ((List.range pm).map pw ++ (List.range ln).map f)) 58 (y.1.2 * 2)]))
    ((concat_own A1 pa pm pc PB PO pw lv ln lc LB LO f R hn hp hx).mono (by rintro o G B hle ⟨_, y, h1, h2⟩;exact ⟨y, trivial, h1, h2⟩))).mono (by
    rintro o G B hle ⟨y, G0, h0, -, hc, rfl, rfl⟩
    have hl : ((List.range pm).map pw ++ (List.range ln).map f).length = pm + ln := by simp
    refine ⟨plL y.1.1 y.1.2 ((List.range pm).map pw ++ (List.range ln).map f), ⟨plL_ok (by rw [hl];exact y.2.1) y.2.2.1 y.2.2.2 fun a ha => hc 1 a _ 58 _ (by show Hp.at [_, gsb y.1.1 _ 58 _] 1 = _;rw [ha];rfl), plL_pl _ _ _⟩, ?_, rfl⟩
    exact congrArg (fun z => Out.ret (gsv y.1.1 z y.1.2)) hl.symm)
theorem prodL_len (f : Nat → PW) (n : Nat) : (prodL f n).length ≤ n := Nat.le_trans (prO_len _ _ _) (prS_len f n)
theorem sorted_none (bx M c : Nat) (R : RO) : GivesX Tryd.prog 48 [.func (.func 60) #[] #[ptA bx]] R [some (bx, .row [.map (some M)] 89 1), some (M, .map (ents (Value.int .u32) (Value.int .i64) []) c)] ({n : Nat // n ≤ maxLen}) (fun y => (.slice none 0 y.1, [some (bx, .row [.map (some M)] 89 1), some (M, .map (ents (Value.int .u32) (Value.int .i64) []) c), none])) :=
  (sorted_ok bx M c [] R (Stm.nil c) (by simp)).mono (by
    rintro o G B hle ⟨rfl, ⟨⟨b, cap⟩, h1, h2, h3⟩, rfl, rfl⟩
    cases b with
    | none => exact ⟨rfl, ⟨cap, h3⟩, rfl, rfl⟩
    | some a => have := h1.2 rfl;cases this)
theorem product_nil (lv : Option Addr) (lc : Nat) (R : RO)  : Gives Tryd.prog 40 [.slice lv 0 lc] R [] (.ret (.slice none 0 0)) [] :=
  Does.of_wp_eq (VC := (∀ a0 : Nat, (GivesX Tryd.prog 49 [.map (some a0)] R [] (Nat) (fun w1 => (.func (.func 60) #[] #[ptA w1], [some (w1, .row [.map (some a0)] 89 1)])))∧∀ w1 : Nat, (GivesX Tryd.prog 48 [.func (.func 60) #[] #[ptA w1]] R [some (w1, .row [.map (some a0)] 89 1), some (a0, .map (ents (Value.int .u32) (Value.int .i64) []) 0)] ({n : Nat // n ≤ maxLen}) (fun w2 => (.slice none 0 w2.1, [some (w1, .row [.map (some a0)] 89 1), some (a0, .map (ents (Value.int .u32) (Value.int .i64) []) 0), none])))∧∀ w2 : {n : Nat // n ≤ maxLen}, GQ R (.ret (.slice none 0 0)) [] (.ret (.slice none 0 0)) R [])) (ops [.d] (.opn 0 (fun a0 => (ops [.d, .d, .d, .d] (.un 1 (ops [.d, .d, .d] (.opx [] [1] (Nat) (fun w1 => (.func (.func 60) #[] #[ptA w1], [some (w1, .row [.map (some a0)] 89 1)])) (fun w1 => (.opx [1, 0] [2] ({n : Nat // n ≤ maxLen}) (fun w2 => (.slice none 0 w2.1, [some (w1, .row [.map (some a0)] 89 1), some (a0, .map (ents (Value.int .u32) (Value.int .i64) []) 0), none])) (fun w2 => (ops [.d, .d] (.un 1 (ops [.d, .d, .d] (.fin [] [])))))))))))))) Tryd.func40 (by kernel_rfl) (by kernel_rfl)
    (fun a0 => ⟨(keys_ok a0 R), fun w1 => ⟨(sorted_none w1 a0 0 R), fun w2 => ⟨rfl, (by rfl), (by rfl)⟩⟩⟩)
theorem product_G (lv : Option Addr) (ln lc LB LO : Nat) (f : Nat → PW) (R : RO) (hn : ln ≤ 1000000) (hx : ∀ j, j < ln → lv = some ⟨LB, LO, none⟩∧R.cells LB (LO + j * 2) [vu (f j).1, vi (f j).2]) : Does Tryd.prog 40 [.slice lv ln lc] R [] (fun r G B => ∃ z : L, (z.ok G∧z.pl = T.prod ((List.range ln).map f))∧r = .ret (.slice z.pa z.m z.pc)∧B = []) := by
  have hp : prodL f ln = T.prod ((List.range ln).map f) := prod_of rfl f fun _ _ => rfl
  rcases Nat.eq_zero_or_pos ln with h | h
  · subst h
    refine (product_nil lv lc R).mono ?_
    rintro o G B hle ⟨rfl, rfl, rfl⟩
    exact ⟨plL none 0 [], ⟨plL_ok (Nat.le_refl _) (by simp [maxLen]) (fun _ => rfl) (by simp), by rw [plL_pl, ← hp];rfl⟩, rfl, rfl⟩
  · refine (Does.freeze (X := {y : Option Nat×Nat // (prodL f ln).length ≤ y.2∧y.2 ≤ maxLen∧(y.1 = none → y.2 = 0)}) (q := fun _ _ => True) (g := fun y => (gsv y.1.1 (prodL f ln).length y.1.2, [gsb y.1.1 (powR (prodL f ln)) 58 (y.1.2 * 2)]))
      ((product_ok lv ln lc LB LO f R hn h hx).mono (by rintro o G B hle ⟨_, y, h1, h2⟩;exact ⟨y, trivial, h1, h2⟩))).mono ?_
    rintro o G B hle ⟨y, G0, h0, -, hc, rfl, rfl⟩
    exact ⟨plL y.1.1 y.1.2 (prodL f ln), ⟨plL_ok y.2.1 y.2.2.1 y.2.2.2 fun a ha => hc 0 a _ 58 _ (by show Hp.at [gsb y.1.1 _ 58 _] 0 = _;rw [ha];rfl), by rw [plL_pl, hp]⟩, rfl, rfl⟩
theorem hx_mono {R S : RO} (h : R.le S) {lv : Option Addr} {ln LB LO : Nat} {f : Nat → PW} (hx : ∀ j, j < ln → lv = some ⟨LB, LO, none⟩∧R.cells LB (LO + j * 2) [vu (f j).1, vi (f j).2]) :
    ∀ j, j < ln → lv = some ⟨LB, LO, none⟩∧S.cells LB (LO + j * 2) [vu (f j).1, vi (f j).2] := fun j hj => ⟨(hx j hj).1, RO.cells_mono h (hx j hj).2⟩
def pwv (b : Option Nat) (t z : L) : Value := match b with
  | none => t.v
  | some a => .agg #[vi 4, vu 0, .string .empty, slA a 1 1, .slice z.pa z.m z.pc]
noncomputable def pwT (b : Option Nat) (t z : L) : T := match b with
  | none => t.t
  | some _ => .mk 4 0 .empty [t.t] z.pl
theorem pl_nil {z : L} (h : ((z.m : Int) == 0) = true) : z.pl = [] := by
  have : z.m = 0 := by have := eq_of_beq h;omega
  simp [L.pl, this]
theorem pl_ne {z : L} (h : ((z.m : Int) == 0) = false) : z.pl ≠ [] := by
  have h1 : z.m ≠ 0 := by intro h0;rw [h0] at h;cases h
  intro h2
  have := congrArg List.length h2
  simp [L.pl] at this
  exact h1 this
theorem pow_4 {y w : L} {l : List PW} (h : y.k = 4) (hn : 0 < y.n) (e4 : w.pl = T.prod (y.pl ++ l)) :
    T.pow y.t l = if w.pl = [] then (y.kid 0).t else .mk 4 0 .empty [(y.kid 0).t] w.pl := by
  have e1 : y.t.k = 4 := by rw [L.t_eq];exact h
  have e2 : y.t.ps = y.pl := by rw [L.t_eq];rfl
  have e3 : y.t.xs.headD (T.word .empty) = (y.kid 0).t := by
    rw [L.t_eq]
    obtain ⟨n, hn'⟩ : ∃ n, y.n = n + 1 := ⟨y.n - 1, by omega⟩
    show List.headD (List.map _ (List.range y.n)) _ = _
    rw [hn', List.range_succ_eq_map];rfl
  unfold T.pow
  rw [if_pos e1, e2, e3, ← e4]
theorem pow_n {y w : L} {l : List PW} (h : y.k ≠ 4) (h2 : w.pl = T.prod l) :
    T.pow y.t l = if w.pl = [] then y.t else .mk 4 0 .empty [y.t] w.pl := by
  have e1 : y.t.k ≠ 4 := by rw [L.t_eq];exact h
  unfold T.pow
  rw [if_neg e1, ← h2]
theorem power_own (y : L) (lv : Option Addr) (ln lc LB LO : Nat) (f : Nat → PW) (R : RO) (hy : y.ok R) (h4 : y.k = 4 → 0 < y.n) (hn : y.m + ln ≤ 1000000) (hx : ∀ j, j < ln → lv = some ⟨LB, LO, none⟩∧R.cells LB (LO + j * 2) [vu (f j).1, vi (f j).2]) : Does Tryd.prog 34 [.agg y.row.toArray, .slice lv ln lc] R [] (fun (r : Out) (G : RO) (B : Hp) => ∃ x : Option Nat×L×L, (x.2.1.ok G∧x.2.2.ok G∧pwT x.1 x.2.1 x.2.2 = T.pow y.t ((List.range ln).map f))∧r = .ret (pwv x.1 x.2.1 x.2.2)∧B = [gsb x.1 x.2.1.row 29 5]) :=
  Does.of_wp_eq (VC := (let z1 := ((List.range ln).map f);let z0 : List Value := [vi ((y.kid 0).k), vu ((y.kid 0).id), .string ((y.kid 0).s), .slice (y.kid 0).aa ((y.kid 0).n) ((y.kid 0).ac), .slice (y.kid 0).pa ((y.kid 0).m) ((y.kid 0).pc)];∀ a0 : Nat, ∀ a1 : Nat, (a0 = a0)∧((y.k == 4) = true → (a0 = a0)∧(y.aa = some ⟨y.AB, y.AO, none⟩∧(0 : Int) ≤ 0∧(0 : Int) < (y.n : Int))∧(R.cells y.AB (y.AO + Int.toNat 0 * 5) z0)∧(a0 = a0)∧∀ a3 : Nat, (Does Tryd.prog 39 [slA a3 2 2] R [some (a3, .row [.slice y.pa y.m y.pc, .slice lv ln lc] 27 2)] (fun r G B => ∃ z4 : L, (z4.ok G∧z4.pl = (List.range y.m).map y.pw ++ (List.range ln).map f)∧r = .ret (.slice z4.pa z4.m z4.pc)∧B = []))∧∀ (z4 : L) (G5 : RO), R.le G5 → (z4.ok G5∧z4.pl = (List.range y.m).map y.pw ++ (List.range ln).map f) → (a0 = a0)∧(Does Tryd.prog 40 [.slice z4.pa z4.m z4.pc] G5 [] (fun r G B => ∃ z6 : L, (z6.ok G∧z6.pl = T.prod (y.pl ++ (List.range ln).map f))∧r = .ret (.slice z6.pa z6.m z6.pc)∧B = []))∧∀ (z6 : L) (G7 : RO), G5.le G7 → (z6.ok G7∧z6.pl = T.prod (y.pl ++ (List.range ln).map f)) → (((z6.m : Int) == 0) = true → (a0 = a0)∧(a1 = a1)∧(a1 = a1)∧(fun (r : Out) (G : RO) (B : Hp) => ∃ x : Option Nat×L×L, (x.2.1.ok G∧x.2.2.ok G∧pwT x.1 x.2.1 x.2.2 = T.pow y.t z1)∧r = .ret (pwv x.1 x.2.1 x.2.2)∧B = [gsb x.1 x.2.1.row 29 5]) (.ret (.agg #[vi ((y.kid 0).k), vu ((y.kid 0).id), .string ((y.kid 0).s), .slice (y.kid 0).aa ((y.kid 0).n) ((y.kid 0).ac), .slice (y.kid 0).pa ((y.kid 0).m) ((y.kid 0).pc)])) G7 [none])∧(((z6.m : Int) == 0) = false → (a0 = a0)∧∀ a9 : Nat, (a1 = a1)∧(a1 = a1)∧(fun (r : Out) (G : RO) (B : Hp) => ∃ x : Option Nat×L×L, (x.2.1.ok G∧x.2.2.ok G∧pwT x.1 x.2.1 x.2.2 = T.pow y.t z1)∧r = .ret (pwv x.1 x.2.1 x.2.2)∧B = [gsb x.1 x.2.1.row 29 5]) (.ret (.agg #[vi 4, vu 0, .string ByteArray.empty, slA a9 1 1, .slice z6.pa z6.m z6.pc])) G7 [some (a9, .row z0 29 5)]))∧((y.k == 4) = false → (Does Tryd.prog 40 [.slice lv ln lc] R [] (fun r G B => ∃ z3 : L, (z3.ok G∧z3.pl = T.prod z1)∧r = .ret (.slice z3.pa z3.m z3.pc)∧B = []))∧∀ (z3 : L) (G4 : RO), R.le G4 → (z3.ok G4∧z3.pl = T.prod z1) → (((z3.m : Int) == 0) = true → (a0 = a0)∧(a1 = a1)∧(a1 = a1)∧(fun (r : Out) (G : RO) (B : Hp) => ∃ x : Option Nat×L×L, (x.2.1.ok G∧x.2.2.ok G∧pwT x.1 x.2.1 x.2.2 = T.pow y.t z1)∧r = .ret (pwv x.1 x.2.1 x.2.2)∧B = [gsb x.1 x.2.1.row 29 5]) (.ret (.agg y.row.toArray)) G4 [none])∧(((z3.m : Int) == 0) = false → (a0 = a0)∧∀ a6 : Nat, (a1 = a1)∧(a1 = a1)∧(fun (r : Out) (G : RO) (B : Hp) => ∃ x : Option Nat×L×L, (x.2.1.ok G∧x.2.2.ok G∧pwT x.1 x.2.1 x.2.2 = T.pow y.t z1)∧r = .ret (pwv x.1 x.2.1 x.2.2)∧B = [gsb x.1 x.2.1.row 29 5]) (.ret (.agg #[vi 4, vu 0, .string ByteArray.empty, slA a6 1 1, .slice z3.pa z3.m z3.pc])) G4 [some (a6, .row y.row 29 5)])))) (.opn 0 (fun a0 => (.opn 1 (fun a1 => (ops [.d, .p 0, .d] (.sp 7 (.dr [some (.d), some (.p 0), some (.ib y.AB y.AO), some (.ro (fun v => [vi ((y.kid 0).k), vu ((y.kid 0).id), .string ((y.kid 0).s), .slice (y.kid 0).aa ((y.kid 0).n) ((y.kid 0).ac), .slice (y.kid 0).pa ((y.kid 0).m) ((y.kid 0).pc)])), some (.d), some (.p 0), some (.d), some (.n 2), some (.callG [2] [] (L) (fun e v z4 G => z4.ok G∧z4.pl = (List.range y.m).map y.pw ++ (List.range ln).map f) (fun e v z4 => (.slice z4.pa z4.m z4.pc, []))), some (.p 0), some (.d)] (ops [.d] (.opg [] [] (L) (fun z6 G => z6.ok G∧z6.pl = T.prod (y.pl ++ (List.range ln).map f)) (fun z6 => (.slice z6.pa z6.m z6.pc, [])) (fun z6 => (ops [.d, .d, .d, .d] (.sp 21 (ops [.p 0, .p 1] (.fin [3] [(1, none)])) (ops [.p 0] (.opn 3 (fun a9 => (ops [.d, .d, .p 1] (.fin [3] [(1, none)]))))))))))) (ops [.d] (.opg [] [] (L) (fun z3 G => z3.ok G∧z3.pl = T.prod ((List.range ln).map f)) (fun z3 => (.slice z3.pa z3.m z3.pc, [])) (fun z3 => (ops [.d, .d, .d, .d] (.sp 21 (ops [.p 0, .p 1] (.fin [2] [(1, none)])) (ops [.p 0] (.opn 2 (fun a6 => (ops [.d, .d, .p 1] (.fin [2] [(1, none)])))))))))))))))) Tryd.func34 (by kernel_rfl) (by kernel_rfl)
    (fun a0 => fun a1 => ⟨rfl, ⟨fun h2 => (have := eq_of_beq h2;⟨rfl, ⟨⟨(hy.arg (h4 (eq_of_beq h2))).1, by decide, by have := h4 (eq_of_beq h2);omega⟩, ⟨(hy.arg (h4 (eq_of_beq h2))).2, ⟨rfl, fun a3 => ⟨(concat_ok _ y.pa y.m y.pc y.PB y.PO y.pw lv ln lc LB LO f R (by omega) hy.pow hx), fun z4 G5 hG5 qz4 => (have hy := L.ok_mono hG5 _ hy;have hx := hx_mono hG5 hx;⟨rfl, ⟨((product_G z4.pa z4.m z4.pc z4.PB z4.PO z4.pw G5 (by have h9 := congrArg List.length qz4.2;simp [L.pl] at h9;omega) qz4.1.pow).mono (fun o G B _ ⟨z, ⟨h1, h2⟩, h3⟩ => ⟨z, ⟨h1, h2.trans (congrArg T.prod qz4.2)⟩, h3⟩)), fun z6 G7 hG7 qz6 => (have hy := L.ok_mono hG7 _ hy;have hx := hx_mono hG7 hx;have qz4 := And.intro (L.ok_mono hG7 _ qz4.1) qz4.2;⟨fun h8 => (have := eq_of_beq h8;⟨rfl, ⟨rfl, ⟨rfl, ⟨(none, (y.kid 0), z6), ⟨(hy.kid (h4 (eq_of_beq h2))), qz6.1, (by rw [(pow_4 (eq_of_beq h2) (h4 (eq_of_beq h2)) qz6.2), if_pos (pl_nil h8)];rfl)⟩, (by rfl), (by rfl)⟩⟩⟩⟩), fun h8 => (have := ne_of_beq_false h8;⟨rfl, fun a9 => ⟨rfl, ⟨rfl, ⟨((some a9), (y.kid 0), z6), ⟨(hy.kid (h4 (eq_of_beq h2))), qz6.1, (by rw [(pow_4 (eq_of_beq h2) (h4 (eq_of_beq h2)) qz6.2), if_neg (pl_ne h8)];rfl)⟩, (by rfl), (by rfl)⟩⟩⟩⟩)⟩)⟩⟩)⟩⟩⟩⟩⟩), fun h2 => (have := ne_of_beq_false h2;⟨(product_G lv ln lc LB LO f R (by omega) hx), fun z3 G4 hG4 qz3 => (have hy := L.ok_mono hG4 _ hy;have hx := hx_mono hG4 hx;⟨fun h5 => (have := eq_of_beq h5;⟨rfl, ⟨rfl, ⟨rfl, ⟨(none, y, z3), ⟨hy, qz3.1, (by rw [(pow_n (ne_of_beq_false h2) qz3.2), if_pos (pl_nil h5)];rfl)⟩, (by rfl), (by rfl)⟩⟩⟩⟩), fun h5 => (have := ne_of_beq_false h5;⟨rfl, fun a6 => ⟨rfl, ⟨rfl, ⟨((some a6), y, z3), ⟨hy, qz3.1, (by rw [(pow_n (ne_of_beq_false h2) qz3.2), if_neg (pl_ne h5)];rfl)⟩, (by rfl), (by rfl)⟩⟩⟩⟩)⟩)⟩)⟩⟩)
theorem power_ok (y : L) (lv : Option Addr) (ln lc LB LO : Nat) (f : Nat → PW) (R : RO) (hy : y.ok R) (h4 : y.k = 4 → 0 < y.n) (hn : y.m + ln ≤ 1000000) (hx : ∀ j, j < ln → lv = some ⟨LB, LO, none⟩∧R.cells LB (LO + j * 2) [vu (f j).1, vi (f j).2]) : Does Tryd.prog 34 [y.v, .slice lv ln lc] R [] (fun r G B => ∃ z : L, (z.ok G∧z.t = T.pow y.t ((List.range ln).map f))∧r = .ret z.v∧B = []) := by
  refine (Does.freeze (X := Option Nat×L×L) (q := fun x G => x.2.1.ok G∧x.2.2.ok G∧pwT x.1 x.2.1 x.2.2 = T.pow y.t ((List.range ln).map f)) (g := fun x => (pwv x.1 x.2.1 x.2.2, [gsb x.1 x.2.1.row 29 5])) (power_own y lv ln lc LB LO f R hy h4 hn hx)).mono ?_
  rintro o G B hle ⟨⟨b, t, z⟩, G0, h0, ⟨q1, q2, q3⟩, hc, rfl, rfl⟩
  cases b with
  | none => exact ⟨t, ⟨L.ok_mono h0 _ q1, q3⟩, rfl, rfl⟩
  | some a =>
    have q2 := L.ok_mono h0 _ q2
    refine ⟨⟨4, 0, .empty, some ⟨a, 0, none⟩, 1, 1, a, 0, fun _ => t, z.pa, z.m, z.pc, z.PB, z.PO, z.pw⟩, ⟨?_, q3⟩, rfl, rfl⟩
    rw [L.ok_eq]
    refine ⟨⟨Nat.le_refl 1, by simp [maxLen], q2.len.2.2⟩, fun j hj => ?_, q2.pow⟩
    have hj : j < 1 := hj
    have : j = 0 := by omega
    subst this
    exact ⟨rfl, hc 0 a t.row 29 5 rfl, L.ok_mono h0 _ q1⟩
def L.word (s : ByteArray) : L := ⟨2, 0, s, none, 0, 0, 0, 0, fun j => j.elim0, none, 0, 0, 0, 0, fun _ => (0, 0)⟩
def L.atom (i : Int) : L := ⟨1, i, .empty, none, 0, 0, 0, 0, fun j => j.elim0, none, 0, 0, 0, 0, fun _ => (0, 0)⟩
theorem L.ok_none {y : L} {R : RO} (h1 : y.n = 0) (h2 : y.m = 0) (h3 : y.ac ≤ maxLen) (h4 : y.pc ≤ maxLen) : y.ok R := by
  rw [L.ok_eq]
  exact ⟨⟨by omega, h3, by omega, h4⟩, fun j hj => by omega, fun j hj => by omega⟩
theorem L.word_ok (s : ByteArray) (R : RO) : (L.word s).ok R := L.ok_none rfl rfl (by simp [L.word, maxLen]) (by simp [L.word, maxLen])
theorem L.atom_ok (i : Int) (R : RO) : (L.atom i).ok R := L.ok_none rfl rfl (by simp [L.atom, maxLen]) (by simp [L.atom, maxLen])
theorem L.word_t (s : ByteArray) : (L.word s).t = T.word s := rfl
theorem L.atom_t (i : Int) : (L.atom i).t = T.atom i := rfl
namespace T
theorem prod_len (l : List PW) : (prod l).length ≤ l.length := prodL_len _ _
theorem wt_300 (t : T) : 300 ≤ wt t := by cases t;simp only [wt];omega
theorem wt_pow (t : T) (l : List PW) : wt (pow t l) ≤ wt t + 301 + 60 * l.length := by
  obtain ⟨k, i, s, xs, ps⟩ := t
  have e : pow (mk k i s xs ps) l = if k = 4 then (if prod (ps ++ l) = [] then xs.headD (word .empty) else .mk 4 0 .empty [xs.headD (word .empty)] (prod (ps ++ l)))
    else (if prod l = [] then mk k i s xs ps else .mk 4 0 .empty [mk k i s xs ps] (prod l)) := rfl
  rw [e]
  have h1 : wt (xs.headD (word .empty)) ≤ wtL xs + 300 := by
    cases xs with
    | nil => exact Nat.le_add_left _ _
    | cons a l => show wt a ≤ wt a + 1 + wtL l + 300;omega
  have h2 := prod_len (ps ++ l)
  have h3 := prod_len l
  rw [List.length_append] at h2
  have h4 : wt (mk k i s xs ps) = 300 + 2 * s.size + 60 * ps.length + wtL xs := rfl
  by_cases hk : k = 4
  · rw [if_pos hk]
    by_cases hp : prod (ps ++ l) = []
    · rw [if_pos hp];omega
    · rw [if_neg hp]
      have h5 : wt (mk 4 0 .empty [xs.headD (word .empty)] (prod (ps ++ l))) = 300 + 2 * 0 + 60 * (prod (ps ++ l)).length + (wt (xs.headD (word .empty)) + 1 + 0) := rfl
      cases xs with
      | nil => have : wt (List.headD [] (word .empty)) = 300 := rfl;omega
      | cons a l' =>
        have h6 : List.headD (a::l') (word .empty) = a := rfl
        have h7 : wtL (a::l') = wt a + 1 + wtL l' := rfl
        rw [h6] at h5 ⊢
        omega
  · rw [if_neg hk]
    by_cases hp : prod l = []
    · rw [if_pos hp];omega
    · rw [if_neg hp]
      have h5 : wt (mk 4 0 .empty [mk k i s xs ps] (prod l)) = 300 + 2 * 0 + 60 * (prod l).length + (wt (mk k i s xs ps) + 1 + 0) := rfl
      omega
mutual
theorem wt_nrm : ∀ (d : Nat) (t : T), wt (nrm d t) ≤ wt t
  | d, .mk k i s xs ps => by
    have h := wt_nrmL (d + 1) xs
    have h0 : wt (mk k i s xs ps) = 300 + 2 * s.size + 60 * ps.length + wtL xs := rfl
    have hw : ∀ s, wt (word s) = 300 + 2 * s.size := fun s => by simp [word, wt, wtL]
    have he : wt (word .empty) = 300 := rfl
    have ha : wt (atom i) = 300 := rfl
    rw [nrm]
    split
    · omega
    · split
      · omega
      · split
        · have := hw s;omega
        · split
          · have : wt (mk 3 0 s (nrmL (d + 1) xs) []) = 300 + 2 * s.size + 60 * 0 + wtL (nrmL (d + 1) xs) := rfl
            omega
          · split
            · split
              · rename_i a e
                have h1 := wt_pow a ps
                rw [e] at h
                have : wtL [a] = wt a + 1 + 0 := rfl
                omega
              · omega
            · omega
theorem wt_nrmL : ∀ (d : Nat) (l : List T), wtL (nrmL d l) ≤ wtL l
  | d, [] => Nat.le_refl _
  | d, a::l => by
    have := wt_nrm d a
    have := wt_nrmL d l
    simp only [nrmL, wtL];omega
end
def okp (t : T) : Prop := t.k = 4 → t.xs ≠ []
theorem okp_pow (t : T) (l : List PW) (h : ∀ x ∈ t.xs, x.k ≠ 4) : okp (pow t l) := by
  unfold pow okp
  split
  · split
    · rename_i h4 _
      cases hx : t.xs with
      | nil => intro h0;cases h0
      | cons a l' => intro h0;exact absurd h0 (h a (by rw [hx];exact List.mem_cons_self ..))
    · intro _ h0;cases h0
  · split
    · rename_i h1 _;exact fun h0 => absurd h0 h1
    · intro _ h0;cases h0
def nop (t : T) : Prop := t.k = 4 → ∀ x ∈ t.xs, x.k ≠ 4
theorem nop_pow (t : T) (l : List PW) (h : nop t) : nop (pow t l) := by
  unfold pow nop
  split
  · rename_i h4
    split
    · cases hx : t.xs with
      | nil => intro h0;cases h0
      | cons a l' => intro h0;exact absurd h0 (h h4 a (by rw [hx];exact List.mem_cons_self ..))
    · intro _ x hx'
      rcases List.mem_singleton.1 hx' with rfl
      cases hx : t.xs with
      | nil => intro h0;cases h0
      | cons a l' => exact h h4 a (by rw [hx];exact List.mem_cons_self ..)
  · rename_i h4
    split
    · exact fun h0 => absurd h0 h4
    · intro _ x hx'
      rcases List.mem_singleton.1 hx' with rfl
      exact h4
theorem nop_nrm : ∀ (d : Nat) (t : T), nop (nrm d t)
  | d, .mk k i s xs ps => by
    rw [nrm]
    split
    · intro h;cases h
    · split
      · intro h;cases h
      · split
        · intro h;cases h
        · split
          · intro h;cases h
          · split
            · rw [nrmL_map]
              cases xs with
              | nil => intro h;cases h
              | cons a l => cases l with
                | nil => exact nop_pow _ _ (nop_nrm (d + 1) a)
                | cons b l => intro h;cases h
            · intro h;cases h
theorem okp_nrm (d : Nat) (t : T) : okp (nrm d t) := by
  cases t with
  | mk k i s xs ps =>
    rw [nrm]
    split
    · intro h;cases h
    · split
      · intro h;cases h
      · split
        · intro h;cases h
        · split
          · intro h;cases h
          · split
            · rw [nrmL_map]
              cases xs with
              | nil => intro h;cases h
              | cons a l => cases l with
                | nil =>
                  by_cases h4 : (nrm (d + 1) a).k = 4
                  · exact okp_pow _ _ (nop_nrm (d + 1) a h4)
                  · show okp (pow (nrm (d + 1) a) ps)
                    unfold pow okp
                    rw [if_neg h4]
                    split
                    · exact fun h0 => absurd h0 h4
                    · intro _ h0;cases h0
                | cons b l => intro h;cases h
            · intro h;cases h
end T
theorem L.t_k (y : L) : y.t.k = y.k := by rw [L.t_eq];rfl
theorem L.t_xs (y : L) : y.t.xs = (List.range y.n).map fun j => (y.kid j).t := by rw [L.t_eq];rfl
theorem L.t_xl (y : L) : y.t.xs.length = y.n := by rw [L.t_xs];simp
theorem L.wt_eq (y : L) : y.t.wt = 300 + 2 * y.s.size + 60 * y.m + T.wtL ((List.range y.n).map fun j => (y.kid j).t) := by
  have : y.pl.length = y.m := pl_len y
  rw [L.t_eq];show _ + 60 * y.pl.length + _ = _;rw [this]
theorem L.wt_kid (y : L) {j : Nat} (h : j < y.n) : (y.kid j).t.wt + 60 * y.m + 300 < y.t.wt := by
  rw [L.wt_eq y]
  have := T.wtL_le (l := (List.range y.n).map fun j => (y.kid j).t) (t := (y.kid j).t) (List.mem_map.2 ⟨j, List.mem_range.2 h, rfl⟩)
  omega
theorem L.wt_m (y : L) : 60 * y.m + 300 ≤ y.t.wt := by rw [L.wt_eq];omega
inductive NR where
  | done (z : L)
  | hash (b : Option Nat) (cap : Nat) (s : ByteArray) (zs : List L)
def rowsL (zs : List L) : List Value := zs.flatMap L.row
theorem rowsL_len (zs : List L) : (rowsL zs).length = zs.length * 5 := by
  induction zs with
  | nil => rfl
  | cons x l ih =>
    show (x.row ++ rowsL l).length = _
    rw [List.length_append, ih]
    show 5 + _ = _;rw [List.length_cons];omega
theorem rowsL_snoc (zs : List L) (z : L) : rowsL (zs ++ [z]) = rowsL zs ++ z.row := by simp [rowsL]
theorem rowsL_drop : ∀ (l : List L) (j : Nat), (rowsL l).drop (j * 5) = rowsL (l.drop j)
  | l, 0 => by simp
  | [], j + 1 => by simp [rowsL]
  | p::l, j + 1 => by
    rw [show (j + 1) * 5 = j * 5 + 5 by omega, Nat.add_comm, ← List.drop_drop]
    exact rowsL_drop l j
theorem rowsL_at {l : List L} {j : Nat} (h : j < l.length) : ((rowsL l).drop (j * 5)).take 5 = l[j].row := by
  rw [rowsL_drop, List.drop_eq_getElem_cons h]
  rfl
namespace NR
def b : NR → Option Nat | .done _ => none | .hash b _ _ _ => b
def cap : NR → Nat | .done _ => 0 | .hash _ c _ _ => c
def rows : NR → List Value | .done _ => [] | .hash _ _ _ zs => rowsL zs
def v : NR → Value | .done z => z.v | .hash b c s zs => .agg #[vi 3, vu 0, .string s, gsv b zs.length c, .slice none 0 0]
noncomputable def t : NR → T | .done z => z.t | .hash _ _ s zs => .mk 3 0 s (zs.map L.t) []
def ok (G : RO) : NR → Prop | .done z => z.ok G | .hash b c _ zs => (∀ z ∈ zs, z.ok G)∧zs.length ≤ c∧c ≤ maxLen∧(b = none → c = 0)
end NR
def hsL (b : Option Nat) (cap : Nat) (s : ByteArray) (zs : List L) : L := ⟨3, 0, s, b.map fun a => ⟨a, 0, none⟩, zs.length, cap, b.getD 0, 0, fun j => zs[j], none, 0, 0, 0, 0, fun _ => (0, 0)⟩
theorem hsL_t (b : Option Nat) (cap : Nat) (s : ByteArray) (zs : List L) : (hsL b cap s zs).t = .mk 3 0 s (zs.map L.t) [] := by
  rw [L.t_eq]
  have : ((List.range (hsL b cap s zs).n).map fun j => ((hsL b cap s zs).kid j).t) = zs.map L.t := by
    apply List.ext_getElem (by simp [hsL])
    intro i h1 h2
    simp only [List.length_map] at h2
    simp only [List.getElem_map, List.getElem_range]
    rw [L.kid_pos (y := hsL b cap s zs) h2]
    rfl
  rw [this];rfl
theorem hsL_ok {G : RO} {b : Option Nat} {cap : Nat} {s : ByteArray} {zs : List L} (hz : ∀ z ∈ zs, z.ok G) (h : zs.length ≤ cap) (hc : cap ≤ maxLen) (hb : b = none → cap = 0) (hcell : ∀ a, b = some a → G.cells a 0 (rowsL zs)) : (hsL b cap s zs).ok G := by
  rw [L.ok_eq]
  refine ⟨⟨h, hc, Nat.le_refl 0, by simp [hsL, maxLen]⟩, fun j hj => ?_, fun j hj => absurd hj (by simp [hsL])⟩
  rw [L.kid_pos hj]
  have hj' : j < zs.length := hj
  cases b with
  | none => have := hb rfl;omega
  | some a =>
    refine ⟨rfl, ?_, hz _ (List.getElem_mem ..)⟩
    exact RO.cells_sub (i := j * 5) (hcell a rfl) (l := zs[j].row) (rowsL_at hj')
theorem nrm_hash {y : L} {d : Nat} {zs : List L} (hd : d ≤ 40) (hk : y.k = 3) (h : zs.map L.t = (List.range y.n).map fun j => T.nrm (d + 1) (y.kid j).t) : T.nrm d y.t = (.mk 3 0 y.s (zs.map L.t) [] : T) := by
  rw [L.t_eq, T.nrm, if_neg (by omega), if_neg (by omega), if_neg (by omega), if_pos hk, T.nrmL_map, List.map_map, h];rfl
theorem nrm_pow {y : L} {d : Nat} (hd : d ≤ 40) (hk : y.k = 4) (hn : y.n = 1) : T.nrm d y.t = T.pow (T.nrm (d + 1) (y.kid 0).t) y.pl := by
  rw [L.t_eq, T.nrm, if_neg (by omega), if_neg (by omega), if_neg (by omega), if_neg (by omega), if_pos hk, hn];rfl
theorem nrm_word {y : L} {d : Nat} (hd : d ≤ 40) (hk : y.k = 2) : T.nrm d y.t = T.word y.s := by
  rw [L.t_eq, T.nrm, if_neg (by omega), if_neg (by omega), if_pos hk]
theorem nrm_atom {y : L} {d : Nat} (hd : d ≤ 40) (hk : y.k = 1) : T.nrm d y.t = T.atom y.id := by
  rw [L.t_eq, T.nrm, if_neg (by omega), if_pos hk]
theorem nrm_deep {y : L} {d : Nat} (hd : 40 < d) : T.nrm d y.t = T.word .empty := by
  rw [L.t_eq, T.nrm, if_pos hd]
theorem nrm_else {y : L} {d : Nat} (h1 : y.k ≠ 1) (h2 : y.k ≠ 2) (h3 : y.k ≠ 3) (h4 : y.k = 4 → y.n ≠ 1) : T.nrm d y.t = T.word .empty := by
  rw [L.t_eq, T.nrm]
  by_cases hd : 40 < d
  · rw [if_pos hd]
  · rw [if_neg hd, if_neg h1, if_neg h2, if_neg h3]
    by_cases hk : y.k = 4
    · rw [if_pos hk]
      have hn := h4 hk
      rw [T.nrmL_map]
      have hl : (((List.range y.n).map fun j => (y.kid j).t).map (T.nrm (d + 1))).length ≠ 1 := by simpa using hn
      split
      · rename_i a e;rw [e] at hl;exact (hl rfl).elim
      · rfl
    · rw [if_neg hk]
end Go.Proofs.YtehbmooelcjfoaaDoor
namespace Go.Proofs.YtehbmooelcjfoaaDoor
open Vc Go
set_option linter.unusedVariables false
set_option linter.unusedSimpArgs false
theorem nrm_n {z : L} {d : Nat} {t : T} (h : z.t = T.nrm d t) (h4 : z.k = 4) : 0 < z.n := by
  have h1 := T.okp_nrm d t
  rw [← h] at h1
  have := h1 (by rw [L.t_k];exact h4)
  have h2 := L.t_xl z
  have h3 : z.t.xs.length ≠ 0 := fun h => this (List.length_eq_zero_iff.1 h)
  omega
theorem nrm_m {z : L} {d : Nat} {t : T} (h : z.t = T.nrm d t) : 60 * z.m + 300 ≤ t.wt := by
  have h1 := L.wt_m z
  rw [h] at h1
  have := T.wt_nrm d t
  omega
theorem T.wtL_n : ∀ (l : List T), 301 * l.length ≤ T.wtL l
  | [] => Nat.le_refl 0
  | a::l => by
    have := T.wtL_n l
    have := T.wt_300 a
    simp only [List.length_cons, T.wtL];omega
theorem L.wt_n (y : L) : 301 * y.n ≤ y.t.wt := by
  rw [L.wt_eq]
  have := T.wtL_n ((List.range y.n).map fun j => (y.kid j).t)
  simp only [List.length_map, List.length_range] at this
  omega
abbrev NI (y : L) (d : Nat) (G : RO) (j : Nat) (b : Option Nat) (cap : Nat) (Lr : List Value) (zs : List L) : Prop :=
  j ≤ y.n∧(b = none → cap = 0)∧j ≤ cap∧cap ≤ maxLen∧zs.length = j∧Lr = rowsL zs∧(∀ z ∈ zs, z.ok G)∧zs.map L.t = (List.range j).map fun i => T.nrm (d + 1) (y.kid i).t
theorem nI_mono {R S : RO} (h : R.le S) {y : L} {d j : Nat} {b : Option Nat} {cap : Nat} {Lr : List Value} {zs : List L} (hI : NI y d R j b cap Lr zs) : NI y d S j b cap Lr zs :=
  ⟨hI.1, hI.2.1, hI.2.2.1, hI.2.2.2.1, hI.2.2.2.2.1, hI.2.2.2.2.2.1, fun z hz => L.ok_mono h z (hI.2.2.2.2.2.2.1 z hz), hI.2.2.2.2.2.2.2⟩
theorem nI_step {R : RO} {y : L} {d j : Nat} {b : Option Nat} {cap a c : Nat} {Lr : List Value} {zs : List L} {z : L} (hI : NI y d R j b cap Lr zs) (hj : j < y.n) (h1 : j + 1 ≤ c) (h2 : c ≤ maxLen) (h3 : z.ok R) (h4 : z.t = T.nrm (d + 1) (y.kid j).t) :
    NI y d R (j + 1) (some a) c (Lr ++ z.row) (zs ++ [z]) := by
  refine ⟨hj, fun h => (by cases h), h1, h2, ?_, ?_, fun x hx => ?_, ?_⟩
  · rw [List.length_append, hI.2.2.2.2.1];rfl
  · rw [rowsL_snoc, hI.2.2.2.2.2.1]
  · rcases List.mem_append.1 hx with hx | hx
    · exact hI.2.2.2.2.2.2.1 x hx
    · rcases List.mem_singleton.1 hx with rfl;exact h3
  · rw [List.map_append, hI.2.2.2.2.2.2.2, List.range_succ, List.map_append]
    simp [h4]
theorem word_ok (s : ByteArray) (R : RO)  : Gives Tryd.prog 18 [.string s] R [] (.ret (.agg #[vi 2, vu 0, .string s, .slice none 0 0, .slice none 0 0])) [] :=
  Does.of_wp_eq (VC := (∀ a0 : Nat, (a0 = a0)∧(a0 = a0)∧GQ R (.ret (.agg #[vi 2, vu 0, .string s, .slice none 0 0, .slice none 0 0])) [] (.ret (.agg #[vi 2, vu 0, .string s, .slice none 0 0, .slice none 0 0])) R [])) (.opn 0 (fun a0 => (ops [.d, .d, .p 0] (.fin [] [(0, none)])))) Tryd.func18 (by kernel_rfl) (by kernel_rfl)
    (fun a0 => ⟨rfl, ⟨rfl, ⟨rfl, (by rfl), (by rfl)⟩⟩⟩)
theorem atom_ok (i : Int) (R : RO)  : Gives Tryd.prog 17 [vu i] R [] (.ret (.agg #[vi 1, vu i, .string ByteArray.empty, .slice none 0 0, .slice none 0 0])) [] :=
  Does.of_wp_eq (VC := (∀ a0 : Nat, (a0 = a0)∧(a0 = a0)∧GQ R (.ret (.agg #[vi 1, vu i, .string ByteArray.empty, .slice none 0 0, .slice none 0 0])) [] (.ret (.agg #[vi 1, vu i, .string ByteArray.empty, .slice none 0 0, .slice none 0 0])) R [])) (.opn 0 (fun a0 => (ops [.d, .d, .p 0] (.fin [] [(0, none)])))) Tryd.func17 (by kernel_rfl) (by kernel_rfl)
    (fun a0 => ⟨rfl, ⟨rfl, ⟨rfl, (by rfl), (by rfl)⟩⟩⟩)
theorem pow_of {G : RO} {y w : L} {l : List PW} (h : ∃ t, IsV G y.v t∧w.t = T.pow t l) (hy : y.ok G) : w.t = T.pow y.t l := by
  obtain ⟨t, h1, h2⟩ := h
  rw [h2, h1.det hy]
noncomputable def normal_own_L11_inv (y : L) (d : Nat) (a0 : Nat) (a1 : Nat) (a6 : Nat)  : Nat×Option Nat×Nat×List Value×List L×NV → St := fun zx => ⟨(.agg y.row.toArray::vi (d : Int)::ptA a0::undef::ptA a1::ptA a6::undef::(zx.2.2.2.2.2 7)::vi (d : Int)::.bool false::undef::ptA a0::vi y.k::.bool false::.bool (y.k == 1)::undef::undef::undef::.bool false::.bool (y.k == 2)::undef::undef::undef::.bool true::.bool (y.k == 3)::(ptO a0 (2))::.string y.s::.agg #[vi 3, vu 0, .string y.s, .slice none 0 0, .slice none 0 0]::(ptO a0 (3))::.slice y.aa y.n y.ac::vi (y.n : Int)::vi ((zx.1 : Nat) : Int)::urun zx.2.2.2.2.2 32 13 (uns 18 [])), [], [some (a0, .row y.row 29 5), some (a1, .row [vi 0, vu 0, .string ByteArray.empty, .slice none 0 0, .slice none 0 0] 29 5), some (a6, .row [vi 3, vu 0, .string y.s, gsv zx.2.1 zx.1 zx.2.2.1, .slice none 0 0] 29 5), gsb zx.2.1 zx.2.2.2.1 29 (zx.2.2.1 * 5)]⟩
def normal_own_L11_I (y : L) (d : Nat) (a0 : Nat) (a1 : Nat) (a6 : Nat)  (R : RO) : Nat×Option Nat×Nat×List Value×List L×NV → RO → Prop := fun zx G => R.le G∧(NI y d G zx.1 zx.2.1 zx.2.2.1 zx.2.2.2.1 zx.2.2.2.2.1)
def normal_own_L11_mu (y : L) (d : Nat) (a0 : Nat) (a1 : Nat) (a6 : Nat)  : Nat×Option Nat×Nat×List Value×List L×NV → Nat := fun zx => y.n - zx.1
noncomputable def normal_own_L11_K (y : L) (d : Nat) (a0 : Nat) (a1 : Nat) (a6 : Nat)  (R : RO) : Exit' → St → RO → Prop := altPost R (.altG (Nat×Option Nat×Nat×List Value×List L×NV) (fun zx G => zx.1 = y.n∧NI y d G zx.1 zx.2.1 zx.2.2.1 zx.2.2.2.1 zx.2.2.2.2.1) (fun zx => (.exit 1, ((normal_own_L11_inv y d a0 a1 a6 zx).up [] [some (a0, .row y.row 29 5), some (a1, .row [vi 0, vu 0, .string ByteArray.empty, .slice none 0 0, .slice none 0 0] 29 5), some (a6, .row [vi 3, vu 0, .string y.s, gsv zx.2.1 zx.1 zx.2.2.1, .slice none 0 0] 29 5), gsb zx.2.1 zx.2.2.2.1 29 (zx.2.2.1 * 5)]))) (fun _ => .altn) .altn)
theorem normal_own_L11_body (y : L) (d : Nat) (a0 : Nat) (a1 : Nat) (a6 : Nat)  (R0 R : RO) (hle : R0.le R) (hrec : ∀ (y : L) (S : RO), y.ok S → y.t.wt ≤ 1000000 → Does Tryd.prog 30 [y.v, vi ((d : Int) + 1)] S [] (fun r G B => ∃ z : L, (z.ok G∧z.t = T.nrm (d + 1) y.t)∧r = .ret z.v∧B = [])) (hy : y.ok R) (hw : y.t.wt ≤ 1000000) (hd : d ≤ 40) (j : Nat) (b : Option Nat) (cap : Nat) (Lr : List Value) (zs : List L) (u7 : Nat → Value) (hI : NI y d R j b cap Lr zs) : CT Tryd.prog (sub (bodyOf Tryd.f30) [1, 1, 0, 1, 0, 1, 1, 1, 1, 1, 0, 1, 0, 1, 0, 0]) (normal_own_L11_inv y d a0 a1 a6 (j, b, cap, Lr, zs, u7)) R (LK (normal_own_L11_inv y d a0 a1 a6) (normal_own_L11_I y d a0 a1 a6 R0) (normal_own_L11_mu y d a0 a1 a6) (normal_own_L11_K y d a0 a1 a6 R0) (j, b, cap, Lr, zs, u7)) :=
  CT.of_wp_eq (VC := (let z4 : List Value := [vi 0, vu 0, .string ByteArray.empty, .slice none 0 0, .slice none 0 0];let z3 : List Value := y.row;let z2 : List Value := [vi ((y.kid j).k), vu ((y.kid j).id), .string ((y.kid j).s), .slice (y.kid j).aa ((y.kid j).n) ((y.kid j).ac), .slice (y.kid j).pa ((y.kid j).m) ((y.kid j).pc)];let z1 : Array Value := #[vi ((y.kid j).k), vu ((y.kid j).id), .string ((y.kid j).s), .slice (y.kid j).aa ((y.kid j).n) ((y.kid j).ac), .slice (y.kid j).pa ((y.kid j).m) ((y.kid j).pc)];((decide ((j : Int) < (y.n : Int))) = true → (y.aa = some ⟨y.AB, y.AO, none⟩∧(0 : Int) ≤ (j : Int)∧((j : Int) : Int) < (y.n : Int))∧(R.cells y.AB (y.AO + Int.toNat (j : Int) * 5) z2)∧∀ a59 : Nat, (a59 = a59)∧(a6 = a6)∧(a59 = a59)∧(NW .i64 ((d : Int) + 1))∧(Does Tryd.prog 30 [.agg z1, vi ((d : Int) + 1)] R [] (fun r G B => ∃ z60 : L, (z60.ok G∧z60.t = T.nrm (d + 1) (y.kid j).t)∧r = .ret (.agg z60.row.toArray)∧B = []))∧∀ (z60 : L) (G61 : RO), let z0 : List Value := z60.row;R.le G61 → (z60.ok G61∧z60.t = T.nrm (d + 1) (y.kid j).t) → ∀ a62 : Nat, (PrimOK Tryd.prog (.app 25 25 25 (gsv b j cap) (slA a62 1 1)) G61 [gsb b Lr 29 (cap * 5), some (a62, .row z0 29 5)] (Nat×Nat) (fun y63 => j + 1 ≤ y63.2∧y63.2 ≤ maxLen) (fun y63 => (.slice (some ⟨y63.1, 0, none⟩) (j + 1) y63.2, [some (y63.1, .row (Lr ++ (z0 : List Value)) 29 (y63.2 * 5)), some (a62, .row z0 29 5)])))∧∀ (y63 : Nat×Nat) (qy63 : j + 1 ≤ y63.2∧y63.2 ≤ maxLen), (a6 = a6)∧(NW .i64 ((j : Int) + 1))∧LK (normal_own_L11_inv y d a0 a1 a6) (normal_own_L11_I y d a0 a1 a6 R0) (normal_own_L11_mu y d a0 a1 a6) (normal_own_L11_K y d a0 a1 a6 R0) (j, b, cap, Lr, zs, u7) .normal ((normal_own_L11_inv y d a0 a1 a6 (j, b, cap, Lr, zs, u7)).up [(7, ptA a59), (31, vi ((j : Int) + 1)), (32, .bool true), (33, (ptO y.AB (y.AO + Int.toNat (j : Int) * 5))), (34, .agg z1), (35, (ptO a6 (3))), (36, gsv b j cap), (37, .agg z1), (38, vi (d : Int)), (39, vi ((d : Int) + 1)), (40, .agg z60.row.toArray), (41, slA a62 1 1), (42, .slice (some ⟨y63.1, 0, none⟩) (j + 1) y63.2), (43, (ptO a6 (3))), (44, vi ((j : Int) + 1))] [some (a0, .row z3 29 5), some (a1, .row z4 29 5), some (a6, .row [vi 3, vu 0, .string y.s, .slice (some ⟨y63.1, 0, none⟩) (j + 1) y63.2, .slice none 0 0] 29 5), some (y63.1, .row (Lr ++ (z0 : List Value)) 29 (y63.2 * 5)), some (a59, .row z2 29 5), some (a62, .row z0 29 5)]) G61)∧((decide ((j : Int) < (y.n : Int))) = false → LK (normal_own_L11_inv y d a0 a1 a6) (normal_own_L11_I y d a0 a1 a6 R0) (normal_own_L11_mu y d a0 a1 a6) (normal_own_L11_K y d a0 a1 a6 R0) (j, b, cap, Lr, zs, u7) (.exit 1) ((normal_own_L11_inv y d a0 a1 a6 (j, b, cap, Lr, zs, u7)).up [(32, .bool false)] [some (a0, .row z3 29 5), some (a1, .row z4 29 5), some (a6, .row [vi 3, vu 0, .string y.s, gsv b j cap, .slice none 0 0] 29 5), gsb b Lr 29 (cap * 5)]) R))) (ops [.d] (.sp 32 (ops [.ib y.AB y.AO, .ro (fun v => [vi ((y.kid j).k), vu ((y.kid j).id), .string ((y.kid j).s), .slice (y.kid j).aa ((y.kid j).n) ((y.kid j).ac), .slice (y.kid j).pa ((y.kid j).m) ((y.kid j).pc)])] (.opn 4 (fun a59 => (ops [.p 4] (.dr [some (.d), some (.p 2), some (.p 4), some (.d), some (.nw), some (.callG [] [] (L) (fun e v z60 G => z60.ok G∧z60.t = T.nrm (d + 1) (y.kid j).t) (fun e v z60 => (.agg z60.row.toArray, []))), some (.n 5), some (.pr [3, 5] [] (Nat×Nat) (fun e v y63 => j + 1 ≤ y63.2∧y63.2 ≤ maxLen) (fun e v y63 => (.slice (some ⟨y63.1, 0, none⟩) (j + 1) y63.2, [some (y63.1, .row (Lr ++ ((rowc e 1) : List Value)) 29 (y63.2 * 5)), some ((adr e 1), .row (rowc e 1) 29 5)]))), some (.d), some (.p 2)] (ops [.nw, .d] (.fin [] []))))))) (.fin [] []))) (by kernel_rfl)
    (⟨fun h58 => (have := of_decide_eq_true h58;⟨⟨(hy.arg (j := j) (by omega)).1, by omega, by omega⟩, ⟨(hy.arg (j := j) (by omega)).2, fun a59 => ⟨rfl, ⟨rfl, ⟨rfl, ⟨(nwI (by omega) (by have h9 := L.wt_n y;omega)), ⟨(hrec (y.kid j) R (hy.kid (by omega)) (by have h9 := L.wt_kid y (j := j) (by omega);omega)), fun z60 G61 hG61 qz60 => (have hle := RO.le_trans hle hG61;have hy := L.ok_mono hG61 _ hy;have hI := nI_mono hG61 hI;fun a62 => ⟨(app1_ok (e := 29) (e' := 29) (z := 5) (by' := 80) (zc := [vi 0, vu 0, .string ByteArray.empty, .slice none 0 0, .slice none 0 0]) (b := b) (len := j) (cap := cap) (n := 1) (cs := Lr) (new := z60.row) (by kernel_rfl) (.inl (by kernel_rfl)) (by kernel_rfl) rfl (by rw [hI.2.2.2.2.2.1, rowsL_len, hI.2.2.2.2.1]) hI.2.2.1 hI.2.2.2.1 hI.2.1 ⟨rfl, .inr (.inr ⟨_, _, _, rfl, .inl ⟨1, _, _, _, rfl, rfl⟩⟩)⟩ (ones_spec rfl) (by have h9 := L.wt_n y;omega) (by have h9 := L.wt_n y;simp only [maxLen];omega) (by omega)), fun y63 qy63 => ⟨rfl, ⟨(nwI (by omega) (by have h9 := L.wt_n y;omega)), LKn (fun zw => ((j + 1), (some y63.1), y63.2, (Lr ++ (z60.row : List Value)), (zs ++ [z60]), zw)) ⟨⟨hle, (show NI y d G61 (j + 1) (some y63.1) y63.2 (Lr ++ (z60.row : List Value)) (zs ++ [z60]) from (nI_step hI (by omega) qy63.1 qy63.2 qz60.1 qz60.2))⟩, (show y.n - (j + 1) < y.n - j from (by omega)), ⟨(by show _ = _;kernel_rfl), rfl, rfl⟩⟩⟩⟩⟩)⟩⟩⟩⟩⟩⟩⟩), fun h58 => (have := of_decide_eq_false h58;LKe (altGA (G := R) (fun zw => (j, b, cap, Lr, zs, zw)) ⟨(show j = y.n∧NI y d R j b cap Lr zs from ⟨by have h9 := hI.1;omega, hI⟩), (by show _ = _;kernel_rfl), ⟨(by show _ = _;kernel_rfl), (by show _ = _;kernel_rfl), (by show _ = _;kernel_rfl)⟩⟩))⟩)
theorem normal_own_L11_ct (y : L) (d : Nat) (a0 : Nat) (a1 : Nat) (a6 : Nat)  (R : RO) (hrec : ∀ (y : L) (S : RO), y.ok S → y.t.wt ≤ 1000000 → Does Tryd.prog 30 [y.v, vi ((d : Int) + 1)] S [] (fun r G B => ∃ z : L, (z.ok G∧z.t = T.nrm (d + 1) y.t)∧r = .ret z.v∧B = [])) (hy : y.ok R) (hw : y.t.wt ≤ 1000000) (hd : d ≤ 40)  : CT Tryd.prog (sub (bodyOf Tryd.f30) [1, 1, 0, 1, 0, 1, 1, 1, 1, 1, 0, 1, 0, 1, 0]) ⟨(.agg y.row.toArray::vi (d : Int)::ptA a0::undef::ptA a1::ptA a6::undef::undef::vi (d : Int)::.bool false::undef::ptA a0::vi y.k::.bool false::.bool (y.k == 1)::undef::undef::undef::.bool false::.bool (y.k == 2)::undef::undef::undef::.bool true::.bool (y.k == 3)::(ptO a0 (2))::.string y.s::.agg #[vi 3, vu 0, .string y.s, .slice none 0 0, .slice none 0 0]::(ptO a0 (3))::.slice y.aa y.n y.ac::vi (y.n : Int)::vi 0::uns 31 []), [], [some (a0, .row y.row 29 5), some (a1, .row [vi 0, vu 0, .string ByteArray.empty, .slice none 0 0, .slice none 0 0] 29 5), some (a6, .row [vi 3, vu 0, .string y.s, .slice none 0 0, .slice none 0 0] 29 5)]⟩ R (normal_own_L11_K y d a0 a1 a6 R) :=
  CT.pad 1 <| CT.loop_eqs (normal_own_L11_inv y d a0 a1 a6) (normal_own_L11_I y d a0 a1 a6 R) (normal_own_L11_mu y d a0 a1 a6) (fun zw => (0, (none : Option Nat), 0, ([] : List Value), ([] : List L), zw)) (by kernel_rfl) (by kernel_rfl) ⟨RO.le_refl R, (show NI y d R 0 (none : Option Nat) 0 ([] : List Value) ([] : List L) from ⟨Nat.zero_le _, fun _ => rfl, Nat.le_refl _, by simp [maxLen], rfl, rfl, by simp, rfl⟩)⟩
    (by
      rintro ⟨j, b, cap, Lr, zs, u7⟩ G hG ⟨hle, hI⟩
      have hy := L.ok_mono hle _ hy
      exact normal_own_L11_body y d a0 a1 a6 R G hle hrec hy hw hd j b cap Lr zs u7 hI)
theorem normal_own (y : L) (d : Nat) (R : RO) (hrec : d ≤ 40 → ∀ (y : L) (S : RO), y.ok S → y.t.wt ≤ 1000000 → Does Tryd.prog 30 [y.v, vi ((d : Int) + 1)] S [] (fun r G B => ∃ z : L, (z.ok G∧z.t = T.nrm (d + 1) y.t)∧r = .ret z.v∧B = [])) (hy : y.ok R) (hw : y.t.wt ≤ 1000000) (hd : d ≤ 41) : Does Tryd.prog 30 [.agg y.row.toArray, vi (d : Int)] R [] (fun (r : Out) (G : RO) (B : Hp) => ∃ x : NR, (x.ok G∧x.t = T.nrm d y.t)∧r = .ret (x.v)∧B = [gsb x.b x.rows 29 (x.cap * 5)]) :=
  Does.of_wp_eq (VC := (let z3 : Array Value := #[vi 1, vu y.id, .string ByteArray.empty, .slice none 0 0, .slice none 0 0];let z0 : Array Value := #[vi 2, vu 0, .string ByteArray.empty, .slice none 0 0, .slice none 0 0];let z2 := (Gives Tryd.prog 18 [.string ByteArray.empty] R [] (.ret (.agg z0)) []);∀ a0 : Nat, ∀ a1 : Nat, ((decide ((d : Int) > 40)) = true → z2∧(a1 = a1)∧(a1 = a1)∧(fun (r : Out) (G : RO) (B : Hp) => ∃ x : NR, (x.ok G∧x.t = T.nrm d y.t)∧r = .ret (x.v)∧B = [gsb x.b x.rows 29 (x.cap * 5)]) (.ret (.agg z0)) R [none])∧((decide ((d : Int) > 40)) = false → (a0 = a0)∧((y.k == 1) = true → (a0 = a0)∧(Gives Tryd.prog 17 [vu y.id] R [] (.ret (.agg z3)) [])∧(a1 = a1)∧(a1 = a1)∧(fun (r : Out) (G : RO) (B : Hp) => ∃ x : NR, (x.ok G∧x.t = T.nrm d y.t)∧r = .ret (x.v)∧B = [gsb x.b x.rows 29 (x.cap * 5)]) (.ret (.agg z3)) R [none])∧((y.k == 1) = false → ((y.k == 2) = true → (a0 = a0)∧(Gives Tryd.prog 18 [.string y.s] R [] (.ret (.agg #[vi 2, vu 0, .string y.s, .slice none 0 0, .slice none 0 0])) [])∧(a1 = a1)∧(a1 = a1)∧(fun (r : Out) (G : RO) (B : Hp) => ∃ x : NR, (x.ok G∧x.t = T.nrm d y.t)∧r = .ret (x.v)∧B = [gsb x.b x.rows 29 (x.cap * 5)]) (.ret (.agg #[vi 2, vu 0, .string y.s, .slice none 0 0, .slice none 0 0])) R [none])∧((y.k == 2) = false → ((y.k == 3) = true → (a0 = a0)∧∀ a6 : Nat, (a6 = a6)∧(a0 = a0)∧(CT Tryd.prog (sub (bodyOf Tryd.f30) [1, 1, 0, 1, 0, 1, 1, 1, 1, 1, 0, 1, 0, 1, 0]) ⟨(.agg y.row.toArray::vi (d : Int)::ptA a0::undef::ptA a1::ptA a6::undef::undef::vi (d : Int)::.bool false::undef::ptA a0::vi y.k::.bool false::.bool (y.k == 1)::undef::undef::undef::.bool false::.bool (y.k == 2)::undef::undef::undef::.bool true::.bool (y.k == 3)::(ptO a0 (2))::.string y.s::.agg #[vi 3, vu 0, .string y.s, .slice none 0 0, .slice none 0 0]::(ptO a0 (3))::.slice y.aa y.n y.ac::vi (y.n : Int)::vi 0::uns 31 []), [], [some (a0, .row y.row 29 5), some (a1, .row [vi 0, vu 0, .string ByteArray.empty, .slice none 0 0, .slice none 0 0] 29 5), some (a6, .row [vi 3, vu 0, .string y.s, .slice none 0 0, .slice none 0 0] 29 5)]⟩ R (normal_own_L11_K y d a0 a1 a6 R))∧(∀ (x8 : Nat×Option Nat×Nat×List Value×List L×NV) (G9 : RO), R.le G9 → (x8.1 = y.n∧NI y d G9 x8.1 x8.2.1 x8.2.2.1 x8.2.2.2.1 x8.2.2.2.2.1) → (a6 = a6)∧(a1 = a1)∧(a1 = a1)∧(fun (r : Out) (G : RO) (B : Hp) => ∃ x : NR, (x.ok G∧x.t = T.nrm d y.t)∧r = .ret (x.v)∧B = [gsb x.b x.rows 29 (x.cap * 5)]) (.ret (.agg #[vi 3, vu 0, .string y.s, gsv x8.2.1 x8.1 x8.2.2.1, .slice none 0 0])) G9 [gsb x8.2.1 x8.2.2.2.1 29 (x8.2.2.1 * 5)])∧True)∧((y.k == 3) = false → ((y.k == 4) = true → (a0 = a0)∧(((y.n : Int) == 1) = true → (a0 = a0)∧(y.aa = some ⟨y.AB, y.AO, none⟩∧(0 : Int) ≤ 0∧(0 : Int) < (y.n : Int))∧(R.cells y.AB (y.AO + Int.toNat 0 * 5) [vi ((y.kid 0).k), vu ((y.kid 0).id), .string ((y.kid 0).s), .slice (y.kid 0).aa ((y.kid 0).n) ((y.kid 0).ac), .slice (y.kid 0).pa ((y.kid 0).m) ((y.kid 0).pc)])∧(NW .i64 ((d : Int) + 1))∧(Does Tryd.prog 30 [.agg #[vi ((y.kid 0).k), vu ((y.kid 0).id), .string ((y.kid 0).s), .slice (y.kid 0).aa ((y.kid 0).n) ((y.kid 0).ac), .slice (y.kid 0).pa ((y.kid 0).m) ((y.kid 0).pc)], vi ((d : Int) + 1)] R [] (fun r G B => ∃ z8 : L, (z8.ok G∧z8.t = T.nrm (d + 1) (y.kid 0).t)∧r = .ret (.agg z8.row.toArray)∧B = []))∧∀ (z8 : L) (G9 : RO), let z1 : Array Value := z8.row.toArray;R.le G9 → (z8.ok G9∧z8.t = T.nrm (d + 1) (y.kid 0).t) → (a0 = a0)∧(Does Tryd.prog 34 [.agg z1, .slice y.pa y.m y.pc] G9 [] (fun r G B => ∃ z10 : L, (z10.ok G∧∃ t, IsV G (.agg z1) t∧z10.t = T.pow t y.pl)∧r = .ret (.agg z10.row.toArray)∧B = []))∧∀ (z10 : L) (G11 : RO), G9.le G11 → (z10.ok G11∧∃ t, IsV G11 (.agg z1) t∧z10.t = T.pow t y.pl) → (a1 = a1)∧(a1 = a1)∧(fun (r : Out) (G : RO) (B : Hp) => ∃ x : NR, (x.ok G∧x.t = T.nrm d y.t)∧r = .ret (x.v)∧B = [gsb x.b x.rows 29 (x.cap * 5)]) (.ret (.agg z10.row.toArray)) G11 [none])∧(((y.n : Int) == 1) = false → z2∧(a1 = a1)∧(a1 = a1)∧(fun (r : Out) (G : RO) (B : Hp) => ∃ x : NR, (x.ok G∧x.t = T.nrm d y.t)∧r = .ret (x.v)∧B = [gsb x.b x.rows 29 (x.cap * 5)]) (.ret (.agg z0)) R [none]))∧((y.k == 4) = false → z2∧(a1 = a1)∧(a1 = a1)∧(fun (r : Out) (G : RO) (B : Hp) => ∃ x : NR, (x.ok G∧x.t = T.nrm d y.t)∧r = .ret (x.v)∧B = [gsb x.b x.rows 29 (x.cap * 5)]) (.ret (.agg z0)) R [none]))))))) (let y_0 := (ops [.call0 [] [] (fun e v => .ret (.agg #[vi 2, vu 0, .string ByteArray.empty, .slice none 0 0, .slice none 0 0])) (fun e v => []), .p 1] (.fin [2] [(1, none)]));.opn 0 (fun a0 => (.opn 1 (fun a1 => (ops [.d, .d] (.sp 9 y_0 (ops [.d, .p 0, .d, .d] (.sp 13 (ops [.d, .p 0, .call0 [] [] (fun e v => .ret (.agg #[vi 1, vu y.id, .string ByteArray.empty, .slice none 0 0, .slice none 0 0])) (fun e v => []), .p 1] (.fin [2] [(1, none)])) (ops [.d, .d] (.sp 18 (ops [.d, .p 0, .call0 [] [] (fun e v => .ret (.agg #[vi 2, vu 0, .string y.s, .slice none 0 0, .slice none 0 0])) (fun e v => []), .p 1] (.fin [2] [(1, none)])) (ops [.d, .d] (.sp 23 (ops [.d, .p 0, .d] (.opn 2 (fun a6 => (ops [.p 2, .d, .p 0, .d, .d] (.altG (Nat×Option Nat×Nat×List Value×List L×NV) (fun zx G => zx.1 = y.n∧NI y d G zx.1 zx.2.1 zx.2.2.1 zx.2.2.2.1 zx.2.2.2.2.1) (fun zx => (.exit 1, ((normal_own_L11_inv y d a0 a1 a6 zx).up [] [some (a0, .row y.row 29 5), some (a1, .row [vi 0, vu 0, .string ByteArray.empty, .slice none 0 0, .slice none 0 0] 29 5), some (a6, .row [vi 3, vu 0, .string y.s, gsv zx.2.1 zx.1 zx.2.2.1, .slice none 0 0] 29 5), gsb zx.2.1 zx.2.2.2.1 29 (zx.2.2.1 * 5)]))) (fun x8 => (ops [.p 2, .p 1] (.fin [3] [(1, none)]))) .altn))))) (ops [.d, .d] (.sp 46 (ops [.d, .p 0, .d, .d] (.sp 51 (.dr [some (.d), some (.p 0), some (.ib y.AB y.AO), some (.ro (fun v => [vi ((y.kid 0).k), vu ((y.kid 0).id), .string ((y.kid 0).s), .slice (y.kid 0).aa ((y.kid 0).n) ((y.kid 0).ac), .slice (y.kid 0).pa ((y.kid 0).m) ((y.kid 0).pc)])), some (.d), some (.nw), some (.callG [] [] (L) (fun e v z8 G => z8.ok G∧z8.t = T.nrm (d + 1) (y.kid 0).t) (fun e v z8 => (.agg z8.row.toArray, []))), some (.d), some (.p 0), some (.callG [] [] (L) (fun e v z10 G => z10.ok G∧∃ t, IsV G (v.getD 1 .nilFunc) t∧z10.t = T.pow t y.pl) (fun e v z10 => (.agg z10.row.toArray, []))), some (.p 1)] (.fin [2] [(1, none)])) y_0)) y_0)))))))))))))) Tryd.func30 (by kernel_rfl) (by kernel_rfl)
    (fun a0 => fun a1 => ⟨fun h2 => (have := of_decide_eq_true h2;⟨(word_ok ByteArray.empty R), ⟨rfl, ⟨rfl, ⟨(NR.done (L.word .empty)), ⟨L.word_ok _ _, (nrm_deep (by omega)).symm⟩, (by rfl), (by rfl)⟩⟩⟩⟩), fun h2 => (have := of_decide_eq_false h2;⟨rfl, ⟨fun h3 => (have := eq_of_beq h3;⟨rfl, ⟨(atom_ok y.id R), ⟨rfl, ⟨rfl, ⟨(NR.done (L.atom y.id)), ⟨L.atom_ok _ _, (nrm_atom (by omega) (by omega)).symm⟩, (by rfl), (by rfl)⟩⟩⟩⟩⟩), fun h3 => (have := ne_of_beq_false h3;⟨fun h4 => (have := eq_of_beq h4;⟨rfl, ⟨(word_ok y.s R), ⟨rfl, ⟨rfl, ⟨(NR.done (L.word y.s)), ⟨L.word_ok _ _, (nrm_word (by omega) (by omega)).symm⟩, (by rfl), (by rfl)⟩⟩⟩⟩⟩), fun h4 => (have := ne_of_beq_false h4;⟨fun h5 => (have := eq_of_beq h5;⟨rfl, fun a6 => ⟨rfl, ⟨rfl, ⟨normal_own_L11_ct y d a0 a1 a6 R (hrec (by omega)) hy hw (by omega), ⟨fun x8 G9 hG9 qx8 => (have hy := L.ok_mono hG9 _ hy;⟨rfl, ⟨rfl, ⟨rfl, ⟨(NR.hash x8.2.1 x8.2.2.1 y.s x8.2.2.2.2.1), ⟨⟨qx8.2.2.2.2.2.2.2.1, (by rw [qx8.2.2.2.2.2.1];exact qx8.2.2.2.1), qx8.2.2.2.2.1, qx8.2.2.1⟩, (by rw [nrm_hash (zs := x8.2.2.2.2.1) (by omega) (by omega) (by rw [qx8.2.2.2.2.2.2.2.2, qx8.1])];rfl)⟩, (by exact congrArg (fun z => Out.ret (.agg #[vi 3, vu 0, .string y.s, gsv _ z _, .slice none 0 0])) (qx8.2.2.2.2.2.1).symm), (by exact congrArg (fun z => [gsb _ z 29 _]) (qx8.2.2.2.2.2.2.1))⟩⟩⟩⟩), trivial⟩⟩⟩⟩⟩), fun h5 => (have := ne_of_beq_false h5;⟨fun h6 => (have := eq_of_beq h6;⟨rfl, ⟨fun h7 => (have := eq_of_beq h7;⟨rfl, ⟨⟨(hy.arg (j := 0) (by omega)).1, by omega, by omega⟩, ⟨(hy.arg (j := 0) (by omega)).2, ⟨(nwI (by omega) (by omega)), ⟨(hrec (by omega) (y.kid 0) R (hy.kid (by omega)) (by have h9 := L.wt_kid y (j := 0) (by omega);omega)), fun z8 G9 hG9 qz8 => (have hy := L.ok_mono hG9 _ hy;⟨rfl, ⟨((power_ok z8 y.pa y.m y.pc y.PB y.PO y.pw G9 qz8.1 (fun h9 => nrm_n qz8.2 h9) (by have h9 := nrm_m qz8.2;have h8 := L.wt_kid y (j := 0) (by omega);omega) hy.pow).mono (fun o G B hle ⟨z, ⟨h1, h2⟩, h3⟩ => ⟨z, ⟨h1, _, ⟨z8, rfl, L.ok_mono hle _ qz8.1, rfl⟩, h2⟩, h3⟩)), fun z10 G11 hG11 qz10 => (have hy := L.ok_mono hG11 _ hy;have qz8 := And.intro (L.ok_mono hG11 _ qz8.1) qz8.2;⟨rfl, ⟨rfl, ⟨(NR.done z10), ⟨qz10.1, (by rw [nrm_pow (by omega) (by omega) (by omega), ← qz8.2];exact pow_of qz10.2 qz8.1)⟩, (by rfl), (by rfl)⟩⟩⟩)⟩⟩)⟩⟩⟩⟩⟩), fun h7 => (have := ne_of_beq_false h7;⟨(word_ok ByteArray.empty R), ⟨rfl, ⟨rfl, ⟨(NR.done (L.word .empty)), ⟨L.word_ok _ _, (nrm_else (by omega) (by omega) (by omega) (by omega)).symm⟩, (by rfl), (by rfl)⟩⟩⟩⟩)⟩⟩), fun h6 => (have := ne_of_beq_false h6;⟨(word_ok ByteArray.empty R), ⟨rfl, ⟨rfl, ⟨(NR.done (L.word .empty)), ⟨L.word_ok _ _, (nrm_else (by omega) (by omega) (by omega) (by omega)).symm⟩, (by rfl), (by rfl)⟩⟩⟩⟩)⟩)⟩)⟩)⟩⟩)⟩)
theorem normal_frz {y : L} {d : Nat} {R : RO} (h : Does Tryd.prog 30 [y.v, vi (d : Int)] R [] (fun (r : Out) (G : RO) (B : Hp) => ∃ x : NR, (x.ok G∧x.t = T.nrm d y.t)∧r = .ret x.v∧B = [gsb x.b x.rows 29 (x.cap * 5)])) :
    Does Tryd.prog 30 [y.v, vi (d : Int)] R [] (fun r G B => ∃ z : L, (z.ok G∧z.t = T.nrm d y.t)∧r = .ret z.v∧B = []) := by
  refine (Does.freeze (X := NR) (q := fun x G => x.ok G∧x.t = T.nrm d y.t) (g := fun x => (x.v, [gsb x.b x.rows 29 (x.cap * 5)])) h).mono ?_
  rintro o G B hle ⟨x, G0, h0, ⟨q1, q2⟩, hc, rfl, rfl⟩
  cases x with
  | done z => exact ⟨z, ⟨L.ok_mono h0 _ q1, q2⟩, rfl, rfl⟩
  | hash b cap s zs =>
    obtain ⟨q3, q4, q5, q6⟩ := q1
    refine ⟨hsL b cap s zs, ⟨hsL_ok (fun z hz => L.ok_mono h0 _ (q3 z hz)) q4 q5 q6 fun a ha => hc 0 a _ 29 _ (by show Hp.at [gsb b _ 29 _] 0 = _;rw [ha];rfl), ?_⟩, rfl, rfl⟩
    rw [hsL_t];exact q2
theorem normal_ok : ∀ (c d : Nat), d + c = 41 → ∀ (y : L) (R : RO), y.ok R → y.t.wt ≤ 1000000 → Does Tryd.prog 30 [y.v, vi (d : Int)] R [] (fun r G B => ∃ z : L, (z.ok G∧z.t = T.nrm d y.t)∧r = .ret z.v∧B = []) := by
  intro c
  induction c with
  | zero => exact fun d hd y R hy hw => normal_frz (normal_own y d R (fun h => by omega) hy hw (by omega))
  | succ c ih => exact fun d hd y R hy hw => normal_frz (normal_own y d R (fun _ y S h1 h2 => ih (d + 1) (by omega) y S h1 h2) hy hw (by omega))
end Go.Proofs.YtehbmooelcjfoaaDoor
namespace Go.Proofs
open Go.Shelf
def Tryd.lays156_ren : Go.Shelf.Ren := ⟨fun | 156 => 37 | 165 => 43 | 166 => 44 | 169 => 45 | 240 => 55 | 241 => 56 | 276 => 66 | 277 => 67 | n => n, fun | 31 => 41 | 9 => 9 | 3 => 3 | 4 => 4 | 0 => 0 | 20 => 20 | 72 => 80 | 76 => 84 | 70 => 78 | 37 => 54 | 75 => 83 | 127 => 102 | 164 => 112 | 5 => 5 | 80 => 86 | n => n, fun | n => n⟩
theorem Tryd.lays156 : Go.Proofs.Lays.n156 Tryd.prog Tryd.lays156_ren := {
  mixed := by kernel_rfl
  f156 := Tryd.func37.trans (congrArg some (by kernel_rfl))
  f165 := Tryd.func43.trans (congrArg some (by kernel_rfl))
  f166 := Tryd.func44.trans (congrArg some (by kernel_rfl))
  f169 := Tryd.func45.trans (congrArg some (by kernel_rfl))
  f240 := Tryd.func55.trans (congrArg some (by kernel_rfl))
  f241 := Tryd.func56.trans (congrArg some (by kernel_rfl))
  f276 := Tryd.func66.trans (congrArg some (by kernel_rfl))
  f277 := Tryd.func67.trans (congrArg some (by kernel_rfl))
  t0 := Tryd.underlying0
  a0 := Tryd.isAgg0
  z0 := Tryd.sizeOf0
  v0 := Tryd.zeroValue0
  t3 := Tryd.underlying3
  a3 := Tryd.isAgg3
  z3 := Tryd.sizeOf3
  v3 := Tryd.zeroValue3
  t4 := Tryd.underlying4
  a4 := Tryd.isAgg4
  z4 := Tryd.sizeOf4
  v4 := Tryd.zeroValue4
  t9 := Tryd.underlying9
  a9 := Tryd.isAgg9
  z9 := Tryd.sizeOf9
  v9 := Tryd.zeroValue9
  t20 := Tryd.underlying20
  a20 := Tryd.isAgg20
  z20 := Tryd.sizeOf20
  v20 := Tryd.zeroValue20
  t31 := Tryd.underlying41
  a31 := Tryd.isAgg41
  z31 := Tryd.sizeOf41
  v31 := Tryd.zeroValue41
  t37 := Tryd.underlying54
  a37 := Tryd.isAgg54
  z37 := Tryd.sizeOf54
  v37 := Tryd.zeroValue54
  t70 := Tryd.underlying78
  a70 := Tryd.isAgg78
  z70 := Tryd.sizeOf78
  v70 := Tryd.zeroValue78
  t72 := Tryd.underlying80
  a72 := Tryd.isAgg80
  z72 := Tryd.sizeOf80
  v72 := Tryd.zeroValue80
  t75 := Tryd.underlying83
  a75 := Tryd.isAgg83
  z75 := Tryd.sizeOf83
  v75 := Tryd.zeroValue83
  t76 := Tryd.underlying84
  a76 := Tryd.isAgg84
  z76 := Tryd.sizeOf84
  v76 := Tryd.zeroValue84
  t127 := Tryd.underlying102
  a127 := Tryd.isAgg102
  z127 := Tryd.sizeOf102
  v127 := Tryd.zeroValue102
  t164 := Tryd.underlying112
  a164 := Tryd.isAgg112
  z164 := Tryd.sizeOf112
  v164 := Tryd.zeroValue112 }
def Tryd.lays169_ren : Go.Shelf.Ren := ⟨fun | 169 => 45 | n => n, fun | 70 => 78 | 9 => 9 | 0 => 0 | 72 => 80 | 37 => 54 | 127 => 102 | 3 => 3 | 5 => 5 | n => n, fun | n => n⟩
theorem Tryd.lays169 : Go.Proofs.Lays.n169 Tryd.prog Tryd.lays169_ren := {
  mixed := by kernel_rfl
  f169 := Tryd.func45.trans (congrArg some (by kernel_rfl))
  t0 := Tryd.underlying0
  a0 := Tryd.isAgg0
  z0 := Tryd.sizeOf0
  v0 := Tryd.zeroValue0
  t3 := Tryd.underlying3
  a3 := Tryd.isAgg3
  z3 := Tryd.sizeOf3
  v3 := Tryd.zeroValue3
  t9 := Tryd.underlying9
  a9 := Tryd.isAgg9
  z9 := Tryd.sizeOf9
  v9 := Tryd.zeroValue9
  t37 := Tryd.underlying54
  a37 := Tryd.isAgg54
  z37 := Tryd.sizeOf54
  v37 := Tryd.zeroValue54
  t70 := Tryd.underlying78
  a70 := Tryd.isAgg78
  z70 := Tryd.sizeOf78
  v70 := Tryd.zeroValue78
  t72 := Tryd.underlying80
  a72 := Tryd.isAgg80
  z72 := Tryd.sizeOf80
  v72 := Tryd.zeroValue80
  t127 := Tryd.underlying102
  a127 := Tryd.isAgg102
  z127 := Tryd.sizeOf102
  v127 := Tryd.zeroValue102 }
def Tryd.lays171_ren : Go.Shelf.Ren := ⟨fun | 171 => 38 | 243 => 46 | 246 => 57 | 283 => 50 | 284 => 51 | 285 => 52 | 286 => 53 | 129 => 62 | 317 => 61 | 318 => 63 | 319 => 64 | 320 => 65 | 337 => 71 | 338 => 72 | n => n, fun | 3 => 3 | 9 => 9 | 2 => 2 | 4 => 4 | 171 => 95 | 0 => 0 | 53 => 73 | 37 => 54 | 5 => 5 | 173 => 98 | 212 => 108 | 51 => 23 | 20 => 20 | 213 => 109 | 46 => 101 | 232 => 126 | 233 => 127 | n => n, fun | 17 => 0 | 18 => 2 | 19 => 3 | n => n⟩
theorem Tryd.lays171 : Go.Proofs.LaysM.n171 Tryd.prog Tryd.lays171_ren := {
  mixed := by kernel_rfl
  f129 := Tryd.func62.trans (congrArg some (by kernel_rfl))
  f171 := Tryd.func38.trans (congrArg some (by kernel_rfl))
  f243 := Tryd.func46.trans (congrArg some (by kernel_rfl))
  f246 := Tryd.func57.trans (congrArg some (by kernel_rfl))
  f283 := Tryd.func50.trans (congrArg some (by kernel_rfl))
  f284 := Tryd.func51.trans (congrArg some (by kernel_rfl))
  f285 := Tryd.func52.trans (congrArg some (by kernel_rfl))
  f286 := Tryd.func53.trans (congrArg some (by kernel_rfl))
  f317 := Tryd.func61.trans (congrArg some (by kernel_rfl))
  f318 := Tryd.func63.trans (congrArg some (by kernel_rfl))
  f319 := Tryd.func64.trans (congrArg some (by kernel_rfl))
  f320 := Tryd.func65.trans (congrArg some (by kernel_rfl))
  f337 := Tryd.func71.trans (congrArg some (by kernel_rfl))
  f338 := Tryd.func72.trans (congrArg some (by kernel_rfl))
  t0 := Tryd.underlying0
  a0 := Tryd.isAgg0
  z0 := Tryd.sizeOf0
  v0 := Tryd.zeroValue0
  t2 := Tryd.underlying2
  a2 := Tryd.isAgg2
  z2 := Tryd.sizeOf2
  v2 := Tryd.zeroValue2
  t3 := Tryd.underlying3
  a3 := Tryd.isAgg3
  z3 := Tryd.sizeOf3
  v3 := Tryd.zeroValue3
  t4 := Tryd.underlying4
  a4 := Tryd.isAgg4
  z4 := Tryd.sizeOf4
  v4 := Tryd.zeroValue4
  t5 := Tryd.underlying5
  a5 := Tryd.isAgg5
  z5 := Tryd.sizeOf5
  v5 := Tryd.zeroValue5
  t9 := Tryd.underlying9
  a9 := Tryd.isAgg9
  z9 := Tryd.sizeOf9
  v9 := Tryd.zeroValue9
  t20 := Tryd.underlying20
  a20 := Tryd.isAgg20
  z20 := Tryd.sizeOf20
  v20 := Tryd.zeroValue20
  t37 := Tryd.underlying54
  a37 := Tryd.isAgg54
  z37 := Tryd.sizeOf54
  v37 := Tryd.zeroValue54
  t46 := Tryd.underlying101
  a46 := Tryd.isAgg101
  z46 := Tryd.sizeOf101
  v46 := Tryd.zeroValue101
  t51 := Tryd.underlying23
  a51 := Tryd.isAgg23
  z51 := Tryd.sizeOf23
  v51 := Tryd.zeroValue23
  t53 := Tryd.underlying73
  a53 := Tryd.isAgg73
  z53 := Tryd.sizeOf73
  v53 := Tryd.zeroValue73
  t171 := Tryd.underlying95
  a171 := Tryd.isAgg95
  z171 := Tryd.sizeOf95
  v171 := Tryd.zeroValue95
  t173 := Tryd.underlying98
  a173 := Tryd.isAgg98
  z173 := Tryd.sizeOf98
  v173 := Tryd.zeroValue98
  t212 := Tryd.underlying108
  a212 := Tryd.isAgg108
  z212 := Tryd.sizeOf108
  v212 := Tryd.zeroValue108
  t213 := Tryd.underlying109
  a213 := Tryd.isAgg109
  z213 := Tryd.sizeOf109
  t232 := Tryd.underlying126
  a232 := Tryd.isAgg126
  z232 := Tryd.sizeOf126
  v232 := Tryd.zeroValue126
  t233 := Tryd.underlying127
  a233 := Tryd.isAgg127
  z233 := Tryd.sizeOf127
  v233 := Tryd.zeroValue127
  g17 := by kernel_rfl
  g18 := by kernel_rfl
  g19 := by kernel_rfl
  i0 := by kernel_rfl
  i2 := by kernel_rfl
  i3 := by kernel_rfl
  i4 := by kernel_rfl
  i5 := by kernel_rfl
  i9 := by kernel_rfl
  i20 := by kernel_rfl
  i37 := by kernel_rfl
  i46 := by kernel_rfl
  i51 := by kernel_rfl
  i53 := by kernel_rfl
  i171 := by kernel_rfl
  i173 := by kernel_rfl
  i212 := by kernel_rfl
  i232 := by kernel_rfl
  i233 := by kernel_rfl
  m17 := by kernel_rfl
  m18 := by kernel_rfl
  m19 := by kernel_rfl }
def Tryd.lays284_ren : Go.Shelf.Ren := ⟨fun | 284 => 51 | 129 => 62 | 317 => 61 | 318 => 63 | n => n, fun | 53 => 73 | 3 => 3 | 212 => 108 | 0 => 0 | 4 => 4 | 46 => 101 | 5 => 5 | 9 => 9 | n => n, fun | 17 => 0 | n => n⟩
theorem Tryd.lays284 : Go.Proofs.LaysM.n284 Tryd.prog Tryd.lays284_ren := {
  mixed := by kernel_rfl
  f129 := Tryd.func62.trans (congrArg some (by kernel_rfl))
  f284 := Tryd.func51.trans (congrArg some (by kernel_rfl))
  f317 := Tryd.func61.trans (congrArg some (by kernel_rfl))
  f318 := Tryd.func63.trans (congrArg some (by kernel_rfl))
  t0 := Tryd.underlying0
  a0 := Tryd.isAgg0
  z0 := Tryd.sizeOf0
  v0 := Tryd.zeroValue0
  t3 := Tryd.underlying3
  a3 := Tryd.isAgg3
  z3 := Tryd.sizeOf3
  v3 := Tryd.zeroValue3
  t4 := Tryd.underlying4
  a4 := Tryd.isAgg4
  z4 := Tryd.sizeOf4
  v4 := Tryd.zeroValue4
  t5 := Tryd.underlying5
  a5 := Tryd.isAgg5
  z5 := Tryd.sizeOf5
  v5 := Tryd.zeroValue5
  t9 := Tryd.underlying9
  a9 := Tryd.isAgg9
  z9 := Tryd.sizeOf9
  v9 := Tryd.zeroValue9
  t46 := Tryd.underlying101
  a46 := Tryd.isAgg101
  z46 := Tryd.sizeOf101
  v46 := Tryd.zeroValue101
  t53 := Tryd.underlying73
  a53 := Tryd.isAgg73
  z53 := Tryd.sizeOf73
  v53 := Tryd.zeroValue73
  t212 := Tryd.underlying108
  a212 := Tryd.isAgg108
  z212 := Tryd.sizeOf108
  v212 := Tryd.zeroValue108
  g17 := by kernel_rfl
  i0 := by kernel_rfl
  i3 := by kernel_rfl
  i4 := by kernel_rfl
  i5 := by kernel_rfl
  i9 := by kernel_rfl
  i46 := by kernel_rfl
  i53 := by kernel_rfl
  i212 := by kernel_rfl
  m17 := by kernel_rfl }
def Tryd.lays285_ren : Go.Shelf.Ren := ⟨fun | 285 => 52 | n => n, fun | 37 => 54 | 53 => 73 | 3 => 3 | 4 => 4 | 51 => 23 | 9 => 9 | 5 => 5 | 0 => 0 | n => n, fun | n => n⟩
theorem Tryd.lays285 : Go.Proofs.Lays.n285 Tryd.prog Tryd.lays285_ren := {
  mixed := by kernel_rfl
  f285 := Tryd.func52.trans (congrArg some (by kernel_rfl))
  t0 := Tryd.underlying0
  a0 := Tryd.isAgg0
  z0 := Tryd.sizeOf0
  v0 := Tryd.zeroValue0
  t3 := Tryd.underlying3
  a3 := Tryd.isAgg3
  z3 := Tryd.sizeOf3
  v3 := Tryd.zeroValue3
  t4 := Tryd.underlying4
  a4 := Tryd.isAgg4
  z4 := Tryd.sizeOf4
  v4 := Tryd.zeroValue4
  t5 := Tryd.underlying5
  a5 := Tryd.isAgg5
  z5 := Tryd.sizeOf5
  v5 := Tryd.zeroValue5
  t9 := Tryd.underlying9
  a9 := Tryd.isAgg9
  z9 := Tryd.sizeOf9
  v9 := Tryd.zeroValue9
  t37 := Tryd.underlying54
  a37 := Tryd.isAgg54
  z37 := Tryd.sizeOf54
  v37 := Tryd.zeroValue54
  t51 := Tryd.underlying23
  a51 := Tryd.isAgg23
  z51 := Tryd.sizeOf23
  v51 := Tryd.zeroValue23
  t53 := Tryd.underlying73
  a53 := Tryd.isAgg73
  z53 := Tryd.sizeOf73
  v53 := Tryd.zeroValue73 }
def Tryd.lays283_ren : Go.Shelf.Ren := ⟨fun | 283 => 50 | n => n, fun | 3 => 3 | 9 => 9 | 4 => 4 | n => n, fun | n => n⟩
theorem Tryd.lays283 : Go.Proofs.Lays.n283 Tryd.prog Tryd.lays283_ren := {
  mixed := by kernel_rfl
  f283 := Tryd.func50.trans (congrArg some (by kernel_rfl))
  t3 := Tryd.underlying3
  a3 := Tryd.isAgg3
  z3 := Tryd.sizeOf3
  v3 := Tryd.zeroValue3
  t4 := Tryd.underlying4
  a4 := Tryd.isAgg4
  z4 := Tryd.sizeOf4
  v4 := Tryd.zeroValue4
  t9 := Tryd.underlying9
  a9 := Tryd.isAgg9
  z9 := Tryd.sizeOf9
  v9 := Tryd.zeroValue9 }
theorem Tryd.Builder_Extra_156 : Builder.Extra Tryd.prog Tryd.lays156_ren := {
  sizeBuilder := by kernel_rfl
  liesBuilder := by kernel_rfl
  t5 := Tryd.underlying5
  a5 := Tryd.isAgg5
  z5 := Tryd.sizeOf5
  v5 := Tryd.zeroValue5
  infoByte := by kernel_rfl
  cellsByte := by kernel_rfl
  sizeByte := by kernel_rfl
  neB5 := by decide }
theorem Tryd.Builder_Extra_169 : Builder.Extra Tryd.prog Tryd.lays169_ren := {
  sizeBuilder := by kernel_rfl
  liesBuilder := by kernel_rfl
  t5 := Tryd.underlying5
  a5 := Tryd.isAgg5
  z5 := Tryd.sizeOf5
  v5 := Tryd.zeroValue5
  infoByte := by kernel_rfl
  cellsByte := by kernel_rfl
  sizeByte := by kernel_rfl
  neB5 := by decide }
end Go.Proofs
namespace Go.Proofs.YtehbmooelcjfoaaDoor
open Go Go.RowKit Go.Proofs
set_option linter.unusedVariables false
set_option linter.unusedSimpArgs false
def lays167_ren : Go.Shelf.Ren := ⟨fun | 167 => 54 | 240 => 55 | 276 => 66 | n => n, fun | 9 => 9 | 4 => 4 | 0 => 0 | 20 => 20 | 72 => 80 | 70 => 78 | 37 => 54 | 75 => 83 | 164 => 112 | 5 => 5 | 80 => 86 | n => n, fun | n => n⟩
theorem lays167 : Go.Proofs.Lays.n167 Tryd.prog lays167_ren := {
  mixed := by kernel_rfl
  f167 := Tryd.func54.trans (congrArg some (by kernel_rfl))
  f240 := Tryd.func55.trans (congrArg some (by kernel_rfl))
  f276 := Tryd.func66.trans (congrArg some (by kernel_rfl))
  t0 := Tryd.underlying0
  a0 := Tryd.isAgg0
  z0 := Tryd.sizeOf0
  v0 := Tryd.zeroValue0
  t4 := Tryd.underlying4
  a4 := Tryd.isAgg4
  z4 := Tryd.sizeOf4
  v4 := Tryd.zeroValue4
  t5 := Tryd.underlying5
  a5 := Tryd.isAgg5
  z5 := Tryd.sizeOf5
  v5 := Tryd.zeroValue5
  t9 := Tryd.underlying9
  a9 := Tryd.isAgg9
  z9 := Tryd.sizeOf9
  v9 := Tryd.zeroValue9
  t20 := Tryd.underlying20
  a20 := Tryd.isAgg20
  z20 := Tryd.sizeOf20
  v20 := Tryd.zeroValue20
  t37 := Tryd.underlying54
  a37 := Tryd.isAgg54
  z37 := Tryd.sizeOf54
  v37 := Tryd.zeroValue54
  t70 := Tryd.underlying78
  a70 := Tryd.isAgg78
  z70 := Tryd.sizeOf78
  v70 := Tryd.zeroValue78
  t72 := Tryd.underlying80
  a72 := Tryd.isAgg80
  z72 := Tryd.sizeOf80
  v72 := Tryd.zeroValue80
  t75 := Tryd.underlying83
  a75 := Tryd.isAgg83
  z75 := Tryd.sizeOf83
  v75 := Tryd.zeroValue83
  t164 := Tryd.underlying112
  a164 := Tryd.isAgg112
  z164 := Tryd.sizeOf112
  v164 := Tryd.zeroValue112 }
theorem extra167 : Builder.Extra Tryd.prog lays167_ren := {
  sizeBuilder := by kernel_rfl
  liesBuilder := by kernel_rfl
  t5 := Tryd.underlying5
  a5 := Tryd.isAgg5
  z5 := Tryd.sizeOf5
  v5 := Tryd.zeroValue5
  infoByte := by kernel_rfl
  cellsByte := by kernel_rfl
  sizeByte := by kernel_rfl
  neB5 := by decide }
def digB (n : Nat) : UInt8 := ([48, 49, 50, 51, 52, 53, 54, 55, 56, 57, 97, 98, 99, 100, 101, 102] : List UInt8).getD n 0
def hexL (l : List UInt8) : List UInt8 := l.flatMap fun x => [digB (x.toNat / 16), digB (x.toNat % 16)]
theorem hexL_len : ∀ l : List UInt8, (hexL l).length = 2 * l.length
  | [] => rfl
  | x::l => by
    have := hexL_len l
    simp only [hexL, List.flatMap_cons, List.length_append, List.length_cons, List.length_nil] at *
    omega
theorem hexL_take (l : List UInt8) (k : Nat) (h : k < l.length) : hexL (l.take (k + 1)) = hexL (l.take k) ++ [digB (l[k].toNat / 16), digB (l[k].toNat % 16)] := by
  rw [List.take_succ_eq_append_getElem h]
  simp only [hexL, List.flatMap_append, List.flatMap_cons, List.flatMap_nil, List.append_nil]
theorem dig_cell {n : Nat} (h : n < 16) : ((⟨#[48, 49, 50, 51, 52, 53, 54, 55, 56, 57, 97, 98, 99, 100, 101, 102]⟩ : ByteArray)[n]'h).toNat = (digB n).toNat := by
  have : ∀ m : Fin 16, ((⟨#[48, 49, 50, 51, 52, 53, 54, 55, 56, 57, 97, 98, 99, 100, 101, 102]⟩ : ByteArray)[m.1]'m.2).toNat = (digB m.1).toNat := by decide
  exact this ⟨n, h⟩
theorem hex_walk (s : ByteArray) (w : World) (hs : s.size ≤ 35184372088832) :
    Calls Tryd.prog 42 #[.string s] w fun e w' => e = .returned (.string ⟨(hexL s.data.toList).toArray⟩)∧Below w.heap.size w w' := by
  go_enter Tryd.func42, Tryd.ntmps42
  go_wp2
  go_loopw [7] (fun i wr => ∃ k : Nat, k ≤ s.size∧i = .int .i64 k∧Hid (Lib.IsBuilder 80 5 w.heap.size w.heap.size (Lib.byteCells (hexL (s.data.toList.take k))) wr)∧Hid (Below w.heap.size w wr)) (fun i wr => s.size - (intOf i).toNat)
  case atStart =>
    exact ⟨0, Nat.zero_le _, rfl, Lib.fresh_isBuilder 80 5 w, (Below.refl _ w).alloc (Nat.le_refl _) _⟩
  case round =>
    obtain ⟨k, hk', rfl, HB, HW⟩ := hrel
    by_cases hkr : k < s.size
    · have hBw : w.heap.size ≤ wr.heap.size := HW.out.size
      have hx : 0 ≤ ((s[k].toNat : Nat) : Int) / 16∧((s[k].toNat : Nat) : Int) / 16 < 16 := by
        have := s[k].toNat_lt;omega
      go_wp2_with fail
      refine (Any.Builder_WriteByte lays167 extra167 w.heap.size w.heap.size _ _ wr HB.out (by rw [Lib.byteCells_length, hexL_len, List.length_take];omega) hBw).mono ?_
      rintro e w1 ⟨rfl, h1, hb1⟩
      have H1 := Any.hidJ (Or.inr h1 : Lib.IsBuilder 80 5 w.heap.size w.heap.size _ w1)
      have Hb1 := Any.hidJ (HW.out.trans hb1)
      have hBw1 : w.heap.size ≤ w1.heap.size := Hb1.out.size
      clear h1 hb1
      go_wp2_with fail
      refine (Any.Builder_WriteByte lays167 extra167 w.heap.size w.heap.size _ _ w1 H1.out (by rw [List.length_append, Lib.byteCells_length, hexL_len, List.length_take];simp only [List.length_cons, List.length_nil];omega) hBw1).mono ?_
      rintro e w2 ⟨rfl, h2, hb2⟩
      have hkl : k < s.data.toList.length := by rw [Array.length_toList];exact hkr
      have hcells : Lib.byteCells (hexL (s.data.toList.take k)) ++ [Value.int .u8 ((digB (s[k].toNat / 16)).toNat : Int)] ++ [Value.int .u8 ((digB (s[k].toNat % 16)).toNat : Int)] = Lib.byteCells (hexL (s.data.toList.take (k + 1))) := by
        rw [hexL_take _ _ hkl, Lib.byteCells_append, List.append_assoc]
        rfl
      rw [dig_cell (by omega), dig_cell (by omega), hcells] at h2
      have H2 := Any.hidJ (Or.inr h2 : Lib.IsBuilder 80 5 w.heap.size w.heap.size _ w2)
      have Hb2 := Any.hidJ (Hb1.out.trans hb2)
      clear h2 hb2 hcells hkl
      go_wp2
      exact ⟨⟨k + 1, by omega, by go_num, H2, Hb2⟩, by simp [intOf];omega⟩
    · have hke : k = s.size := by omega
      subst hke
      have hBw : w.heap.size ≤ wr.heap.size := HW.out.size
      have hall : s.data.toList.take s.size = s.data.toList := List.take_of_length_le (by rw [Array.length_toList];exact Nat.le_refl _)
      rw [hall] at HB
      have HB2 := HB.out
      clear hall
      go_wp2_with fail
      refine (Any.Builder_String_any Tryd.lays169 Tryd.Builder_Extra_169 w.heap.size w.heap.size _ wr HB2 hBw).mono ?_
      rintro e w5 ⟨rfl, hb5⟩
      have Hb5 := Any.hidJ (HW.out.trans hb5)
      clear hb5 HB2 HB
      go_wp2
      go_ret
      exact ⟨rfl, Hb5.out⟩
end Go.Proofs.YtehbmooelcjfoaaDoor
namespace Go.Proofs.YtehbmooelcjfoaaDoor
open Go Go.RowKit Go.Sort Go.Proofs
set_option linter.unusedVariables false
set_option linter.unusedSimpArgs false
theorem holds0 (w : World) (T : TypeId) (nd : Nat) (hs : nd ≤ 24) : Holds (fun (b : UInt8) => Value.int .u8 (b.toNat : Int)) (w.alloc (.cells Lib.zeros24 T)) w.heap.size 0 (Array.replicate nd (0 : UInt8)) := fun j hj => by
  have hj' : j < nd := by simpa using hj
  refine ⟨?_, World.frozen?_alloc_new _ _ _ _⟩
  rw [World.cell?_alloc_new, Nat.zero_add, Lib.zeros24_at _ (by omega), getElem!_pos _ j hj]
  simp
theorem fin0 (w : World) (o : Obj) (dk : Array UInt8) (k : Nat) : ∃ os, (putRow (fun (b : UInt8) => Value.int .u8 (b.toNat : Int)) (w.alloc o) w.heap.size 0 dk).drewN k = grow (w.drewN k) os := by
  rw [alloc_eq_grow]
  obtain ⟨os', _, e⟩ := putRow_grow_new (fun (b : UInt8) => Value.int .u8 (b.toNat : Int)) w #[o] w.heap.size 0 dk (Nat.le_refl _)
  exact ⟨os', by rw [e];rfl⟩
theorem fmtu_walk (u : Nat) (hu64 : u < 18446744073709551616) (w : World) (htab : Lib.TabIs Tryd.prog w "internal/strconv.uint64pow10" .u64 Lib.pow10Tab) :
    Calls Tryd.prog 41 #[.int .u64 (u : Int), vi 10] w fun e w' => e = .returned (.string ⟨(Lib.decDigits u).toArray⟩)∧∃ k os, w' = grow (w.drewN k) os := by
  by_cases hi : u < 100
  · go_enter Tryd.func41, Tryd.ntmps41
    have hwr : IntKind.i64.wrap (u : Int) = (u : Int) := by rw [IntKind.wrap_i64];omega
    go_wp2_with (go_at_call 50;refine (Any.internal_strconv_small Tryd.lays283 u hi _).mono ?_;rintro e w' ⟨rfl, rfl⟩)
    go_ret
    exact ⟨rfl, 0, #[], by simp [World.drewN_zero]⟩
  · have hu1 : 1 ≤ u := by omega
    have hnd20 : Lib.nDigits u ≤ 20 := by have := Lib.numDigits_eq u hu1 hu64;split at this <;> omega
    have hal : Tryd.prog.arrayLen 95 = 24 := by kernel_rfl
    have hsl1 : ∀ W, (Instr.sliceAt 95 (ptA w.heap.size) none (some (vi (Lib.nDigits u : Int))) none).run Tryd.prog W = .ok (.slice (some ⟨w.heap.size, 0, none⟩) (Lib.nDigits u) 24) W := fun W => by
      rw [run_sliceAt_array_h W 95 ⟨w.heap.size, 0, none⟩ (by kernel_rfl) .i64 (Lib.nDigits u : Int) (by omega) (by rw [hal];omega)]
      rw [hal]
      have he : Tryd.prog.elem 95 = 5 := by kernel_rfl
      have hz := Tryd.sizeOf5
      rw [he]
      simp [hz, slicedAt]
      rfl
    have hH0 := holds0 w 95 (Lib.nDigits u) (by omega)
    have hfmt := Any.internal_strconv_formatBase10 Tryd.lays285 w.heap.size 0 24 u (Array.replicate (Lib.nDigits u) 0) (w.alloc (.cells Lib.zeros24 95)) hH0 (by rw [Array.size_replicate];exact Lib.lt_pow_nDigits u) hu64 (by rw [Array.size_replicate];omega)
    rw [Array.size_replicate] at hfmt
    have HH0 := Lib.hid hH0
    clear hH0 hal
    go_enter Tryd.func41, Tryd.ntmps41
    go_wp2_with (go_at_call 51;refine (Any.internal_strconv_numDigits Tryd.lays284 u hu1 hu64 _ (Lib.tabIs_alloc htab _)).mono ?_;rintro e w' ⟨rfl, rfl⟩)
    go_at_call 52
    refine hfmt.mono ?_
    rintro e w' ⟨rfl, k, v', dk, rfl, hF⟩
    have hcv : (convert 54 9 (.slice (some ⟨w.heap.size, 0, none⟩) (Lib.nDigits u) 24)).run Tryd.prog ((putRow (fun (b : UInt8) => Value.int .u8 (b.toNat : Int)) (w.alloc (.cells Lib.zeros24 95)) w.heap.size 0 dk).drewN k) = .ok (.string ⟨(Lib.decDigits u).toArray⟩) ((putRow (fun (b : UInt8) => Value.int .u8 (b.toNat : Int)) (w.alloc (.cells Lib.zeros24 95)) w.heap.size 0 dk).drewN k) := by
      have h := run_convert_bytes_back (P := Tryd.prog) ((putRow (fun (b : UInt8) => Value.int .u8 (b.toNat : Int)) (w.alloc (.cells Lib.zeros24 95)) w.heap.size 0 dk).drewN k) 54 9 5 ⟨w.heap.size, 0, none⟩ 24 (Lib.decDigits u) Tryd.underlying54 Tryd.underlying5 Tryd.underlying9 (fun j hj => by
        rw [Lib.row_is_numeral hF j hj, Lib.add_plain, World.cell?_drewN]
        exact cell?_putRow (fun (b : UInt8) => Value.int .u8 (b.toNat : Int)) _ w.heap.size 0 _ dk HH0.out (by rw [hF.size, Array.size_replicate]) j (by rw [hF.size];rw [Lib.decDigits_length] at hj;exact hj))
      rw [Lib.decDigits_length] at h
      exact h
    go_wp2
    go_ret
    obtain ⟨os, eo⟩ := fin0 w (.cells Lib.zeros24 95) dk k
    exact ⟨rfl, k, os, eo⟩
end Go.Proofs.YtehbmooelcjfoaaDoor
namespace Go.Proofs.YtehbmooelcjfoaaDoor
open Vc Go
set_option linter.unusedVariables false
set_option linter.unusedSimpArgs false
def TabR (R : RO) : Prop := ∃ t fr, R.mem 0 = some (.cells (Lib.pow10Tab.map fun z => Value.int .u64 z).toArray t fr)
theorem tab_mono {R S : RO} (h : R.le S) : TabR R → TabR S := fun ⟨t, fr, h1⟩ => ⟨t, fr, h.mem _ _ h1⟩
theorem tab_is {R Rx : RO} {w : World} (h : TabR R) (hR : R.le Rx) (hs : Sat w Rx []) : Lib.TabIs Tryd.prog w "internal/strconv.uint64pow10" .u64 Lib.pow10Tab := by
  obtain ⟨t, fr, h1⟩ := h
  have h2 := hs.ro _ _ (hR.mem _ _ h1)
  have hg : Tryd.prog.globalNamed "internal/strconv.uint64pow10" = some 0 := by kernel_rfl
  unfold Lib.TabIs World.var?
  rw [hg]
  simp only [Option.bind_some, h2]
theorem below_grow (w : World) (k : Nat) (os : Array Obj) : Go.RowKit.Below w.heap.size w (Go.Sort.grow (w.drewN k) os) := by
  have hh : (w.drewN k).heap = w.heap := rfl
  refine ⟨rfl, rfl, rfl, ?_, fun i hi => ?_⟩
  · show _ ≤ ((w.drewN k).heap ++ os).size
    rw [hh, Array.size_append];omega
  · show ((w.drewN k).heap ++ os)[i]? = _
    rw [hh, Array.getElem?_append_left hi]
def hexB (s : ByteArray) : ByteArray := ⟨(hexL s.data.toList).toArray⟩
def decB (u : Int) : ByteArray := ⟨(Lib.decDigits u.toNat).toArray⟩
def itoB (n : Int) : ByteArray := ⟨(Lib.itoa n).toArray⟩
def joinC (xs : List ByteArray) : ByteArray := ⟨(Lib.join (xs.map (·.data.toList)) [44]).toArray⟩
theorem hex_ok (s : ByteArray) (R : RO) (hs : s.size ≤ 35184372088832) : Gives Tryd.prog 42 [.string s] R [] (.ret (.string (hexB s))) [] := by
  intro Rx w hR hsat
  refine (hex_walk s w hs).mono ?_
  rintro e w' ⟨rfl, hb⟩
  exact ⟨.ret (.string (hexB s)), R, _, Rx, rfl, ⟨rfl, rfl, rfl⟩, .refl hR, hsat.below hb⟩
theorem fmi_ok (u : Int) (R : RO) (h0 : 0 ≤ u) (h1 : u ≤ 18446744073709551615) (hT : TabR R) : Gives Tryd.prog 41 [.int .u64 u, vi 10] R [] (.ret (.string (decB u))) [] := by
  intro Rx w hR hsat
  have := fmtu_walk u.toNat (by omega) w (tab_is hT hR hsat)
  rw [show (u.toNat : Int) = u by omega] at this
  refine this.mono ?_
  rintro e w' ⟨rfl, k, os, rfl⟩
  exact ⟨.ret (.string (decB u)), R, _, Rx, rfl, ⟨rfl, rfl, rfl⟩, .refl hR, hsat.below (below_grow w k os)⟩
theorem itoa_ok (n : Int) (R : RO) (h0 : -9223372036854775808 ≤ n) (h1 : n ≤ 9223372036854775807) (hT : TabR R) : Gives Tryd.prog 38 [vi n] R [] (.ret (.string (itoB n))) [] := by
  intro Rx w hR hsat
  refine (Go.Proofs.Any.strconv_Itoa Go.Proofs.Tryd.lays171 n h0 h1 w (tab_is hT hR hsat)).mono ?_
  rintro e w' ⟨rfl, k, os, rfl⟩
  exact ⟨.ret (.string (itoB n)), R, _, Rx, rfl, ⟨rfl, rfl, rfl⟩, .refl hR, hsat.below (below_grow w k os)⟩
theorem join_ok (b : Option Nat) (c : Nat) (xs : List ByteArray) (R : RO) (hb : b = none → c = 0) (hl : xs.length ≤ 1000000) (hc : xs.length ≤ c) (hs : (joinC xs).size ≤ 140737488355328) :
    Gives Tryd.prog 37 [gsv b xs.length c, .string (⟨#[44]⟩ : ByteArray)] R [gsb b (strl xs) 9 (c * 1)] (.ret (.string (joinC xs))) [gsb b (strl xs) 9 (c * 1)] := by
  cases b with
  | none =>
    have : c = 0 := hb rfl
    have : xs = [] := List.length_eq_zero_iff.1 (by omega)
    subst this
    intro Rx w hR hsat
    refine (Go.Proofs.Any.strings_Join_none Go.Proofs.Tryd.lays156 Go.Proofs.Tryd.Builder_Extra_156 none c (⟨#[44]⟩ : ByteArray) w).mono ?_
    rintro e w' ⟨rfl, rfl⟩
    exact ⟨.ret (.string (joinC [])), R, _, Rx, rfl, ⟨rfl, rfl, rfl⟩, .refl hR, hsat⟩
  | some B =>
    intro Rx w hR hsat
    have hB : (Blk.row (strl xs) 9 (c * 1)).at w B := hsat.own 0 B _ rfl
    have := Go.Proofs.Any.strings_Join Go.Proofs.Tryd.lays156 Go.Proofs.Tryd.Builder_Extra_156 B 0 c xs (⟨#[44]⟩ : ByteArray) w
      (fun j x hj => by rw [Nat.zero_add];exact Blk.cells hB j _ (by simp [strl, hj])) (Blk.at_lt hB) (by omega) hc (by simpa [joinC, ByteArray.size] using hs)
    refine this.mono ?_
    rintro e w' ⟨rfl, hb⟩
    exact ⟨.ret (.string (joinC xs)), R, _, Rx, rfl, ⟨rfl, rfl, rfl⟩, .refl hR, hsat.below hb⟩
def quotB (s : ByteArray) : ByteArray := (⟨#[34]⟩ : ByteArray) ++ hexB s ++ (⟨#[34]⟩ : ByteArray)
theorem hexB_size (s : ByteArray) : (hexB s).size = 2 * s.size := by
  show (hexL s.data.toList).toArray.size = _
  rw [List.size_toArray, hexL_len, Array.length_toList];rfl
theorem quotB_size (s : ByteArray) : (quotB s).size = 2 * s.size + 2 := by
  unfold quotB
  rw [ByteArray.size_append, ByteArray.size_append, hexB_size]
  show 1 + _ + 1 = _
  omega
theorem nDig_le : ∀ (k u : Nat), u < 10 ^ k → 0 < k → Lib.nDigits u ≤ k
  | 0, u, h, h0 => by omega
  | k + 1, u, h, _ => by
    unfold Lib.nDigits
    split
    · omega
    · rename_i hu
      have h1 : u / 10 < 10 ^ k := by rw [Nat.pow_succ] at h;omega
      rcases Nat.eq_zero_or_pos k with hk | hk
      · subst hk;simp at h1;omega
      · have := nDig_le k (u / 10) h1 hk;omega
theorem decB_size {u : Int} (h0 : 0 ≤ u) (h1 : u ≤ 4294967295) : (decB u).size ≤ 10 := by
  show (Lib.decDigits u.toNat).toArray.size ≤ _
  rw [List.size_toArray, Lib.decDigits_length]
  exact nDig_le 10 _ (by omega) (by omega)
theorem itoB_size {n : Int} (h0 : -9223372036854775808 ≤ n) (h1 : n ≤ 9223372036854775807) : (itoB n).size ≤ 20 := by
  show (Lib.itoa n).toArray.size ≤ _
  rw [List.size_toArray]
  unfold Lib.itoa
  split
  · rw [List.length_cons, Lib.decDigits_length]
    have := nDig_le 19 n.natAbs (by omega) (by omega);omega
  · rw [Lib.decDigits_length]
    have := nDig_le 19 n.toNat (by omega) (by omega);omega
theorem fmu_ok (u : Int) (R : RO) (h0 : 0 ≤ u) (h1 : u ≤ 18446744073709551615) (hT : TabR R) : Gives Tryd.prog 35 [.int .u64 u, vi 10] R [] (.ret (.string (decB u))) [] :=
  Does.of_wp_eq (VC := ((Gives Tryd.prog 41 [.int .u64 u, vi 10] R [] (.ret (.string (decB u))) [])∧GQ R (.ret (.string (decB u))) [] (.ret (.string (decB u))) R [])) (ops [.d, .d, .d, .call0 [] [] (fun e v => .ret (.string (decB u))) (fun e v => []), .d] (.fin [] [])) Tryd.func35 (by kernel_rfl) (by kernel_rfl)
    (⟨(fmi_ok u R (by omega) (by omega) hT), ⟨rfl, (by rfl), (by rfl)⟩⟩)
theorem quoted_ok (s : ByteArray) (R : RO) (hs : s.size ≤ 1000000) : Gives Tryd.prog 36 [.string s] R [] (.ret (.string (quotB s))) [] :=
  Does.of_wp_eq (VC := ((Gives Tryd.prog 42 [.string s] R [] (.ret (.string (hexB s))) [])∧((⟨#[34]⟩ : ByteArray).size + (hexB s).size ≤ 9223372036854775807)∧(((⟨#[34]⟩ : ByteArray) ++ (hexB s)).size + (⟨#[34]⟩ : ByteArray).size ≤ 9223372036854775807)∧GQ R (.ret (.string (quotB s))) [] (.ret (.string (((⟨#[34]⟩ : ByteArray) ++ (hexB s)) ++ (⟨#[34]⟩ : ByteArray)))) R [])) (ops [.d, .d, .call0 [] [] (fun e v => .ret (.string (hexB s))) (fun e v => []), .cat, .cat, .d] (.fin [] [])) Tryd.func36 (by kernel_rfl) (by kernel_rfl)
    (⟨(hex_ok s R (by omega)), ⟨(by have h9 := hexB_size s;have h8 : (⟨#[34]⟩ : ByteArray).size = 1 := rfl;(try rw [ByteArray.size_append]);omega), ⟨(by have h9 := hexB_size s;have h8 : (⟨#[34]⟩ : ByteArray).size = 1 := rfl;(try rw [ByteArray.size_append]);omega), ⟨rfl, (by rfl), (by rfl)⟩⟩⟩⟩)
namespace T
def powB (p : PW) : ByteArray := (⟨#[94]⟩ : ByteArray) ++ decB p.1 ++ (⟨#[58]⟩ : ByteArray) ++ itoB p.2
def powsB (s : ByteArray) (ps : List PW) : ByteArray := ps.foldl (fun s p => s ++ powB p) s
theorem powsB_snoc (s : ByteArray) (l : List PW) (p : PW) : powsB s (l ++ [p]) = powsB s l ++ powB p := by simp [powsB]
mutual
def txt : T → ByteArray
  | .mk k i s xs ps => if k = 1 then (⟨#[35]⟩ : ByteArray) ++ decB i else if k = 2 then quotB s else if k = 3 then quotB s ++ (⟨#[40]⟩ : ByteArray) ++ joinC (txtL xs) ++ (⟨#[41]⟩ : ByteArray) else powsB ((txtL xs).headD .empty) ps
def txtL : List T → List ByteArray
  | [] => []
  | a::l => txt a::txtL l
end
theorem txtL_map : ∀ l, txtL l = l.map txt
  | [] => rfl
  | a::l => by simp only [txtL, List.map, txtL_map l]
def pwOk (ps : List PW) : Prop := ∀ p ∈ ps, (0 ≤ p.1∧p.1 ≤ 4294967295)∧-9223372036854775808 ≤ p.2∧p.2 ≤ 9223372036854775807
mutual
def good : T → Prop
  | .mk k i _ xs ps => (0 ≤ i∧i ≤ 4294967295)∧pwOk ps∧(k = 1 ∨ k = 2 ∨ k = 3 ∨ k = 4∧xs ≠ [])∧goodL xs
def goodL : List T → Prop
  | [] => True
  | a::l => good a∧goodL l
end
theorem goodL_iff : ∀ l, goodL l ↔ ∀ t ∈ l, good t
  | [] => by simp [goodL]
  | a::l => by simp [goodL, goodL_iff l]
theorem powB_size {p : PW} (h : (0 ≤ p.1∧p.1 ≤ 4294967295)∧-9223372036854775808 ≤ p.2∧p.2 ≤ 9223372036854775807) : (powB p).size ≤ 32 := by
  unfold powB
  rw [ByteArray.size_append, ByteArray.size_append, ByteArray.size_append]
  have := decB_size h.1.1 h.1.2
  have := itoB_size h.2.1 h.2.2
  have : (⟨#[94]⟩ : ByteArray).size = 1 := rfl
  have : (⟨#[58]⟩ : ByteArray).size = 1 := rfl
  omega
theorem powsB_size : ∀ {ps : List PW} {s : ByteArray}, pwOk ps → (powsB s ps).size ≤ s.size + 32 * ps.length
  | [], s, h => Nat.le_refl _
  | p::ps, s, h => by
    have h1 := powsB_size (ps := ps) (s := s ++ powB p) fun q hq => h q (List.mem_cons_of_mem _ hq)
    have h2 := powB_size (h p (List.mem_cons_self ..))
    rw [ByteArray.size_append] at h1
    show (powsB (s ++ powB p) ps).size ≤ _
    rw [List.length_cons];omega
theorem joinC_size : ∀ (xs : List ByteArray), (joinC xs).size ≤ (xs.map fun s => s.size + 1).sum
  | [] => Nat.le_refl _
  | [x] => by
    show (Lib.join [x.data.toList] [44]).toArray.size ≤ _
    rw [Lib.join_one, List.size_toArray, Array.length_toList]
    show x.size ≤ x.size + 1 + 0
    omega
  | x::y::l => by
    have ih := joinC_size (y::l)
    have e : (joinC (x::y::l)).size = x.size + 1 + (joinC (y::l)).size := by
      show (Lib.join (x.data.toList::y.data.toList::l.map (·.data.toList)) [44]).toArray.size = _ + 1 + (Lib.join (y.data.toList::l.map (·.data.toList)) [44]).toArray.size
      rw [Lib.join_cons]
      simp [Lib.join_cons, Lib.joinTail]
      show x.size + _ = x.size + 1 + _
      omega
    rw [e, List.map_cons, List.sum_cons]
    omega
mutual
theorem txt_size : ∀ (t : T), good t → (txt t).size ≤ wt t
  | .mk k i s xs ps, h => by
    obtain ⟨h1, h2, h3, h4⟩ := h
    have hl := txtL_size xs h4
    have hj := joinC_size (txtL xs)
    have hw : wt (mk k i s xs ps) = 300 + 2 * s.size + 60 * ps.length + wtL xs := rfl
    have c1 : (⟨#[35]⟩ : ByteArray).size = 1 := rfl
    have c2 : (⟨#[40]⟩ : ByteArray).size = 1 := rfl
    have c3 : (⟨#[41]⟩ : ByteArray).size = 1 := rfl
    have hq := quotB_size s
    rw [txt]
    split
    · have := decB_size h1.1 h1.2
      rw [ByteArray.size_append];omega
    · split
      · omega
      · split
        · rw [ByteArray.size_append, ByteArray.size_append, ByteArray.size_append];omega
        · have hp := powsB_size (s := (txtL xs).headD .empty) h2
          have hh : ((txtL xs).headD .empty).size ≤ ((txtL xs).map fun s => s.size + 1).sum := by
            cases txtL xs with
            | nil => exact Nat.le_refl _
            | cons a l => rw [List.map_cons, List.sum_cons];show a.size ≤ _;omega
          omega
theorem txtL_size : ∀ (l : List T), goodL l → ((txtL l).map fun s => s.size + 1).sum ≤ wtL l
  | [], _ => Nat.le_refl _
  | a::l, h => by
    have h1 := txt_size a h.1
    have h2 := txtL_size l h.2
    rw [txtL, List.map_cons, List.sum_cons, wtL];omega
end
end T
theorem L.txt_xs (y : L) : T.txtL ((List.range y.n).map fun j => (y.kid j).t) = (List.range y.n).map fun j => T.txt (y.kid j).t := by rw [T.txtL_map, List.map_map];rfl
theorem L.good_eq (y : L) : y.t.good ↔ (0 ≤ y.id∧y.id ≤ 4294967295)∧T.pwOk y.pl∧(y.k = 1 ∨ y.k = 2 ∨ y.k = 3 ∨ y.k = 4∧0 < y.n)∧∀ j, j < y.n → (y.kid j).t.good := by
  rw [L.t_eq, T.good, T.goodL_iff]
  have e : ((List.range y.n).map fun j => (y.kid j).t) ≠ [] ↔ 0 < y.n := by
    rw [Ne, List.map_eq_nil_iff, List.range_eq_nil];omega
  rw [e]
  constructor
  · rintro ⟨h1, h2, h3, h4⟩
    exact ⟨h1, h2, h3, fun j hj => h4 _ (List.mem_map.2 ⟨j, List.mem_range.2 hj, rfl⟩)⟩
  · rintro ⟨h1, h2, h3, h4⟩
    refine ⟨h1, h2, h3, fun t ht => ?_⟩
    obtain ⟨j, hj, rfl⟩ := List.mem_map.1 ht
    exact h4 j (List.mem_range.1 hj)
theorem L.good_pw {y : L} (h : y.t.good) {j : Nat} (hj : j < y.m) : (0 ≤ (y.pw j).1∧(y.pw j).1 ≤ 4294967295)∧-9223372036854775808 ≤ (y.pw j).2∧(y.pw j).2 ≤ 9223372036854775807 :=
  ((L.good_eq y).1 h).2.1 _ (List.mem_map.2 ⟨j, List.mem_range.2 hj, rfl⟩)
theorem L.kid_size {y : L} (h : y.t.good) {j : Nat} (hj : j < y.n) : (T.txt (y.kid j).t).size + 60 * y.m + 300 ≤ y.t.wt := by
  have h1 := T.txt_size (y.kid j).t (((L.good_eq y).1 h).2.2.2 j hj)
  have := L.wt_kid y hj
  omega
theorem L.pow_size {y : L} (h : y.t.good) (hn : 0 < y.n) {j : Nat} (hj : j ≤ y.m) : (T.powsB (T.txt (y.kid 0).t) ((List.range j).map y.pw)).size ≤ y.t.wt := by
  have h1 := L.kid_size h hn
  have h2 := T.powsB_size (s := T.txt (y.kid 0).t) (ps := (List.range j).map y.pw) (fun p hp => by
    obtain ⟨i, hi, rfl⟩ := List.mem_map.1 hp
    exact L.good_pw h (by have := List.mem_range.1 hi;omega))
  rw [List.length_map, List.length_range] at h2
  omega
theorem L.join_size {y : L} (h : y.t.good) : (joinC ((List.range y.n).map fun j => T.txt (y.kid j).t)).size + 2 * y.s.size + 300 ≤ y.t.wt := by
  have h1 := T.joinC_size ((List.range y.n).map fun j => T.txt (y.kid j).t)
  have h2 := T.txtL_size ((List.range y.n).map fun j => (y.kid j).t) ((T.goodL_iff _).2 fun t ht => by
    obtain ⟨j, hj, rfl⟩ := List.mem_map.1 ht
    exact ((L.good_eq y).1 h).2.2.2 j (List.mem_range.1 hj))
  rw [L.txt_xs] at h2
  rw [L.wt_eq]
  omega
theorem txt_atom {y : L} (h : y.k = 1) : T.txt y.t = (⟨#[35]⟩ : ByteArray) ++ decB y.id := by rw [L.t_eq, T.txt, if_pos h]
theorem txt_word {y : L} (h : y.k = 2) : T.txt y.t = quotB y.s := by rw [L.t_eq, T.txt, if_neg (by omega), if_pos h]
theorem txt_hash {y : L} (h : y.k = 3) : T.txt y.t = quotB y.s ++ (⟨#[40]⟩ : ByteArray) ++ joinC ((List.range y.n).map fun j => T.txt (y.kid j).t) ++ (⟨#[41]⟩ : ByteArray) := by
  rw [L.t_eq, T.txt, if_neg (by omega), if_neg (by omega), if_pos h, L.txt_xs]
theorem txt_pow {y : L} (h : y.k = 4) (hn : 0 < y.n) : T.txt y.t = T.powsB (T.txt (y.kid 0).t) ((List.range y.m).map y.pw) := by
  rw [L.t_eq, T.txt, if_neg (by omega), if_neg (by omega), if_neg (by omega), L.txt_xs]
  obtain ⟨n, hn'⟩ : ∃ n, y.n = n + 1 := ⟨y.n - 1, by omega⟩
  rw [hn', List.range_succ_eq_map];rfl
abbrev TI (y : L) (j : Nat) (b : Option Nat) (cap : Nat) (Lr : List Value) : Prop :=
  j ≤ y.n∧(b = none → cap = 0)∧j ≤ cap∧cap ≤ maxLen∧Lr = strl ((List.range j).map fun i => T.txt (y.kid i).t)
theorem tI_step {y : L} {j : Nat} {b : Option Nat} {cap a c : Nat} {Lr : List Value} (hI : TI y j b cap Lr) (hj : j < y.n) (h1 : j + 1 ≤ c) (h2 : c ≤ maxLen) :
    TI y (j + 1) (some a) c (Lr ++ [.string (T.txt (y.kid j).t)]) := by
  refine ⟨hj, fun h => (by cases h), h1, h2, ?_⟩
  rw [hI.2.2.2.2, List.range_succ, List.map_append]
  simp [strl]
theorem tI_len {y : L} {j : Nat} {b : Option Nat} {cap : Nat} {Lr : List Value} (hI : TI y j b cap Lr) : Lr.length = j * 1 := by rw [hI.2.2.2.2];simp [strl]
theorem join_at {y : L} {j : Nat} {b : Option Nat} {cap : Nat} {Lr : List Value} (R : RO) (h : j = y.n∧TI y j b cap Lr) (hg : y.t.good) (hw : y.t.wt ≤ 1000000) :
    Gives Tryd.prog 37 [gsv b j cap, .string (⟨#[44]⟩ : ByteArray)] R [gsb b Lr 9 (cap * 1)] (.ret (.string (joinC ((List.range y.n).map fun j => T.txt (y.kid j).t)))) [gsb b Lr 9 (cap * 1)] := by
  obtain ⟨rfl, h1, h2, h3, h4, rfl⟩ := h
  have hl : ((List.range y.n).map fun i => T.txt (y.kid i).t).length = y.n := by simp
  have := join_ok b cap ((List.range y.n).map fun i => T.txt (y.kid i).t) R h2 (by rw [hl];have := L.wt_n y;omega) (by rw [hl];exact h3) (by have := L.join_size hg;omega)
  rw [hl] at this
  exact this
theorem rd_txt {y : L} {j : Nat} {b : Option Nat} {cap : Nat} {Lr : List Value} (h : j = y.n∧TI y j b cap Lr) (hn : 0 < y.n) : readVar Tryd.prog 9 Lr (0 + Int.toNat 0 * 1) = some (.string (T.txt (y.kid 0).t)) := by
  obtain ⟨rfl, h1, h2, h3, h4, rfl⟩ := h
  obtain ⟨n, hn'⟩ : ∃ n, y.n = n + 1 := ⟨y.n - 1, by omega⟩
  rw [readVar_one (n := 1) (by kernel_rfl), hn', List.range_succ_eq_map];rfl
end Go.Proofs.YtehbmooelcjfoaaDoor
namespace Go.Proofs.YtehbmooelcjfoaaDoor
open Vc Go
set_option linter.unusedVariables false
set_option linter.unusedSimpArgs false
namespace T
mutual
def isN (d : Nat) : T → Prop
  | .mk k i s xs ps => if 40 < d then .mk k i s xs ps = word .empty else
    (k = 1∧s = .empty∧xs = []∧ps = []) ∨ (k = 2∧i = 0∧xs = []∧ps = []) ∨ (k = 3∧i = 0∧ps = []∧isNL (d + 1) xs) ∨
    (k = 4∧i = 0∧s = .empty∧(∃ a, xs = [a]∧a.k ≠ 4)∧isNL (d + 1) xs∧prod ps = ps∧ps ≠ [])
def isNL (d : Nat) : List T → Prop
  | [] => True
  | a::l => isN d a∧isNL d l
end
theorem isN_deep {d : Nat} {x : T} (h : 40 < d) : isN d x ↔ x = word .empty := by
  cases x with
  | mk k i s xs ps => rw [isN, if_pos h]
theorem isN_word (d : Nat) : isN d (word .empty) := by
  by_cases h : 40 < d
  · exact (isN_deep h).2 rfl
  · unfold word;rw [isN, if_neg h];exact .inr (.inl ⟨rfl, rfl, rfl, rfl⟩)
mutual
theorem isN_down : ∀ (d : Nat) (x : T), isN (d + 1) x → isN d x
  | d, .mk k i s xs ps => by
    intro h
    by_cases h1 : 40 < d + 1
    · rw [isN_deep h1] at h
      rw [h];exact isN_word d
    · have ih := isNL_down (d + 1) xs
      rw [isN, if_neg h1] at h
      rw [isN, if_neg (by omega)]
      rcases h with h | h | ⟨h1, h2, h3, h4⟩ | ⟨h1, h2, h3, h4, h5, h6⟩
      · exact .inl h
      · exact .inr (.inl h)
      · exact .inr (.inr (.inl ⟨h1, h2, h3, ih h4⟩))
      · exact .inr (.inr (.inr ⟨h1, h2, h3, h4, ih h5, h6⟩))
theorem isNL_down : ∀ (d : Nat) (l : List T), isNL (d + 1) l → isNL d l
  | d, [], h => trivial
  | d, a::l, h => ⟨isN_down d a h.1, isNL_down d l h.2⟩
end
theorem isN_pow {d : Nat} {x : T} {l : List PW} (hd : d ≤ 40) (h : isN (d + 1) x) : isN d (pow x l) := by
  unfold pow
  by_cases h4 : x.k = 4
  · rw [if_pos h4]
    cases x with
    | mk k i s xs ps =>
      have h4 : k = 4 := h4
      subst h4
      by_cases h1 : 40 < d + 1
      · rw [isN_deep h1] at h;cases h
      · rw [isN, if_neg h1] at h
        rcases h with ⟨h, _⟩ | ⟨h, _⟩ | ⟨h, _⟩ | ⟨-, h2, h3, ⟨a, rfl, ha⟩, h5, h6, h7⟩
        · omega
        · omega
        · omega
        · show isN d (if prod (ps ++ l) = [] then a else .mk 4 0 .empty [a] (prod (ps ++ l)))
          have ha2 : isN (d + 1 + 1) a := h5.1
          split
          · exact isN_down _ _ (isN_down _ _ ha2)
          · rename_i hp
            rw [isN, if_neg (by omega)]
            exact .inr (.inr (.inr ⟨rfl, rfl, rfl, ⟨a, rfl, ha⟩, ⟨isN_down _ _ ha2, trivial⟩, prod_prod _, hp⟩))
  · rw [if_neg h4]
    split
    · exact isN_down _ _ h
    · rename_i hp
      rw [isN, if_neg (by omega)]
      exact .inr (.inr (.inr ⟨rfl, rfl, rfl, ⟨x, rfl, h4⟩, ⟨h, trivial⟩, prod_prod _, hp⟩))
mutual
theorem isN_nrm : ∀ (d : Nat) (t : T), isN d (nrm d t)
  | d, .mk k i s xs ps => by
    have ih := isNL_nrm (d + 1) xs
    rw [nrm]
    by_cases hd : 40 < d
    · rw [if_pos hd];exact isN_word d
    · rw [if_neg hd]
      split
      · unfold atom;rw [isN, if_neg hd];exact .inl ⟨rfl, rfl, rfl, rfl⟩
      · split
        · unfold word;rw [isN, if_neg hd];exact .inr (.inl ⟨rfl, rfl, rfl, rfl⟩)
        · split
          · rw [isN, if_neg hd];exact .inr (.inr (.inl ⟨rfl, rfl, rfl, ih⟩))
          · split
            · split
              · rename_i a e
                rw [e] at ih
                exact isN_pow (by omega) ih.1
              · exact isN_word d
            · exact isN_word d
theorem isNL_nrm : ∀ (d : Nat) (l : List T), isNL d (nrmL d l)
  | d, [] => trivial
  | d, a::l => ⟨isN_nrm d a, isNL_nrm d l⟩
end
mutual
theorem nrm_of : ∀ (d : Nat) (x : T), isN d x → nrm d x = x
  | d, .mk k i s xs ps => by
    intro h
    by_cases hd : 40 < d
    · rw [isN_deep hd] at h
      rw [h, word, nrm, if_pos hd];rfl
    · have ih := nrmL_of (d + 1) xs
      rw [isN, if_neg hd] at h
      rw [nrm, if_neg hd]
      rcases h with ⟨rfl, rfl, rfl, rfl⟩ | ⟨rfl, rfl, rfl, rfl⟩ | ⟨rfl, rfl, rfl, h4⟩ | ⟨rfl, rfl, rfl, ⟨a, rfl, ha⟩, h5, h6, h7⟩
      · rfl
      · rfl
      · rw [if_neg (by decide), if_neg (by decide), if_pos rfl, ih h4]
      · have h8 := ih h5
        rw [if_neg (by decide), if_neg (by decide), if_neg (by decide), if_pos rfl, h8]
        show pow a ps = _
        unfold pow
        rw [if_neg ha, h6, if_neg h7]
theorem nrmL_of : ∀ (d : Nat) (l : List T), isNL d l → nrmL d l = l
  | d, [], _ => rfl
  | d, a::l, h => by rw [nrmL, nrm_of d a h.1, nrmL_of d l h.2]
end
theorem nrm_nrm (d : Nat) (t : T) : nrm d (nrm d t) = nrm d t := nrm_of d _ (isN_nrm d t)
mutual
theorem isN_shift : ∀ (d d' : Nat) (x : T), isN d x → d' + ht x ≤ 41 → isN d' x
  | d, d', .mk k i s xs ps => by
    intro h h'
    have hh : ht (.mk k i s xs ps) = htL xs + 1 := rfl
    by_cases hd : 40 < d
    · rw [isN_deep hd] at h
      rw [h];exact isN_word d'
    · have ih := isNL_shift (d + 1) (d' + 1) xs
      rw [isN, if_neg hd] at h
      rw [isN, if_neg (by omega)]
      rcases h with h | h | ⟨h1, h2, h3, h4⟩ | ⟨h1, h2, h3, h4, h5, h6⟩
      · exact .inl h
      · exact .inr (.inl h)
      · exact .inr (.inr (.inl ⟨h1, h2, h3, ih h4 (by omega)⟩))
      · exact .inr (.inr (.inr ⟨h1, h2, h3, h4, ih h5 (by omega), h6⟩))
theorem isNL_shift : ∀ (d d' : Nat) (l : List T), isNL d l → d' + htL l ≤ 41 → isNL d' l
  | d, d', [], _, _ => trivial
  | d, d', a::l, h, h' => by
    have hh : htL (a::l) = max (ht a) (htL l) := rfl
    exact ⟨isN_shift d d' a h.1 (by omega), isNL_shift d d' l h.2 (by omega)⟩
end
mutual
theorem nrm_shift : ∀ (d d' : Nat) (t : T), d + ht t ≤ 41 → d' + ht t ≤ 41 → nrm d t = nrm d' t
  | d, d', .mk k i s xs ps => by
    intro h h'
    have hh : ht (.mk k i s xs ps) = htL xs + 1 := rfl
    have ih := nrmL_shift (d + 1) (d' + 1) xs (by omega) (by omega)
    rw [nrm, nrm, if_neg (show ¬ 40 < d by omega), if_neg (show ¬ 40 < d' by omega), ih]
theorem nrmL_shift : ∀ (d d' : Nat) (l : List T), d + htL l ≤ 41 → d' + htL l ≤ 41 → nrmL d l = nrmL d' l
  | d, d', [], _, _ => rfl
  | d, d', a::l, h, h' => by
    have hh : htL (a::l) = max (ht a) (htL l) := rfl
    rw [nrmL, nrmL, nrm_shift d d' a (by omega) (by omega), nrmL_shift d d' l (by omega) (by omega)]
end
theorem ht_pos (t : T) : 1 ≤ ht t := by cases t;simp only [ht];omega
theorem ht_pow (x : T) (l : List PW) : ht (pow x l) ≤ ht x + 1∧(x.k = 4 → ht (pow x l) ≤ max (ht x) 2) := by
  have hx := ht_pos x
  unfold pow
  cases x with
  | mk k i s xs ps =>
    have hh : ht (.mk k i s xs ps) = htL xs + 1 := rfl
    have h0 : ht (xs.headD (word .empty)) ≤ max (htL xs) 1 := by
      cases xs with
      | nil => exact Nat.le_refl _
      | cons a l' => show ht a ≤ max (max (ht a) (htL l')) 1;omega
    by_cases h4 : (T.mk k i s xs ps).k = 4
    · rw [if_pos h4]
      show ht (if prod (ps ++ l) = [] then xs.headD (word .empty) else .mk 4 0 .empty [xs.headD (word .empty)] (prod (ps ++ l))) ≤ _∧(_ → ht (if prod (ps ++ l) = [] then xs.headD (word .empty) else .mk 4 0 .empty [xs.headD (word .empty)] (prod (ps ++ l))) ≤ _)
      split
      · exact ⟨by omega, fun _ => by omega⟩
      · have h5 : ht (.mk 4 0 .empty [xs.headD (word .empty)] (prod (ps ++ l))) = max (ht (xs.headD (word .empty))) 0 + 1 := rfl
        exact ⟨by omega, fun _ => by omega⟩
    · rw [if_neg h4]
      split
      · exact ⟨by omega, fun h => absurd h h4⟩
      · have h5 : ht (.mk 4 0 .empty [.mk k i s xs ps] (prod l)) = max (ht (.mk k i s xs ps)) 0 + 1 := rfl
        exact ⟨by omega, fun h => absurd h h4⟩
mutual
theorem ht_nrm : ∀ (d : Nat) (t : T), ht (nrm d t) ≤ ht t
  | d, .mk k i s xs ps => by
    have ih := ht_nrmL (d + 1) xs
    have hh : ht (.mk k i s xs ps) = htL xs + 1 := rfl
    have hw : ∀ s, ht (word s) = 1 := fun s => rfl
    have ha : ht (atom i) = 1 := rfl
    rw [nrm]
    split
    · have := hw .empty;omega
    · split
      · omega
      · split
        · have := hw s;omega
        · split
          · have : ht (.mk 3 0 s (nrmL (d + 1) xs) []) = htL (nrmL (d + 1) xs) + 1 := rfl
            omega
          · split
            · split
              · rename_i a e
                rw [e] at ih
                have h1 := (ht_pow a ps).1
                have h2 : htL [a] = max (ht a) 0 := rfl
                omega
              · have := hw .empty;omega
            · have := hw .empty;omega
theorem ht_nrmL : ∀ (d : Nat) (l : List T), htL (nrmL d l) ≤ htL l
  | d, [] => Nat.le_refl _
  | d, a::l => by
    have := ht_nrm d a
    have := ht_nrmL d l
    simp only [nrmL, htL];omega
end
theorem pwOk_prod {l : List PW} (h : ∀ p ∈ l, 0 ≤ p.1∧p.1 ≤ 4294967295) : pwOk (prod l) := by
  intro p hp
  have h1 := prod_mem.1 hp
  have h2 : p.1 ∈ l.map (·.1) := by
    apply Classical.byContradiction
    intro hno
    rw [sm_zero fun q hq he => hno (List.mem_map.2 ⟨q, hq, he⟩), wrap_zero] at h1
    exact h1.2 h1.1
  obtain ⟨q, hq, he⟩ := List.mem_map.1 h2
  have h3 := h q hq
  rw [he] at h3
  refine ⟨h3, ?_⟩
  have h4 := h1.1
  rw [wi64] at h4
  omega
theorem good_pow {x : T} {l : List PW} (h : good x) (hl : ∀ p ∈ l, 0 ≤ p.1∧p.1 ≤ 4294967295) : good (pow x l) := by
  unfold pow
  cases x with
  | mk k i s xs ps =>
    by_cases h4 : (T.mk k i s xs ps).k = 4
    · rw [if_pos h4]
      have h4 : k = 4 := h4
      subst h4
      obtain ⟨h1, h2, h3, h5⟩ := h
      show good (if prod (ps ++ l) = [] then xs.headD (word .empty) else .mk 4 0 .empty [xs.headD (word .empty)] (prod (ps ++ l)))
      have hg : good (xs.headD (word .empty)) := by
        cases xs with
        | nil => exact ⟨⟨by decide, by decide⟩, fun p hp => (by cases hp), .inr (.inl rfl), trivial⟩
        | cons a l' => exact h5.1
      split
      · exact hg
      · refine ⟨⟨by decide, by decide⟩, pwOk_prod fun p hp => ?_, .inr (.inr (.inr ⟨rfl, by simp⟩)), hg, trivial⟩
        rcases List.mem_append.1 hp with hp | hp
        · exact (h2 p hp).1
        · exact hl p hp
    · rw [if_neg h4]
      split
      · exact h
      · exact ⟨⟨by decide, by decide⟩, pwOk_prod hl, .inr (.inr (.inr ⟨rfl, by simp⟩)), h, trivial⟩
mutual
theorem good_nrm : ∀ (d : Nat) (t : T), okn t → good (nrm d t)
  | d, .mk k i s xs ps => by
    intro h
    obtain ⟨h1, h2, h3, h4⟩ := h
    have ih := good_nrmL (d + 1) xs h4
    have hw : ∀ s, good (word s) := fun s => ⟨⟨by decide, by decide⟩, fun p hp => (by cases hp), .inr (.inl rfl), trivial⟩
    rw [nrm]
    split
    · exact hw _
    · split
      · exact ⟨h2, fun p hp => (by cases hp), .inl rfl, trivial⟩
      · split
        · exact hw _
        · split
          · exact ⟨⟨by decide, by decide⟩, fun p hp => (by cases hp), .inr (.inr (.inl rfl)), ih⟩
          · split
            · split
              · rename_i a e
                rw [e] at ih
                exact good_pow ih.1 fun p hp => (h3 p hp).1
              · exact hw _
            · exact hw _
theorem good_nrmL : ∀ (d : Nat) (l : List T), oknL l → goodL (nrmL d l)
  | d, [], _ => trivial
  | d, a::l, h => ⟨good_nrm d a h.1, good_nrmL d l h.2⟩
end
end T
end Go.Proofs.YtehbmooelcjfoaaDoor
namespace Go.Proofs.YtehbmooelcjfoaaDoor
open Vc Go
set_option linter.unusedVariables false
set_option linter.unusedSimpArgs false
noncomputable def text_own_L8_inv (y : L) (a0 : Nat)  : Nat×Option Nat×Nat×List Value×NV → St := fun zx => ⟨(.agg y.row.toArray::ptA a0::.string ByteArray.empty::gsv zx.2.1 zx.1 zx.2.2.1::undef::(zx.2.2.2.2 5)::undef::undef::undef::ptA a0::vi y.k::.bool false::.bool (y.k == 1)::uns 5 (.bool false::.bool (y.k == 2)::undef::undef::undef::(ptO a0 (3))::.slice y.aa y.n y.ac::vi (y.n : Int)::vi ((zx.1 : Nat) : Int)::urun zx.2.2.2.2 27 9 (uns 35 []))), [], [some (a0, .row y.row 29 5), gsb zx.2.1 zx.2.2.2.1 9 (zx.2.2.1 * 1)]⟩
def text_own_L8_I (y : L) (a0 : Nat)  (R : RO) : Nat×Option Nat×Nat×List Value×NV → RO → Prop := fun zx G => G = R∧(TI y zx.1 zx.2.1 zx.2.2.1 zx.2.2.2.1)
def text_own_L8_mu (y : L) (a0 : Nat)  : Nat×Option Nat×Nat×List Value×NV → Nat := fun zx => y.n - zx.1
noncomputable def text_own_L8_K (y : L) (a0 : Nat)  (R : RO) : Exit' → St → RO → Prop := altPost R (.alt (Nat×Option Nat×Nat×List Value×NV) (fun zx => zx.1 = y.n∧TI y zx.1 zx.2.1 zx.2.2.1 zx.2.2.2.1) (fun zx => (.exit 1, ((text_own_L8_inv y a0 zx).up [] [some (a0, .row y.row 29 5), gsb zx.2.1 zx.2.2.2.1 9 (zx.2.2.1 * 1)]))) (fun _ => .altn) .altn)
theorem text_own_L8_body (y : L) (a0 : Nat)  (R : RO) (hrec : ∀ (j : Nat) (R : RO), y.ok R → TabR R → j < y.n → Gives Tryd.prog 32 [(y.kid j).v] R [] (.ret (.string (T.txt (y.kid j).t))) []) (hy : y.ok R) (hg : y.t.good) (hw : y.t.wt ≤ 1000000) (hT : TabR R) (j : Nat) (b : Option Nat) (cap : Nat) (Lr : List Value) (u3 : Nat → Value) (hI : TI y j b cap Lr) : CT Tryd.prog (sub (bodyOf Tryd.f32) [1, 1, 1, 0, 1, 0, 0]) (text_own_L8_inv y a0 (j, b, cap, Lr, u3)) R (LK (text_own_L8_inv y a0) (text_own_L8_I y a0 R) (text_own_L8_mu y a0) (text_own_L8_K y a0 R) (j, b, cap, Lr, u3)) :=
  CT.of_wp_eq (VC := (let z3 : List Value := y.row;let z2 : List Value := [.string (T.txt (y.kid j).t)];let z1 : List Value := [vi ((y.kid j).k), vu ((y.kid j).id), .string ((y.kid j).s), .slice (y.kid j).aa ((y.kid j).n) ((y.kid j).ac), .slice (y.kid j).pa ((y.kid j).m) ((y.kid j).pc)];let z0 : Array Value := #[vi ((y.kid j).k), vu ((y.kid j).id), .string ((y.kid j).s), .slice (y.kid j).aa ((y.kid j).n) ((y.kid j).ac), .slice (y.kid j).pa ((y.kid j).m) ((y.kid j).pc)];((decide ((j : Int) < (y.n : Int))) = true → (y.aa = some ⟨y.AB, y.AO, none⟩∧(0 : Int) ≤ (j : Int)∧((j : Int) : Int) < (y.n : Int))∧(R.cells y.AB (y.AO + Int.toNat (j : Int) * 5) z1)∧∀ a55 : Nat, (a55 = a55)∧(a55 = a55)∧(Gives Tryd.prog 32 [.agg z0] R [] (.ret (.string (T.txt (y.kid j).t))) [])∧∀ a56 : Nat, (PrimOK Tryd.prog (.app 41 41 41 (gsv b j cap) (slA a56 1 1)) R [gsb b Lr 9 (cap * 1), some (a56, .row z2 9 1)] (Nat×Nat) (fun y57 => j + 1 ≤ y57.2∧y57.2 ≤ maxLen) (fun y57 => (.slice (some ⟨y57.1, 0, none⟩) (j + 1) y57.2, [some (y57.1, .row (Lr ++ (z2 : List Value)) 9 (y57.2 * 1)), some (a56, .row z2 9 1)])))∧∀ y57 : Nat×Nat, (j + 1 ≤ y57.2∧y57.2 ≤ maxLen) → (NW .i64 ((j : Int) + 1))∧LK (text_own_L8_inv y a0) (text_own_L8_I y a0 R) (text_own_L8_mu y a0) (text_own_L8_K y a0 R) (j, b, cap, Lr, u3) .normal ((text_own_L8_inv y a0 (j, b, cap, Lr, u3)).up [(3, .slice (some ⟨y57.1, 0, none⟩) (j + 1) y57.2), (5, ptA a55), (26, vi ((j : Int) + 1)), (27, .bool true), (28, (ptO y.AB (y.AO + Int.toNat (j : Int) * 5))), (29, .agg z0), (30, gsv b j cap), (31, .agg z0), (32, .string (T.txt (y.kid j).t)), (33, slA a56 1 1), (34, .slice (some ⟨y57.1, 0, none⟩) (j + 1) y57.2), (35, vi ((j : Int) + 1))] [some (a0, .row z3 29 5), some (y57.1, .row (Lr ++ (z2 : List Value)) 9 (y57.2 * 1)), some (a55, .row z1 29 5), some (a56, .row z2 9 1)]) R)∧((decide ((j : Int) < (y.n : Int))) = false → LK (text_own_L8_inv y a0) (text_own_L8_I y a0 R) (text_own_L8_mu y a0) (text_own_L8_K y a0 R) (j, b, cap, Lr, u3) (.exit 1) ((text_own_L8_inv y a0 (j, b, cap, Lr, u3)).up [(27, .bool false)] [some (a0, .row z3 29 5), gsb b Lr 9 (cap * 1)]) R))) (ops [.d] (.sp 27 (ops [.ib y.AB y.AO, .ro (fun v => [vi ((y.kid j).k), vu ((y.kid j).id), .string ((y.kid j).s), .slice (y.kid j).aa ((y.kid j).n) ((y.kid j).ac), .slice (y.kid j).pa ((y.kid j).m) ((y.kid j).pc)])] (.opn 2 (fun a55 => (ops [.p 2, .d, .p 2, .call0 [] [] (fun e v => .ret (.string (T.txt (y.kid j).t))) (fun e v => [])] (.opn 3 (fun a56 => (.opp [1, 3] [] (Nat×Nat) (fun y57 => j + 1 ≤ y57.2∧y57.2 ≤ maxLen) (fun y57 => (.slice (some ⟨y57.1, 0, none⟩) (j + 1) y57.2, [some (y57.1, .row (Lr ++ ([.string (T.txt (y.kid j).t)] : List Value)) 9 (y57.2 * 1)), some (a56, .row [.string (T.txt (y.kid j).t)] 9 1)])) (fun y57 => (ops [.d, .nw, .d] (.fin [] [])))))))))) (.fin [] []))) (by kernel_rfl)
    (⟨fun h54 => (have := of_decide_eq_true h54;⟨⟨(hy.arg (j := j) (by omega)).1, by omega, by omega⟩, ⟨(hy.arg (j := j) (by omega)).2, fun a55 => ⟨rfl, ⟨rfl, ⟨(hrec j R hy hT (by omega)), fun a56 => ⟨(app1_ok (e := 9) (e' := 9) (z := 1) (by' := 16) (zc := [.string ByteArray.empty]) (b := b) (len := j) (cap := cap) (n := 1) (cs := Lr) (new := [.string (T.txt (y.kid j).t)]) (by kernel_rfl) (.inl (by kernel_rfl)) (by kernel_rfl) rfl (tI_len hI) hI.2.2.1 hI.2.2.2.1 hI.2.1 ⟨rfl, .inr (.inr ⟨_, _, _, rfl, .inl ⟨1, _, _, _, rfl, rfl⟩⟩)⟩ (ones_spec rfl) (by have h9 := L.wt_n y;omega) (by have h9 := L.wt_n y;simp only [maxLen];omega) (by omega)), fun y57 qy57 => ⟨(nwI (by omega) (by have h9 := L.wt_n y;have h8 := L.wt_m y;omega)), LKn (fun zw => ((j + 1), (some y57.1), y57.2, (Lr ++ ([.string (T.txt (y.kid j).t)] : List Value)), zw)) ⟨⟨rfl, (show TI y (j + 1) (some y57.1) y57.2 (Lr ++ ([.string (T.txt (y.kid j).t)] : List Value)) from (tI_step hI (by omega) qy57.1 qy57.2))⟩, (show y.n - (j + 1) < y.n - j from (by omega)), ⟨(by show _ = _;kernel_rfl), rfl, rfl⟩⟩⟩⟩⟩⟩⟩⟩⟩), fun h54 => (have := of_decide_eq_false h54;altA (fun zw => (j, b, cap, Lr, zw)) ⟨(show j = y.n∧TI y j b cap Lr from ⟨by have h9 := hI.1;omega, hI⟩), (by show _ = _;kernel_rfl), ⟨(by show _ = _;kernel_rfl), (by show _ = _;kernel_rfl), (by show _ = _;kernel_rfl)⟩⟩)⟩)
theorem text_own_L8_ct (y : L) (a0 : Nat)  (R : RO) (hrec : ∀ (j : Nat) (R : RO), y.ok R → TabR R → j < y.n → Gives Tryd.prog 32 [(y.kid j).v] R [] (.ret (.string (T.txt (y.kid j).t))) []) (hy : y.ok R) (hg : y.t.good) (hw : y.t.wt ≤ 1000000) (hT : TabR R)  : CT Tryd.prog (sub (bodyOf Tryd.f32) [1, 1, 1, 0, 1, 0]) ⟨(.agg y.row.toArray::ptA a0::.string ByteArray.empty::.slice none 0 0::uns 5 (ptA a0::vi y.k::.bool false::.bool (y.k == 1)::uns 5 (.bool false::.bool (y.k == 2)::undef::undef::undef::(ptO a0 (3))::.slice y.aa y.n y.ac::vi (y.n : Int)::vi 0::uns 44 []))), [], [some (a0, .row y.row 29 5)]⟩ R (text_own_L8_K y a0 R) :=
  CT.pad 1 <| CT.loop_eqs (text_own_L8_inv y a0) (text_own_L8_I y a0 R) (text_own_L8_mu y a0) (fun zw => (0, (none : Option Nat), 0, ([] : List Value), zw)) (by kernel_rfl) (by kernel_rfl) ⟨rfl, (show TI y 0 (none : Option Nat) 0 ([] : List Value) from ⟨Nat.zero_le _, fun _ => rfl, Nat.le_refl _, by simp [maxLen], rfl⟩)⟩
    (by
      rintro ⟨j, b, cap, Lr, u3⟩ G hG ⟨rfl, hI⟩
      exact text_own_L8_body y a0 _ hrec hy hg hw hT j b cap Lr u3 hI)
noncomputable def text_own_L16_inv (y : L) (a0 : Nat) (x4 : Nat×Option Nat×Nat×List Value×NV) (a11 : Nat)  : Nat×ByteArray×NV → St := fun zx => ⟨(.agg y.row.toArray::ptA a0::.string ByteArray.empty::gsv (some a11) x4.1 x4.2.2.1::undef::(x4.2.2.2.2 5)::.string zx.2.1::undef::(zx.2.2 8)::ptA a0::vi y.k::.bool false::.bool (y.k == 1)::uns 5 (.bool false::.bool (y.k == 2)::undef::undef::undef::(ptO a0 (3))::.slice y.aa y.n y.ac::vi (y.n : Int)::vi (x4.1 : Int)::urun x4.2.2.2.2 27 9 (ptA a0::vi y.k::.bool false::uns 8 (gsv (some a11) x4.1 x4.2.2.1::(ptO a11 (0 + Int.toNat 0 * 1))::.string (T.txt (y.kid 0).t)::(ptO a0 (4))::.slice y.pa y.m y.pc::vi (y.m : Int)::vi ((zx.1 : Nat) : Int)::urun zx.2.2 54 16 (undef::[]))))), [], [some (a0, .row y.row 29 5), gsb (some a11) x4.2.2.2.1 9 (x4.2.2.1 * 1)]⟩
def text_own_L16_I (y : L) (a0 : Nat) (x4 : Nat×Option Nat×Nat×List Value×NV) (a11 : Nat)  (R : RO) : Nat×ByteArray×NV → RO → Prop := fun zx G => G = R∧(zx.1 ≤ y.m∧zx.2.1 = T.powsB (T.txt (y.kid 0).t) ((List.range zx.1).map y.pw))
def text_own_L16_mu (y : L) (a0 : Nat) (x4 : Nat×Option Nat×Nat×List Value×NV) (a11 : Nat)  : Nat×ByteArray×NV → Nat := fun zx => y.m - zx.1
noncomputable def text_own_L16_K (y : L) (a0 : Nat) (x4 : Nat×Option Nat×Nat×List Value×NV) (a11 : Nat)  (R : RO) : Exit' → St → RO → Prop := altPost R (.alt (Nat×ByteArray×NV) (fun zx => zx.1 = y.m∧zx.2.1 = T.powsB (T.txt (y.kid 0).t) ((List.range zx.1).map y.pw)) (fun zx => (.exit 3, ((text_own_L16_inv y a0 x4 a11 zx).up [] [some (a0, .row y.row 29 5), gsb (some a11) x4.2.2.2.1 9 (x4.2.2.1 * 1)]))) (fun _ => .altn) .altn)
theorem text_own_L16_body (y : L) (a0 : Nat) (x4 : Nat×Option Nat×Nat×List Value×NV) (a11 : Nat)  (R : RO) (hn : 0 < y.n) (hrec : ∀ (j : Nat) (R : RO), y.ok R → TabR R → j < y.n → Gives Tryd.prog 32 [(y.kid j).v] R [] (.ret (.string (T.txt (y.kid j).t))) []) (hy : y.ok R) (hg : y.t.good) (hw : y.t.wt ≤ 1000000) (hT : TabR R) (j : Nat) (s6 : ByteArray) (u12 : Nat → Value) (hI : j ≤ y.m∧s6 = T.powsB (T.txt (y.kid 0).t) ((List.range j).map y.pw)) : CT Tryd.prog (sub (bodyOf Tryd.f32) [1, 1, 1, 1, 1, 1, 0, 1, 0, 0]) (text_own_L16_inv y a0 x4 a11 (j, s6, u12)) R (LK (text_own_L16_inv y a0 x4 a11) (text_own_L16_I y a0 x4 a11 R) (text_own_L16_mu y a0 x4 a11) (text_own_L16_K y a0 x4 a11 R) (j, s6, u12)) :=
  CT.of_wp_eq (VC := (let z2 : List Value := y.row;let z1 := ((⟨#[94]⟩ : ByteArray) ++ (decB ((y.pw j).1)));let z0 := (z1 ++ (⟨#[58]⟩ : ByteArray));let z3 := (z0 ++ (itoB ((y.pw j).2)));((decide ((j : Int) < (y.m : Int))) = true → (y.pa = some ⟨y.PB, y.PO, none⟩∧(0 : Int) ≤ (j : Int)∧((j : Int) : Int) < (y.m : Int))∧(R.cells y.PB (y.PO + Int.toNat (j : Int) * 2) [vu ((y.pw j).1), vi ((y.pw j).2)])∧∀ a64 : Nat, (a64 = a64)∧(a64 = a64)∧(IntKind.u64.wrap ((y.pw j).1) = ((y.pw j).1))∧(Gives Tryd.prog 35 [.int .u64 ((y.pw j).1), vi 10] R [] (.ret (.string (decB ((y.pw j).1)))) [])∧((⟨#[94]⟩ : ByteArray).size + (decB ((y.pw j).1)).size ≤ 9223372036854775807)∧(z1.size + (⟨#[58]⟩ : ByteArray).size ≤ 9223372036854775807)∧(a64 = a64)∧(Gives Tryd.prog 38 [vi ((y.pw j).2)] R [] (.ret (.string (itoB ((y.pw j).2)))) [])∧(z0.size + (itoB ((y.pw j).2)).size ≤ 9223372036854775807)∧(s6.size + z3.size ≤ 9223372036854775807)∧(NW .i64 ((j : Int) + 1))∧LK (text_own_L16_inv y a0 x4 a11) (text_own_L16_I y a0 x4 a11 R) (text_own_L16_mu y a0 x4 a11) (text_own_L16_K y a0 x4 a11 R) (j, s6, u12) .normal ((text_own_L16_inv y a0 x4 a11 (j, s6, u12)).up [(6, .string (s6 ++ z3)), (8, ptA a64), (53, vi ((j : Int) + 1)), (54, .bool true), (55, (ptO y.PB (y.PO + Int.toNat (j : Int) * 2))), (56, .agg #[vu ((y.pw j).1), vi ((y.pw j).2)]), (57, .string s6), (58, ptA a64), (59, vu ((y.pw j).1)), (60, .int .u64 ((y.pw j).1)), (61, .string (decB ((y.pw j).1))), (62, .string z1), (63, .string z0), (64, (ptO a64 (1))), (65, vi ((y.pw j).2)), (66, .string (itoB ((y.pw j).2))), (67, .string z3), (68, .string (s6 ++ z3)), (69, vi ((j : Int) + 1))] [some (a0, .row z2 29 5), gsb (some a11) x4.2.2.2.1 9 (x4.2.2.1 * 1), some (a64, .row [vu ((y.pw j).1), vi ((y.pw j).2)] 58 2)]) R)∧((decide ((j : Int) < (y.m : Int))) = false → LK (text_own_L16_inv y a0 x4 a11) (text_own_L16_I y a0 x4 a11 R) (text_own_L16_mu y a0 x4 a11) (text_own_L16_K y a0 x4 a11 R) (j, s6, u12) (.exit 3) ((text_own_L16_inv y a0 x4 a11 (j, s6, u12)).up [(54, .bool false)] [some (a0, .row z2 29 5), gsb (some a11) x4.2.2.2.1 9 (x4.2.2.1 * 1)]) R))) (ops [.d] (.sp 54 (ops [.ib y.PB y.PO, .ro (fun v => [vu ((y.pw j).1), vi ((y.pw j).2)])] (.opn 2 (fun a64 => (ops [.p 2] (.dr [some (.d), some (.d), some (.p 2), some (.nw), some (.call0 [] [] (fun e v => .ret (.string (decB ((y.pw j).1)))) (fun e v => [])), some (.cat), some (.cat), some (.d), some (.p 2), some (.call0 [] [] (fun e v => .ret (.string (itoB ((y.pw j).2)))) (fun e v => [])), some (.cat), some (.cat), some (.d)] (ops [.nw, .d] (.fin [] []))))))) (.fin [] []))) (by kernel_rfl)
    (⟨fun h63 => (have := of_decide_eq_true h63;⟨⟨(hy.pow j (by omega)).1, by omega, by omega⟩, ⟨(hy.pow j (by omega)).2, fun a64 => ⟨rfl, ⟨rfl, ⟨(wrapU (by have h9 := (L.good_pw hg (j := j) (by omega)).1;omega) (by have h9 := (L.good_pw hg (j := j) (by omega)).1;omega)), ⟨(fmu_ok ((y.pw j).1) R (by have h9 := (L.good_pw hg (j := j) (by omega)).1;omega) (by have h9 := (L.good_pw hg (j := j) (by omega)).1;omega) hT), ⟨(by have c1 : (⟨#[35]⟩ : ByteArray).size = 1 := rfl;have c2 : (⟨#[40]⟩ : ByteArray).size = 1 := rfl;have c3 : (⟨#[41]⟩ : ByteArray).size = 1 := rfl;have c4 : (⟨#[94]⟩ : ByteArray).size = 1 := rfl;have c5 : (⟨#[58]⟩ : ByteArray).size = 1 := rfl;have d1 := decB_size (L.good_pw hg (j := j) (by omega)).1.1 (L.good_pw hg (j := j) (by omega)).1.2;(try simp only [ByteArray.size_append]);omega), ⟨(by have c1 : (⟨#[35]⟩ : ByteArray).size = 1 := rfl;have c2 : (⟨#[40]⟩ : ByteArray).size = 1 := rfl;have c3 : (⟨#[41]⟩ : ByteArray).size = 1 := rfl;have c4 : (⟨#[94]⟩ : ByteArray).size = 1 := rfl;have c5 : (⟨#[58]⟩ : ByteArray).size = 1 := rfl;have d1 := decB_size (L.good_pw hg (j := j) (by omega)).1.1 (L.good_pw hg (j := j) (by omega)).1.2;(try simp only [ByteArray.size_append]);omega), ⟨rfl, ⟨(itoa_ok ((y.pw j).2) R (by have h9 := (L.good_pw hg (j := j) (by omega)).2;omega) (by have h9 := (L.good_pw hg (j := j) (by omega)).2;omega) hT), ⟨(by have c1 : (⟨#[35]⟩ : ByteArray).size = 1 := rfl;have c2 : (⟨#[40]⟩ : ByteArray).size = 1 := rfl;have c3 : (⟨#[41]⟩ : ByteArray).size = 1 := rfl;have c4 : (⟨#[94]⟩ : ByteArray).size = 1 := rfl;have c5 : (⟨#[58]⟩ : ByteArray).size = 1 := rfl;have d1 := decB_size (L.good_pw hg (j := j) (by omega)).1.1 (L.good_pw hg (j := j) (by omega)).1.2;have d2 := itoB_size (L.good_pw hg (j := j) (by omega)).2.1 (L.good_pw hg (j := j) (by omega)).2.2;(try simp only [ByteArray.size_append]);omega), ⟨(by have c1 : (⟨#[35]⟩ : ByteArray).size = 1 := rfl;have c2 : (⟨#[40]⟩ : ByteArray).size = 1 := rfl;have c3 : (⟨#[41]⟩ : ByteArray).size = 1 := rfl;have c4 : (⟨#[94]⟩ : ByteArray).size = 1 := rfl;have c5 : (⟨#[58]⟩ : ByteArray).size = 1 := rfl;have d1 := decB_size (L.good_pw hg (j := j) (by omega)).1.1 (L.good_pw hg (j := j) (by omega)).1.2;have d2 := itoB_size (L.good_pw hg (j := j) (by omega)).2.1 (L.good_pw hg (j := j) (by omega)).2.2;have d6 := L.pow_size hg hn (j := j) (by omega);have d7 : s6.size = _ := congrArg ByteArray.size hI.2;(try simp only [ByteArray.size_append]);omega), ⟨(nwI (by omega) (by have h9 := L.wt_n y;have h8 := L.wt_m y;omega)), LKn (fun zw => ((j + 1), (s6 ++ ((((⟨#[94]⟩ : ByteArray) ++ (decB ((y.pw j).1))) ++ (⟨#[58]⟩ : ByteArray)) ++ (itoB ((y.pw j).2)))), zw)) ⟨⟨rfl, (show (j + 1) ≤ y.m∧(s6 ++ ((((⟨#[94]⟩ : ByteArray) ++ (decB ((y.pw j).1))) ++ (⟨#[58]⟩ : ByteArray)) ++ (itoB ((y.pw j).2)))) = T.powsB (T.txt (y.kid 0).t) ((List.range (j + 1)).map y.pw) from ⟨by omega, (by rw [List.range_succ, List.map_append, List.map_singleton, T.powsB_snoc, ← hI.2];rfl)⟩)⟩, (show y.m - (j + 1) < y.m - j from (by omega)), ⟨(by show _ = _;kernel_rfl), rfl, rfl⟩⟩⟩⟩⟩⟩⟩⟩⟩⟩⟩⟩⟩⟩⟩), fun h63 => (have := of_decide_eq_false h63;altA (fun zw => (j, s6, zw)) ⟨(show j = y.m∧s6 = T.powsB (T.txt (y.kid 0).t) ((List.range j).map y.pw) from ⟨by omega, hI.2⟩), (by show _ = _;kernel_rfl), ⟨(by show _ = _;kernel_rfl), (by show _ = _;kernel_rfl), (by show _ = _;kernel_rfl)⟩⟩)⟩)
theorem text_own_L16_ct (y : L) (a0 : Nat) (x4 : Nat×Option Nat×Nat×List Value×NV) (a11 : Nat)  (R : RO) (hn : 0 < y.n) (hrec : ∀ (j : Nat) (R : RO), y.ok R → TabR R → j < y.n → Gives Tryd.prog 32 [(y.kid j).v] R [] (.ret (.string (T.txt (y.kid j).t))) []) (hy : y.ok R) (hg : y.t.good) (hw : y.t.wt ≤ 1000000) (hT : TabR R)  : CT Tryd.prog (sub (bodyOf Tryd.f32) [1, 1, 1, 1, 1, 1, 0, 1, 0]) ⟨(.agg y.row.toArray::ptA a0::.string ByteArray.empty::gsv (some a11) x4.1 x4.2.2.1::undef::(x4.2.2.2.2 5)::.string (T.txt (y.kid 0).t)::undef::undef::ptA a0::vi y.k::.bool false::.bool (y.k == 1)::uns 5 (.bool false::.bool (y.k == 2)::undef::undef::undef::(ptO a0 (3))::.slice y.aa y.n y.ac::vi (y.n : Int)::vi (x4.1 : Int)::urun x4.2.2.2.2 27 9 (ptA a0::vi y.k::.bool false::uns 8 (gsv (some a11) x4.1 x4.2.2.1::(ptO a11 (0 + Int.toNat 0 * 1))::.string (T.txt (y.kid 0).t)::(ptO a0 (4))::.slice y.pa y.m y.pc::vi (y.m : Int)::vi 0::uns 17 [])))), [], [some (a0, .row y.row 29 5), gsb (some a11) x4.2.2.2.1 9 (x4.2.2.1 * 1)]⟩ R (text_own_L16_K y a0 x4 a11 R) :=
  CT.loop_eqs (text_own_L16_inv y a0 x4 a11) (text_own_L16_I y a0 x4 a11 R) (text_own_L16_mu y a0 x4 a11) (fun zw => (0, (T.txt (y.kid 0).t), zw)) (by kernel_rfl) (by kernel_rfl) ⟨rfl, (show 0 ≤ y.m∧(T.txt (y.kid 0).t) = T.powsB (T.txt (y.kid 0).t) ((List.range 0).map y.pw) from ⟨Nat.zero_le _, rfl⟩)⟩
    (by
      rintro ⟨j, s6, u12⟩ G hG ⟨rfl, hI⟩
      exact text_own_L16_body y a0 x4 a11 _ hn hrec hy hg hw hT j s6 u12 hI)
theorem text_own (y : L) (R : RO) (hrec : ∀ (j : Nat) (R : RO), y.ok R → TabR R → j < y.n → Gives Tryd.prog 32 [(y.kid j).v] R [] (.ret (.string (T.txt (y.kid j).t))) []) (hy : y.ok R) (hg : y.t.good) (hw : y.t.wt ≤ 1000000) (hT : TabR R) (h4 : ¬ y.k = 1 → ¬ y.k = 2 → ¬ y.k = 3 → y.k = 4∧0 < y.n) : Gives Tryd.prog 32 [.agg y.row.toArray] R [] (.ret (.string (T.txt y.t))) [] :=
  Does.of_wp_eq (VC := (let z5 := (Gives Tryd.prog 36 [.string y.s] R [] (.ret (.string (quotB y.s))) []);let z4 := ((quotB y.s) ++ (⟨#[40]⟩ : ByteArray));let z3 := (joinC ((List.range y.n).map fun j => T.txt (y.kid j).t));let z2 : List Value := y.row;let z1 : Array Value := y.row.toArray;∀ a0 : Nat, (a0 = a0)∧((y.k == 1) = true → (a0 = a0)∧(IntKind.u64.wrap y.id = y.id)∧(Gives Tryd.prog 35 [.int .u64 y.id, vi 10] R [] (.ret (.string (decB y.id))) [])∧((⟨#[35]⟩ : ByteArray).size + (decB y.id).size ≤ 9223372036854775807)∧GQ R (.ret (.string (T.txt y.t))) [] (.ret (.string ((⟨#[35]⟩ : ByteArray) ++ (decB y.id)))) R [])∧((y.k == 1) = false → ((y.k == 2) = true → (a0 = a0)∧z5∧GQ R (.ret (.string (T.txt y.t))) [] (.ret (.string (quotB y.s))) R [])∧((y.k == 2) = false → (a0 = a0)∧(CT Tryd.prog (sub (bodyOf Tryd.f32) [1, 1, 1, 0, 1, 0]) ⟨(.agg z1::ptA a0::.string ByteArray.empty::.slice none 0 0::uns 5 (ptA a0::vi y.k::.bool false::.bool (y.k == 1)::uns 5 (.bool false::.bool (y.k == 2)::undef::undef::undef::(ptO a0 (3))::.slice y.aa y.n y.ac::vi (y.n : Int)::vi 0::uns 44 []))), [], [some (a0, .row z2 29 5)]⟩ R (text_own_L8_K y a0 R))∧(∀ x4 : Nat×Option Nat×Nat×List Value×NV, let z0 : List Value := (.bool false::.bool (y.k == 2)::undef::undef::undef::(ptO a0 (3))::.slice y.aa y.n y.ac::vi (y.n : Int)::vi (x4.1 : Int)::urun x4.2.2.2.2 27 9 (ptA a0::vi y.k::.bool false::uns 32 []));(x4.1 = y.n∧TI y x4.1 x4.2.1 x4.2.2.1 x4.2.2.2.1) → (a0 = a0)∧((y.k == 3) = true → (a0 = a0)∧z5∧((quotB y.s).size + (⟨#[40]⟩ : ByteArray).size ≤ 9223372036854775807)∧(Gives Tryd.prog 37 [gsv x4.2.1 x4.1 x4.2.2.1, .string (⟨#[44]⟩ : ByteArray)] R [gsb x4.2.1 x4.2.2.2.1 9 (x4.2.2.1 * 1)] (.ret (.string z3)) [gsb x4.2.1 x4.2.2.2.1 9 (x4.2.2.1 * 1)])∧(z4.size + z3.size ≤ 9223372036854775807)∧((z4 ++ z3).size + (⟨#[41]⟩ : ByteArray).size ≤ 9223372036854775807)∧GQ R (.ret (.string (T.txt y.t))) [] (.ret (.string ((z4 ++ z3) ++ (⟨#[41]⟩ : ByteArray)))) R [])∧((y.k == 3) = false → (∃ a11 : Nat, x4.2.1 = some a11)∧∀ a11 : Nat, let z6 : Hp := [some (a0, .row z2 29 5), gsb (some a11) x4.2.2.2.1 9 (x4.2.2.1 * 1)];x4.2.1 = some a11 → ((⟨(.agg z1::ptA a0::.string ByteArray.empty::gsv x4.2.1 x4.1 x4.2.2.1::undef::(x4.2.2.2.2 5)::undef::undef::undef::ptA a0::vi y.k::.bool false::.bool (y.k == 1)::uns 5 z0), [], [some (a0, .row z2 29 5), gsb x4.2.1 x4.2.2.2.1 9 (x4.2.2.1 * 1)]⟩ : St) = ⟨(.agg z1::ptA a0::.string ByteArray.empty::gsv (some a11) x4.1 x4.2.2.1::undef::(x4.2.2.2.2 5)::undef::undef::undef::ptA a0::vi y.k::.bool false::.bool (y.k == 1)::uns 5 z0), [], z6⟩∧(IB 0 (x4.1 : Nat))∧(a11 = a11∧readVar Tryd.prog 9 x4.2.2.2.1 (0 + Int.toNat 0 * 1) = some (.string (T.txt (y.kid 0).t)))∧(a0 = a0)∧(CT Tryd.prog (sub (bodyOf Tryd.f32) [1, 1, 1, 1, 1, 1, 0, 1, 0]) ⟨(.agg z1::ptA a0::.string ByteArray.empty::gsv (some a11) x4.1 x4.2.2.1::undef::(x4.2.2.2.2 5)::.string (T.txt (y.kid 0).t)::undef::undef::ptA a0::vi y.k::.bool false::.bool (y.k == 1)::uns 5 (.bool false::.bool (y.k == 2)::undef::undef::undef::(ptO a0 (3))::.slice y.aa y.n y.ac::vi (y.n : Int)::vi (x4.1 : Int)::urun x4.2.2.2.2 27 9 (ptA a0::vi y.k::.bool false::uns 8 (gsv (some a11) x4.1 x4.2.2.1::(ptO a11 (0 + Int.toNat 0 * 1))::.string (T.txt (y.kid 0).t)::(ptO a0 (4))::.slice y.pa y.m y.pc::vi (y.m : Int)::vi 0::uns 17 [])))), [], z6⟩ R (text_own_L16_K y a0 x4 a11 R))∧(∀ x13 : Nat×ByteArray×NV, (x13.1 = y.m∧x13.2.1 = T.powsB (T.txt (y.kid 0).t) ((List.range x13.1).map y.pw)) → GQ R (.ret (.string (T.txt y.t))) [] (.ret (.string x13.2.1)) R [])∧True)))∧True)))) (let y_0 : List Value := y.row;.opn 0 (fun a0 => (ops [.d, .d, .p 0, .d, .d] (.sp 11 (ops [.d, .p 0, .nw, .call0 [] [] (fun e v => .ret (.string (decB y.id))) (fun e v => []), .cat, .d] (.fin [] [])) (ops [.d, .d] (.sp 18 (ops [.d, .p 0, .call0 [] [] (fun e v => .ret (.string (quotB y.s))) (fun e v => []), .d] (.fin [] [])) (ops [.d, .d, .p 0, .d, .d] (.alt (Nat×Option Nat×Nat×List Value×NV) (fun zx => zx.1 = y.n∧TI y zx.1 zx.2.1 zx.2.2.1 zx.2.2.2.1) (fun zx => (.exit 1, ((text_own_L8_inv y a0 zx).up [] [some (a0, .row y_0 29 5), gsb zx.2.1 zx.2.2.2.1 9 (zx.2.2.1 * 1)]))) (fun x4 => (ops [.d, .p 0, .d] (.sp 38 (ops [.d, .p 0, .call0 [] [] (fun e v => .ret (.string (quotB y.s))) (fun e v => []), .cat, .d, .call0 [1] [] (fun e v => .ret (.string (joinC ((List.range y.n).map fun j => T.txt (y.kid j).t)))) (fun e v => [gsb x4.2.1 x4.2.2.2.1 9 (x4.2.2.1 * 1)]), .cat, .cat, .d] (.fin [] [])) (.ex Nat (fun a11 => x4.2.1 = some a11) (fun a11 => let y_1 : Hp := [some (a0, .row y_0 29 5), gsb (some a11) x4.2.2.2.1 9 (x4.2.2.1 * 1)];.rw (⟨(.agg y.row.toArray::ptA a0::.string ByteArray.empty::gsv (some a11) x4.1 x4.2.2.1::undef::(x4.2.2.2.2 5)::undef::undef::undef::ptA a0::vi y.k::.bool false::.bool (y.k == 1)::uns 5 (.bool false::.bool (y.k == 2)::undef::undef::undef::(ptO a0 (3))::.slice y.aa y.n y.ac::vi (y.n : Int)::vi ((x4.1 : Nat) : Int)::urun x4.2.2.2.2 27 9 (ptA a0::vi y.k::.bool false::uns 32 []))), [], y_1⟩) (ops [.d, .ia, .q 1 (fun e v => .string (T.txt (y.kid 0).t)), .d, .d, .p 0, .d, .d] (.alt (Nat×ByteArray×NV) (fun zx => zx.1 = y.m∧zx.2.1 = T.powsB (T.txt (y.kid 0).t) ((List.range zx.1).map y.pw)) (fun zx => (.exit 3, ((text_own_L16_inv y a0 x4 a11 zx).up [] y_1))) (fun x13 => (ops [.d, .d] (.fin [] []))) .altn))))))) .altn)))))))) Tryd.func32 (by kernel_rfl) (by kernel_rfl)
    (fun a0 => ⟨rfl, ⟨fun h1 => (have := eq_of_beq h1;⟨rfl, ⟨(wrapU (by have h9 := ((L.good_eq y).1 hg).1;omega) (by have h9 := ((L.good_eq y).1 hg).1;omega)), ⟨(fmu_ok y.id R (by have h9 := ((L.good_eq y).1 hg).1;omega) (by have h9 := ((L.good_eq y).1 hg).1;omega) hT), ⟨(by have c1 : (⟨#[35]⟩ : ByteArray).size = 1 := rfl;have c2 : (⟨#[40]⟩ : ByteArray).size = 1 := rfl;have c3 : (⟨#[41]⟩ : ByteArray).size = 1 := rfl;have c4 : (⟨#[94]⟩ : ByteArray).size = 1 := rfl;have c5 : (⟨#[58]⟩ : ByteArray).size = 1 := rfl;have d1 := decB_size ((L.good_eq y).1 hg).1.1 ((L.good_eq y).1 hg).1.2;(try simp only [ByteArray.size_append]);omega), ⟨rfl, (by exact congrArg (fun z => Out.ret (.string z)) (txt_atom (by omega)).symm), (by rfl)⟩⟩⟩⟩⟩), fun h1 => (have := ne_of_beq_false h1;⟨fun h2 => (have := eq_of_beq h2;⟨rfl, ⟨(quoted_ok y.s R (by have h9 := L.wt_eq y;omega)), ⟨rfl, (by exact congrArg (fun z => Out.ret (.string z)) (txt_word (by omega)).symm), (by rfl)⟩⟩⟩), fun h2 => (have := ne_of_beq_false h2;⟨rfl, ⟨text_own_L8_ct y a0 R hrec hy hg hw hT, ⟨fun x4 qx4 => ⟨rfl, ⟨fun h10 => (have := eq_of_beq h10;⟨rfl, ⟨(quoted_ok y.s R (by have h9 := L.wt_eq y;omega)), ⟨(by have c1 : (⟨#[35]⟩ : ByteArray).size = 1 := rfl;have c2 : (⟨#[40]⟩ : ByteArray).size = 1 := rfl;have c3 : (⟨#[41]⟩ : ByteArray).size = 1 := rfl;have c4 : (⟨#[94]⟩ : ByteArray).size = 1 := rfl;have c5 : (⟨#[58]⟩ : ByteArray).size = 1 := rfl;have d3 := quotB_size y.s;have d4 := L.wt_eq y;(try simp only [ByteArray.size_append]);omega), ⟨(join_at R qx4 hg hw), ⟨(by have c1 : (⟨#[35]⟩ : ByteArray).size = 1 := rfl;have c2 : (⟨#[40]⟩ : ByteArray).size = 1 := rfl;have c3 : (⟨#[41]⟩ : ByteArray).size = 1 := rfl;have c4 : (⟨#[94]⟩ : ByteArray).size = 1 := rfl;have c5 : (⟨#[58]⟩ : ByteArray).size = 1 := rfl;have d3 := quotB_size y.s;have d4 := L.wt_eq y;have d5 := L.join_size hg;(try simp only [ByteArray.size_append]);omega), ⟨(by have c1 : (⟨#[35]⟩ : ByteArray).size = 1 := rfl;have c2 : (⟨#[40]⟩ : ByteArray).size = 1 := rfl;have c3 : (⟨#[41]⟩ : ByteArray).size = 1 := rfl;have c4 : (⟨#[94]⟩ : ByteArray).size = 1 := rfl;have c5 : (⟨#[58]⟩ : ByteArray).size = 1 := rfl;have d3 := quotB_size y.s;have d4 := L.wt_eq y;have d5 := L.join_size hg;(try simp only [ByteArray.size_append]);omega), ⟨rfl, (by exact congrArg (fun z => Out.ret (.string z)) (txt_hash (by omega)).symm), (by rfl)⟩⟩⟩⟩⟩⟩⟩), fun h10 => (have := ne_of_beq_false h10;⟨(by cases h9 : x4.2.1 with | none => exact absurd (qx4.2.2.1 h9) (by have h8 := qx4.2.2.2.1;have h7 := qx4.1;omega) | some a => exact ⟨a, rfl⟩), fun a11 hxa11 => ⟨(by rw [hxa11]), ⟨(by omega), ⟨⟨rfl, (rd_txt qx4 (by omega))⟩, ⟨rfl, ⟨text_own_L16_ct y a0 x4 a11 R (by omega) hrec hy hg hw hT, ⟨fun x13 qx13 => ⟨rfl, (by exact congrArg (fun z => Out.ret (.string z)) ((txt_pow (by omega) (by omega)).trans (by rw [qx13.2, qx13.1])).symm), (by rfl)⟩, trivial⟩⟩⟩⟩⟩⟩⟩)⟩⟩, trivial⟩⟩⟩)⟩)⟩⟩)
theorem Does.forget {P : Program} {f : FuncId} {args : List Value} {R : RO} {H B0 : Hp} {o : Out} (h : Does P f args R H fun r G B => r = o∧B = B0) : Gives P f args R H o B0 := by
  intro Rx w hR hs
  refine (h Rx w hR hs).mono ?_
  rintro e w' ⟨o', G, B, Rx', rfl, ⟨rfl, rfl⟩, hx, hs'⟩
  exact ⟨_, R, _, Rx', rfl, ⟨rfl, rfl, rfl⟩, ⟨R.le_refl, hx.lex, RO.le_trans hx.le hx.leg, fun b hb => .inl hb⟩, hs'⟩
theorem L.ht_kid {y : L} {j : Nat} (h : j < y.n) : (y.kid j).t.ht < y.t.ht := by
  rw [L.t_eq y]
  have := T.htL_le (l := (List.range y.n).map fun j => (y.kid j).t) (t := (y.kid j).t) (List.mem_map.2 ⟨j, List.mem_range.2 h, rfl⟩)
  show _ < T.htL _ + 1
  omega
theorem text_ok : ∀ (h : Nat) (y : L) (R : RO), y.t.ht ≤ h → y.ok R → y.t.good → y.t.wt ≤ 1000000 → TabR R → Gives Tryd.prog 32 [y.v] R [] (.ret (.string (T.txt y.t))) [] := by
  intro h
  induction h with
  | zero => intro y R hh;have := T.ht_pos y.t;omega
  | succ h ih =>
    intro y R hh hy hg hw hT
    have hg' := (L.good_eq y).1 hg
    exact text_own y R (fun j S hS hTS hj => ih (y.kid j) S (by have := L.ht_kid hj;omega) (hS.kid hj) (hg'.2.2.2 j hj) (by have := L.wt_kid y hj;omega) hTS) hy hg hw hT
      (fun h1 h2 h3 => by rcases hg'.2.2.1 with h | h | h | h <;> first | exact h | omega)
theorem norm_ok (y : L) (R : RO) (hy : y.ok R) (hw : y.t.wt ≤ 1000000) : Does Tryd.prog 25 [.agg y.row.toArray] R [] (fun (r : Out) (G : RO) (B : Hp) => ∃ x : L, (x.ok G∧x.t = T.nrm 1 y.t)∧r = .ret (.agg x.row.toArray)∧B = []) :=
  Does.of_wp_eq (VC := (∀ a0 : Nat, ∀ a1 : Nat, (a0 = a0)∧(Does Tryd.prog 30 [.agg y.row.toArray, vi 1] R [] (fun r G B => ∃ z2 : L, (z2.ok G∧z2.t = T.nrm 1 y.t)∧r = .ret (.agg z2.row.toArray)∧B = []))∧∀ (z2 : L) (G3 : RO), R.le G3 → (z2.ok G3∧z2.t = T.nrm 1 y.t) → (a1 = a1)∧(a1 = a1)∧(fun (r : Out) (G : RO) (B : Hp) => ∃ x : L, (x.ok G∧x.t = T.nrm 1 y.t)∧r = .ret (.agg x.row.toArray)∧B = []) (.ret (.agg z2.row.toArray)) G3 [])) (.opn 0 (fun a0 => (.opn 1 (fun a1 => (ops [.p 0] (.opg [] [] (L) (fun z2 G => z2.ok G∧z2.t = T.nrm 1 y.t) (fun z2 => (.agg z2.row.toArray, [])) (fun z2 => (ops [.p 1] (.fin [] [(1, none)]))))))))) Tryd.func25 (by kernel_rfl) (by kernel_rfl)
    (fun a0 => fun a1 => ⟨rfl, ⟨(normal_ok 40 1 rfl y R hy hw), fun z2 G3 hG3 qz2 => (have hy := L.ok_mono hG3 _ hy;⟨rfl, ⟨rfl, ⟨z2, qz2, (by rfl), (by rfl)⟩⟩⟩)⟩⟩)
theorem texu_own (y : L) (R : RO) (hy : y.ok R) (hw : y.t.wt ≤ 1000000) (ho : y.t.okn) (hT : TabR R) : Does Tryd.prog 27 [.agg y.row.toArray] R [] (fun (r : Out) (G : RO) (B : Hp) => ∃ x : Unit, (True)∧r = .ret (.string (T.txt (T.nrm 1 y.t)))∧B = []) :=
  Does.of_wp_eq (VC := (∀ a0 : Nat, (a0 = a0)∧(Does Tryd.prog 25 [.agg y.row.toArray] R [] (fun r G B => ∃ z1 : L, (z1.ok G∧z1.t = T.nrm 1 y.t)∧r = .ret (.agg z1.row.toArray)∧B = []))∧∀ (z1 : L) (G2 : RO), R.le G2 → (z1.ok G2∧z1.t = T.nrm 1 y.t) → (Gives Tryd.prog 32 [.agg z1.row.toArray] G2 [] (.ret (.string (T.txt (T.nrm 1 y.t)))) [])∧(fun (r : Out) (G : RO) (B : Hp) => ∃ x : Unit, (True)∧r = .ret (.string (T.txt (T.nrm 1 y.t)))∧B = []) (.ret (.string (T.txt (T.nrm 1 y.t)))) G2 [])) (.opn 0 (fun a0 => (ops [.d, .p 0] (.opg [] [] (L) (fun z1 G => z1.ok G∧z1.t = T.nrm 1 y.t) (fun z1 => (.agg z1.row.toArray, [])) (fun z1 => (ops [.call0 [] [] (fun e v => .ret (.string (T.txt (T.nrm 1 y.t)))) (fun e v => []), .d] (.fin [] []))))))) Tryd.func27 (by kernel_rfl) (by kernel_rfl)
    (fun a0 => ⟨rfl, ⟨(norm_ok y R hy hw), fun z1 G2 hG2 qz1 => (have hy := L.ok_mono hG2 _ hy;have hT := tab_mono hG2 hT;⟨(by rw [← qz1.2];exact text_ok _ z1 G2 (Nat.le_refl _) qz1.1 (by rw [qz1.2];exact T.good_nrm 1 _ ho) (by rw [qz1.2];exact Nat.le_trans (T.wt_nrm 1 _) hw) hT), ⟨(), trivial, (by rfl), (by rfl)⟩⟩)⟩⟩)
theorem texu_ok (y : L) (R : RO) (hy : y.ok R) (hw : y.t.wt ≤ 1000000) (ho : y.t.okn) (hT : TabR R) : Gives Tryd.prog 27 [y.v] R [] (.ret (.string (T.txt (T.nrm 1 y.t)))) [] :=
  Does.forget ((texu_own y R hy hw ho hT).mono (by rintro o G B hle ⟨-, -, rfl, rfl⟩;exact ⟨rfl, rfl⟩))
theorem same_ok (y z : L) (R : RO) (hy : y.ok R) (hw : y.t.wt ≤ 1000000) (ho : y.t.okn) (hy' : z.ok R) (hw' : z.t.wt ≤ 1000000) (ho' : z.t.okn) (hT : TabR R) : Gives Tryd.prog 10 [.agg y.row.toArray, .agg z.row.toArray] R [] (.ret (.bool ((T.txt (T.nrm 1 y.t)).toList == (T.txt (T.nrm 1 z.t)).toList))) [] :=
  Does.of_wp_eq (VC := (∀ a0 : Nat, ∀ a1 : Nat, (a0 = a0)∧(Gives Tryd.prog 27 [.agg y.row.toArray] R [] (.ret (.string (T.txt (T.nrm 1 y.t)))) [])∧(a1 = a1)∧(Gives Tryd.prog 27 [.agg z.row.toArray] R [] (.ret (.string (T.txt (T.nrm 1 z.t)))) [])∧GQ R (.ret (.bool ((T.txt (T.nrm 1 y.t)).toList == (T.txt (T.nrm 1 z.t)).toList))) [] (.ret (.bool ((T.txt (T.nrm 1 y.t)).toList == (T.txt (T.nrm 1 z.t)).toList))) R [])) (.opn 0 (fun a0 => (.opn 1 (fun a1 => (ops [.d] (.dr [some (.p 0), some (.call0 [] [] (fun e v => .ret (.string (T.txt (T.nrm 1 y.t)))) (fun e v => [])), some (.p 1), some (.call0 [] [] (fun e v => .ret (.string (T.txt (T.nrm 1 z.t)))) (fun e v => [])), some (.d), some (.d)] (.fin [] []))))))) Tryd.func10 (by kernel_rfl) (by kernel_rfl)
    (fun a0 => fun a1 => ⟨rfl, ⟨(texu_ok y R hy hw ho hT), ⟨rfl, ⟨(texu_ok z R hy' hw' ho' hT), ⟨rfl, (by rfl), (by rfl)⟩⟩⟩⟩⟩)
def powL (a : Nat) (y : L) (lv : Option Addr) (ln lc LB LO : Nat) (f : Nat → PW) : L := ⟨4, 0, .empty, some ⟨a, 0, none⟩, 1, 1, a, 0, fun _ => y, lv, ln, lc, LB, LO, f⟩
theorem powL_t (a : Nat) (y : L) (lv : Option Addr) (ln lc LB LO : Nat) (f : Nat → PW) : (powL a y lv ln lc LB LO f).t = .mk 4 0 .empty [y.t] ((List.range ln).map f) := rfl
theorem powL_ok (a : Nat) (y : L) (lv : Option Addr) (ln lc LB LO : Nat) (f : Nat → PW) (R : RO) (hc : R.cells a 0 y.row) (hy : y.ok R) (hl : ln ≤ lc∧lc ≤ maxLen) (hx : ∀ j, j < ln → lv = some ⟨LB, LO, none⟩∧R.cells LB (LO + j * 2) [vu (f j).1, vi (f j).2]) : (powL a y lv ln lc LB LO f).ok R := by
  rw [L.ok_eq]
  refine ⟨⟨Nat.le_refl 1, by simp [powL, maxLen], hl⟩, fun j hj => ?_, hx⟩
  have hj : j < 1 := hj
  have : j = 0 := by omega
  subst this
  exact ⟨rfl, hc, hy⟩
theorem raise_call (a : Nat) (y : L) (lv : Option Addr) (ln lc LB LO : Nat) (f : Nat → PW) (R : RO) (hy : y.ok R) (hw : y.t.wt + 400 + 60 * ln ≤ 1000000) (hl : ln ≤ lc∧lc ≤ maxLen) (hx : ∀ j, j < ln → lv = some ⟨LB, LO, none⟩∧R.cells LB (LO + j * 2) [vu (f j).1, vi (f j).2]) :
    Does Tryd.prog 25 [.agg #[vi 4, vu 0, .string .empty, slA a 1 1, .slice lv ln lc]] R [some (a, .row y.row 29 5)]
      (fun r G B => ∃ z : L, (z.ok G∧z.t = T.nrm 1 (.mk 4 0 .empty [y.t] ((List.range ln).map f)))∧r = .ret z.v∧B = [none]) :=
  (Does.give fun S hS hc => norm_ok (powL a y lv ln lc LB LO f) S (powL_ok a y lv ln lc LB LO f S hc (L.ok_mono hS _ hy) hl (hx_mono hS hx)) (by
    rw [powL_t];show 300 + 2 * 0 + 60 * ((List.range ln).map f).length + (y.t.wt + 1 + 0) ≤ _;rw [List.length_map, List.length_range];omega)).mono (by
    rintro o G B hle ⟨B', rfl, z, ⟨h1, h2⟩, rfl, rfl⟩
    exact ⟨z, ⟨h1, h2⟩, rfl, rfl⟩)
theorem raise_ok (y : L) (lv : Option Addr) (ln lc LB LO : Nat) (f : Nat → PW) (R : RO) (hy : y.ok R) (hw : y.t.wt + 400 + 60 * ln ≤ 1000000) (hl : ln ≤ lc∧lc ≤ maxLen) (hx : ∀ j, j < ln → lv = some ⟨LB, LO, none⟩∧R.cells LB (LO + j * 2) [vu (f j).1, vi (f j).2]) : Does Tryd.prog 33 [.agg y.row.toArray, .slice lv ln lc] R [] (fun (r : Out) (G : RO) (B : Hp) => ∃ x : L, (x.ok G∧x.t = T.nrm 1 (.mk 4 0 .empty [y.t] ((List.range ln).map f)))∧r = .ret (.agg x.row.toArray)∧B = []) :=
  Does.of_wp_eq (VC := (∀ a0 : Nat, ∀ a1 : Nat, (a0 = a0)∧∀ a2 : Nat, (Does Tryd.prog 25 [.agg #[vi 4, vu 0, .string ByteArray.empty, slA a2 1 1, .slice lv ln lc]] R [some (a2, .row y.row 29 5)] (fun r G B => ∃ z3 : L, (z3.ok G∧z3.t = T.nrm 1 (.mk 4 0 .empty [y.t] ((List.range ln).map f)))∧r = .ret (.agg z3.row.toArray)∧B = [none]))∧∀ (z3 : L) (G4 : RO), R.le G4 → (z3.ok G4∧z3.t = T.nrm 1 (.mk 4 0 .empty [y.t] ((List.range ln).map f))) → (a1 = a1)∧(a1 = a1)∧(fun (r : Out) (G : RO) (B : Hp) => ∃ x : L, (x.ok G∧x.t = T.nrm 1 (.mk 4 0 .empty [y.t] ((List.range ln).map f)))∧r = .ret (.agg x.row.toArray)∧B = []) (.ret (.agg z3.row.toArray)) G4 [])) (.opn 0 (fun a0 => (.opn 1 (fun a1 => (ops [.p 0] (.opn 2 (fun a2 => (ops [.d, .d] (.opg [2] [] (L) (fun z3 G => z3.ok G∧z3.t = T.nrm 1 (.mk 4 0 .empty [y.t] ((List.range ln).map f))) (fun z3 => (.agg z3.row.toArray, [none])) (fun z3 => (ops [.p 1] (.fin [] [(1, none)])))))))))))) Tryd.func33 (by kernel_rfl) (by kernel_rfl)
    (fun a0 => fun a1 => ⟨rfl, fun a2 => ⟨(raise_call _ y lv ln lc LB LO f R hy hw hl hx), fun z3 G4 hG4 qz3 => (have hy := L.ok_mono hG4 _ hy;⟨rfl, ⟨rfl, ⟨z3, qz3, (by rfl), (by rfl)⟩⟩⟩)⟩⟩)
end Go.Proofs.YtehbmooelcjfoaaDoor
set_option linter.unusedVariables false
set_option linter.unusedSimpArgs false
namespace Vc
open Go
def memRO (W : World) : RO := ⟨fun b => W.heap[b]?, W.os, W.tape, W.output⟩
theorem sat_memRO (W : World) : Sat W (memRO W) [] :=
  ⟨fun b o h => h, fun i a B h => by simp [Hp.at_nil] at h, fun i a B h => by simp [Hp.at_nil] at h, fun i j a B C h => by simp [Hp.at_nil] at h, rfl, rfl, rfl⟩
theorem below_of {W W' : World} {R' : RO} {H : Hp} (h : (memRO W).le R') (hs : Sat W' R' H) : RowKit.Below W.heap.size W W' := by
  have keep : ∀ k, k < W.heap.size → W'.heap[k]? = W.heap[k]? := fun k hk => by
    have h1 : W.heap[k]? = some W.heap[k] := Array.getElem?_eq_getElem hk
    rw [h1]
    exact hs.ro k _ (h.mem k _ h1)
  refine ⟨hs.os.trans h.os, hs.tape.trans h.tape, hs.out.trans h.out, ?_, keep⟩
  rcases Nat.lt_or_ge W'.heap.size W.heap.size with hl | hl
  · have := keep W'.heap.size hl
    rw [Array.getElem?_eq_getElem hl] at this
    simp at this
  · exact hl
def FitC (P : Program) (R : RO) : Nat → TypeId → List Value → Prop
  | 0, _, _ => False
  | n + 1, t, cs => match P.underlying t with
    | some .bool => ∃ b, cs = [.bool b]
    | some (.int k) => ∃ i, cs = [.int k i]∧k.min ≤ i∧i ≤ k.max
    | some .string => ∃ s, cs = [.string s]∧s.size ≤ maxLen
    | some (.slice e) => ∃ a len cap, cs = [.slice a len cap]∧len ≤ cap∧cap ≤ maxLen ∧
        ∀ i, i < len → ∃ b off ecs, a = some ⟨b, off, none⟩∧R.cells b (off + i * P.cellsOf e) ecs∧ecs.length = P.cellsOf e∧FitC P R n e ecs
    | some (.struct fs) => cs.length = P.cellsOf t∧∀ f ∈ fs.toList, FitC P R n f.type ((cs.drop f.offset).take (P.cellsOf f.type))
    | some (.array m e) => cs.length = P.cellsOf t∧∀ i, i < m → FitC P R n e ((cs.drop (i * P.cellsOf e)).take (P.cellsOf e))
    | _ => False
def plainT (P : Program) : Nat → TypeId → Bool
  | 0, _ => false
  | n + 1, t => match P.underlying t with
    | some .bool | some (.int _) | some .string => true
    | some (.slice e) => Nat.blt 0 (P.cellsOf e) && plainT P n e
    | some (.struct fs) => fs.toList.all fun f => plainT P n f.type
    | some (.array _ e) => plainT P n e
    | _ => false
theorem mapM_get {α β : Type} {f : α → Option β} : ∀ {l : List α} {ys : List β}, l.mapM f = some ys → ∀ x ∈ l, ∃ y, f x = some y
  | [], _, _, x, hx => by cases hx
  | a::l, ys, h, x, hx => by
    rw [List.mapM_cons] at h
    cases ha : f a with
    | none => simp [ha] at h
    | some b =>
      cases hl : l.mapM f with
      | none => simp [ha, hl] at h
      | some bs =>
        cases hx with
        | head => exact ⟨b, ha⟩
        | tail _ hm => exact mapM_get hl x hm
theorem mapM_length {α β : Type} {f : α → Option β} : ∀ {l : List α} {ys : List β}, l.mapM f = some ys → ys.length = l.length∧∀ (i : Nat) x y, l[i]? = some x → ys[i]? = some y → f x = some y
  | [], ys, h => by simp at h;subst h;simp
  | a::l, ys, h => by
    rw [List.mapM_cons] at h
    cases ha : f a with
    | none => simp [ha] at h
    | some b =>
      cases hl : l.mapM f with
      | none => simp [ha, hl] at h
      | some bs =>
        simp [ha, hl] at h
        subst h
        obtain ⟨h1, h2⟩ := mapM_length hl
        refine ⟨by simp [h1], fun i x y hx hy => ?_⟩
        cases i with
        | zero => simp at hx hy;subst hx;subst hy;exact ha
        | succ i => exact h2 i x y (by simpa using hx) (by simpa using hy)
theorem cells_of {w : World} {base : Nat} {a : Addr} {n : Nat} {cs : List Value} (hn : 0 < n) (h : w.cells? base a n = some cs) :
    a.spot = none∧cs.length = n∧(memRO w).cells a.block a.off cs := by
  unfold World.cells? at h
  split at h
  · obtain ⟨h1, h2⟩ := mapM_length h
    simp at h1
    have get : ∀ i, i < n → ∃ y, cs[i]? = some y∧w.cell? (a.add i) = some y := fun i hi => by
      have hc : i < cs.length := by omega
      exact ⟨cs[i], by simp [hc], h2 i i cs[i] (by simp [hi]) (by simp [hc])⟩
    obtain ⟨y, hy, h3⟩ := get 0 hn
    have h3' : w.cell? a = some y := h3
    unfold World.cell? at h3'
    split at h3'
    · rename_i c t fr hc
      split at h3'
      · cases h3'
      · rename_i hsp
        have hspot : a.spot = none := by
          cases hx : a.spot with
          | none => rfl
          | some k => rw [hx] at hsp;simp at hsp
        refine ⟨hspot, h1, c, t, fr, hc, ?_⟩
        apply List.ext_getElem?
        intro i
        by_cases hi : i < n
        · obtain ⟨y, hy, h4⟩ := get i hi
          have ha : a = ⟨a.block, a.off, none⟩ := by cases a;simp at hspot;subst hspot;rfl
          rw [ha, add_eq] at h4
          simp only [World.cell?, hc, Option.isSome_none, Bool.false_eq_true, if_false] at h4
          rw [hy, List.getElem?_take_of_lt (by omega), List.getElem?_drop]
          simpa using h4
        · rw [List.getElem?_eq_none (by simp;omega), List.getElem?_eq_none (by omega)]
    · cases h3'
  · cases h
theorem fit_of_trod {H : Type} {enc : TypeId×Value → H} {P : Program} {w : World} {spare : Nat → Bool} {held : Bool} : ∀ (k fuel : Nat) (t : TypeId) (cs : List Value) (x : DataW H×List MemPlace),
    plainT P k t = true → DataW.trod enc P w 0 spare held fuel t cs = some x → FitC P (memRO w) k t cs
  | 0, fuel, t, cs, x, hp, h => by simp [plainT] at hp
  | k + 1, 0, t, cs, x, hp, h => by simp [DataW.trod] at h
  | k + 1, fuel + 1, t, cs, x, hp, h => by
    unfold plainT at hp
    unfold FitC
    cases hu : P.underlying t with
    | none => simp [hu] at hp
    | some d =>
      cases d with
      | bool =>
        rcases cs with _ | ⟨v, _ | ⟨u, l⟩⟩ <;> simp [DataW.trod, hu] at h
        cases v <;> simp [hu] at h
        exact ⟨_, rfl⟩
      | int q =>
        rcases cs with _ | ⟨v, _ | ⟨u, l⟩⟩ <;> simp [DataW.trod, hu] at h
        cases v <;> simp [hu] at h
        obtain ⟨⟨rfl, h1⟩, _⟩ := h
        simp [Lit.wf] at h1
        exact ⟨_, rfl, h1.1, h1.2⟩
      | string =>
        rcases cs with _ | ⟨v, _ | ⟨u, l⟩⟩ <;> simp [DataW.trod, hu] at h
        cases v <;> simp [hu] at h
        exact ⟨_, rfl, h.1⟩
      | slice e =>
        simp only [hu, Bool.and_eq_true] at hp
        have hz : 0 < P.cellsOf e := by simpa using hp.1
        rcases cs with _ | ⟨v, _ | ⟨u, l⟩⟩ <;> simp [DataW.trod, hu] at h
        cases v with
        | slice a len cap =>
          cases a with
          | none =>
            cases len <;> cases cap <;> simp at h
            exact ⟨none, 0, 0, rfl, Nat.le_refl _, by simp [maxLen], fun i hi => by omega⟩
          | some a =>
            simp only at h
            split at h
            · rename_i hc
              cases hm : (List.range len).mapM (fun i => (w.cells? 0 (a.add (i * P.cellsOf e)) (P.cellsOf e)).bind (DataW.trod enc P w 0 spare held fuel e)) with
              | none => rw [hm] at h;simp at h
              | some ys =>
                refine ⟨some a, len, cap, rfl, hc.1, hc.2, fun i hi => ?_⟩
                have h0 : a.spot = none := by
                  obtain ⟨y, hy⟩ := mapM_get hm 0 (by simp;omega)
                  rw [Nat.zero_mul, add_zero] at hy
                  cases hq : w.cells? 0 a (P.cellsOf e) with
                  | none => rw [hq] at hy;cases hy
                  | some ecs => exact (cells_of hz hq).1
                have ha : a = ⟨a.block, a.off, none⟩ := by
                  cases a;simp at h0;subst h0;rfl
                obtain ⟨y, hy⟩ := mapM_get hm i (by simpa using hi)
                cases hq : w.cells? 0 (a.add (i * P.cellsOf e)) (P.cellsOf e) with
                | none => rw [hq] at hy;cases hy
                | some ecs =>
                  rw [hq] at hy
                  obtain ⟨_, q2, q3⟩ := cells_of hz hq
                  rw [ha, add_eq] at q3
                  exact ⟨a.block, a.off, ecs, congrArg some ha, q3, q2, fit_of_trod k fuel e ecs y hp.2 hy⟩
            · cases h
        | _ => simp at h
      | struct fs =>
        simp only [hu, List.all_eq_true] at hp
        have h' : (if cs.length = P.cellsOf t then (fs.toList.mapM fun f => DataW.trod enc P w 0 spare held fuel f.type ((cs.drop f.offset).take (P.cellsOf f.type))).map fun xs => (DataW.agg (xs.map (·.1)), xs.flatMap (·.2)) else none) = some x := by
          rw [← h]
          conv => rhs;unfold DataW.trod
          simp only [hu]
        split at h'
        · rename_i hl
          cases hm : fs.toList.mapM (fun f => DataW.trod enc P w 0 spare held fuel f.type ((cs.drop f.offset).take (P.cellsOf f.type))) with
          | none => simp [hm] at h'
          | some ys =>
            refine ⟨hl, fun f hf => ?_⟩
            obtain ⟨y, hy⟩ := mapM_get hm f hf
            exact fit_of_trod k fuel f.type _ y (hp f hf) hy
        · cases h'
      | array m e =>
        simp only [hu] at hp
        have h' : (if cs.length = P.cellsOf t then ((List.range m).mapM fun i => DataW.trod enc P w 0 spare held fuel e ((cs.drop (i * P.cellsOf e)).take (P.cellsOf e))).map fun xs => (DataW.agg (xs.map (·.1)), xs.flatMap (·.2)) else none) = some x := by
          rw [← h]
          conv => rhs;unfold DataW.trod
          simp only [hu]
        split at h'
        · rename_i hl
          cases hm : (List.range m).mapM (fun i => DataW.trod enc P w 0 spare held fuel e ((cs.drop (i * P.cellsOf e)).take (P.cellsOf e))) with
          | none => simp [hm] at h'
          | some ys =>
            refine ⟨hl, fun i hi => ?_⟩
            obtain ⟨y, hy⟩ := mapM_get hm i (by simpa using hi)
            exact fit_of_trod k fuel e _ y hp hy
        · cases h'
      | _ => simp [hu] at hp
def FitV (P : Program) (R : RO) (k : Nat) (t : TypeId) (v : Value) : Prop :=
  match P.underlying t with
  | some (.struct _) | some (.array _ _) => ∃ cs, v = .agg cs∧FitC P R k t cs.toList
  | _ => FitC P R k t [v]
def FitAll (P : Program) (R : RO) (k : Nat) : List TypeId → List Value → Prop
  | [], vs => vs = []
  | t::ts, vs => ∃ v ws, vs = v::ws∧FitV P R k t v∧FitAll P R k ts ws
theorem fitV_of {H : Type} {enc : TypeId×Value → H} {P : Program} {w : World} {base : Nat} {k : Nat} {t : TypeId} {v : Value} {d : DataW H} {ps : List MemPlace} {spare : Nat → Bool} {held : Bool}
    (hp : plainT P k t = true) (hok : Value.okWide P w .any base t v) (h : DataW.Trod enc P w 0 spare held t v d ps) : FitV P (memRO w) k t v := by
  obtain ⟨fuel, h⟩ := h
  have hf := fit_of_trod k fuel t _ _ hp h
  unfold FitV
  unfold Value.okWide at hok
  cases hu : P.underlying t with
  | none => cases k <;> simp [plainT, hu] at hp
  | some x =>
    have one : (match x with | .struct _ | .array _ _ => False | _ => True) → Cell.okWide P w .any base t v → FitC P (memRO w) k t [v] := by
      intro _ hc
      cases v with
      | agg cs =>
        exfalso
        unfold Cell.okWide at hc
        rw [hu] at hc
        cases x <;> simp [Cell.ok, hu] at hc
      | _ => exact hf
    cases x with
    | struct fs =>
      simp only [hu] at hok ⊢
      obtain ⟨cs, rfl, _⟩ := hok
      exact ⟨cs, rfl, hf⟩
    | array m e =>
      simp only [hu] at hok ⊢
      obtain ⟨cs, rfl, _⟩ := hok
      exact ⟨cs, rfl, hf⟩
    | _ => simp only [hu] at hok ⊢;exact one trivial hok
theorem fitAll_of {H : Type} {enc : TypeId×Value → H} {P : Program} {w : World} {base : Nat} {k : Nat} : ∀ (ts : List TypeId) (vs : List Value) (ds : List (DataW H)) (ps : List MemPlace),
    ts.all (plainT P k) = true → (∀ (j : Nat) t v, ts[j]? = some t → vs[j]? = some v → Value.okWide P w .any base t v) →
    DataW.TrodAll enc P w 0 (fun _ => true) true ts vs ds ps → FitAll P (memRO w) k ts vs
  | [], [], [], ps, _, _, _ => rfl
  | [], [], _::_, ps, _, _, h => by simp [DataW.TrodAll] at h
  | [], _::_, _, ps, _, _, h => by simp [DataW.TrodAll] at h
  | t::ts, [], _, ps, _, _, h => by simp [DataW.TrodAll] at h
  | t::ts, v::vs, [], ps, _, _, h => by simp [DataW.TrodAll] at h
  | t::ts, v::vs, d::ds, ps, hp, hok, h => by
    obtain ⟨p, q, h1, h2, _⟩ := h
    simp only [List.all_cons, Bool.and_eq_true] at hp
    exact ⟨v, vs, rfl, fitV_of hp.1 (hok 0 t v rfl rfl) h1, fitAll_of ts vs ds q hp.2 (fun j t' v' ht hv => hok (j + 1) t' v' (by simpa using ht) (by simpa using hv)) h2⟩
theorem trodAll_back {H : Type} {enc : TypeId×Value → H} {P : Program} (hl : laidOutB P = true) {w w' : World} (hb : RowKit.Below w.heap.size w w') : ∀ {ts : List TypeId} {vs : List Value} {ds : List (DataW H)} {ps : List MemPlace},
    (ts.all fun t => P.readableRec t && decide (t < P.types.size)) = true → DataW.TrodAll enc P w 0 (fun _ => true) true ts vs ds ps →
    DataW.TrodAll enc P w' 0 (fun b => decide (b < w.heap.size)) true ts vs ds ps
  | [], [], [], ps, _, h => h
  | [], [], _::_, ps, _, h => by simp [DataW.TrodAll] at h
  | [], _::_, _, ps, _, h => by simp [DataW.TrodAll] at h
  | t::ts, [], _, ps, _, h => by simp [DataW.TrodAll] at h
  | t::ts, v::vs, [], ps, _, h => by simp [DataW.TrodAll] at h
  | t::ts, v::vs, d::ds, ps, hr, h => by
    obtain ⟨p, q, h1, h2, rfl⟩ := h
    simp only [List.all_cons, Bool.and_eq_true, decide_eq_true_eq] at hr
    have hlt : ∀ x ∈ p, x.block < w.heap.size := by obtain ⟨m, hm⟩ := h1;exact DataW.trod_lt m _ _ _ hm
    exact ⟨p, q, RowKit.Below.trod hl hr.1.1 hr.1.2 h1 hb hlt, trodAll_back hl hb (by simpa using hr.2) h2, rfl⟩
def Lies (P : Program) (R : RO) (e : TypeId) (a : Option Addr) (len : Nat) : Prop :=
  ∀ i, i < len → ∃ b off ecs k, a = some ⟨b, off, none⟩∧R.cells b (off + i * P.cellsOf e) ecs∧ecs.length = P.cellsOf e∧FitC P R k e ecs
mutual
def AllC (P : Program) (R : RO) : Nat → TypeId → (List Value → Prop) → Prop
  | 0, _, _ => False
  | n + 1, t, K => match P.underlying t with
    | some .bool => ∀ b : Bool, K [.bool b]
    | some (.int q) => ∀ i : Int, q.min ≤ i → i ≤ q.max → K [.int q i]
    | some .string => ∀ s : ByteArray, s.size ≤ maxLen → K [.string s]
    | some (.slice e) => ∀ (a : Option Addr) (len cap : Nat), len ≤ cap → cap ≤ maxLen → Lies P R e a len → K [.slice a len cap]
    | some (.struct fs) => AllF P R n fs.toList 0 (P.cellsOf t) [] K
    | some (.array m e) => ∀ cs : List Value, cs.length = P.cellsOf t → (∀ i, i < m → ∃ k, FitC P R k e ((cs.drop (i * P.cellsOf e)).take (P.cellsOf e))) → K cs
    | _ => False
def AllF (P : Program) (R : RO) : Nat → List Field → Nat → Nat → List Value → (List Value → Prop) → Prop
  | 0, _, _, _, _, _ => False
  | _ + 1, [], off, total, acc, K => match Nat.beq off total with
    | true => K acc
    | false => False
  | n + 1, f::fs, off, total, acc, K => match Nat.beq f.offset off with
    | true => AllC P R n f.type fun cs => AllF P R n fs (off + P.cellsOf f.type) total (acc ++ cs) K
    | false => False
end
theorem allC_sound {P : Program} {R : RO} : ∀ (n : Nat),
    (∀ (m : Nat) (t : TypeId) (K : List Value → Prop) (cs : List Value), AllC P R n t K → FitC P R m t cs → K cs) ∧
    (∀ (m : Nat) (fs : List Field) (off total : Nat) (acc cs : List Value) (K : List Value → Prop), AllF P R n fs off total acc K → acc = cs.take off → cs.length = total →
      (∀ f ∈ fs, FitC P R m f.type ((cs.drop f.offset).take (P.cellsOf f.type))) → K cs) := by
  intro n
  induction n with
  | zero => exact ⟨fun m t K cs h => by simp [AllC] at h, fun m fs off total acc cs K h => by simp [AllF] at h⟩
  | succ n ih =>
    constructor
    · intro m t K cs h hf
      cases m with
      | zero => exact hf.elim
      | succ m =>
        unfold FitC at hf
        unfold AllC at h
        cases hu : P.underlying t with
        | none => simp [hu] at hf
        | some d =>
          cases d with
          | bool => simp only [hu] at h hf;obtain ⟨b, rfl⟩ := hf;exact h b
          | int q => simp only [hu] at h hf;obtain ⟨i, rfl, h1, h2⟩ := hf;exact h i h1 h2
          | string => simp only [hu] at h hf;obtain ⟨s, rfl, h1⟩ := hf;exact h s h1
          | slice e =>
            simp only [hu] at h hf
            obtain ⟨a, len, cap, rfl, h1, h2, h3⟩ := hf
            refine h a len cap h1 h2 fun i hi => ?_
            obtain ⟨b, off, ecs, q1, q2, q3, q4⟩ := h3 i hi
            exact ⟨b, off, ecs, m, q1, q2, q3, q4⟩
          | struct fs =>
            simp only [hu] at h hf
            exact ih.2 m fs.toList 0 (P.cellsOf t) [] cs K h (by simp) hf.1 hf.2
          | array l e =>
            simp only [hu] at h hf
            exact h cs hf.1 fun i hi => ⟨m, hf.2 i hi⟩
          | _ => simp [hu] at hf
    · intro m fs off total acc cs K h hacc hlen hf
      cases fs with
      | nil =>
        simp only [AllF] at h
        split at h
        · rename_i hb
          have := Nat.eq_of_beq_eq_true hb
          rw [hacc, List.take_of_length_le (by omega)] at h
          exact h
        · exact h.elim
      | cons f fs =>
        simp only [AllF] at h
        split at h
        · rename_i hb
          have he := Nat.eq_of_beq_eq_true hb
          have h1 := ih.1 m f.type _ _ h (hf f (List.mem_cons_self ..))
          refine ih.2 m fs _ total _ cs K h1 ?_ hlen (fun f' hf' => hf f' (List.mem_cons_of_mem _ hf'))
          rw [hacc, he, List.take_add]
        · exact h.elim
def AllV (P : Program) (R : RO) (n : Nat) (t : TypeId) (K : Value → Prop) : Prop :=
  match P.underlying t with
  | some (.struct _) | some (.array _ _) => AllC P R n t fun cs => K (.agg cs.toArray)
  | _ => AllC P R n t fun cs => match cs with
    | [v] => K v
    | _ => False
def AllA (P : Program) (R : RO) (n : Nat) : List TypeId → List Value → (List Value → Prop) → Prop
  | [], acc, K => K acc
  | t::ts, acc, K => AllV P R n t fun v => AllA P R n ts (acc ++ [v]) K
theorem allV_sound {P : Program} {R : RO} {n k : Nat} {t : TypeId} {K : Value → Prop} {v : Value} (h : AllV P R n t K) (hf : FitV P R k t v) : K v := by
  unfold AllV at h
  unfold FitV at hf
  cases hu : P.underlying t with
  | none => cases n <;> simp [hu, AllC] at h
  | some d =>
    cases d with
    | struct fs =>
      simp only [hu] at h hf
      obtain ⟨cs, rfl, hf⟩ := hf
      simpa using (allC_sound n).1 k t _ _ h hf
    | array m e =>
      simp only [hu] at h hf
      obtain ⟨cs, rfl, hf⟩ := hf
      simpa using (allC_sound n).1 k t _ _ h hf
    | _ => simp only [hu] at h hf;exact (allC_sound n).1 k t _ _ h hf
theorem allA_sound {P : Program} {R : RO} {n k : Nat} : ∀ {ts : List TypeId} {vs acc : List Value} {K : List Value → Prop}, AllA P R n ts acc K → FitAll P R k ts vs → K (acc ++ vs)
  | [], vs, acc, K, h, hf => by cases (show vs = [] from hf);simpa [AllA] using h
  | t::ts, vs, acc, K, h, hf => by
    obtain ⟨v, ws, rfl, h1, h2⟩ := hf
    have := allA_sound (allV_sound h h1) h2
    simpa using this
theorem fitAll_args {P : Program} {R : RO} {n k : Nat} {ts : List TypeId} {vs : List Value} {K : List Value → Prop} {E : Prop} (he : AllA P R n ts [] K = E) (h : E) (hf : FitAll P R k ts vs) : K vs := by
  have := allA_sound (he ▸ h : AllA P R n ts [] K) hf
  simpa using this
theorem Lies.fn {P : Program} {R : RO} {e : TypeId} {a : Option Addr} {len : Nat} {α : Type} [Inhabited α] (h : Lies P R e a len) (m : Nat) (f : α → List Value) (q : α → Prop) {E : Prop} {z : Nat}
    (hz : P.cellsOf e = z) (he : AllC P R m e (fun cs => ∃ x : α, cs = f x∧q x) = E) (hE : E) :
    ∃ (B O : Nat) (xs : Nat → α), ∀ i, i < len → a = some ⟨B, O, none⟩∧R.cells B (O + i * z) (f (xs i))∧q (xs i) := by
  subst hz
  rw [← he] at hE
  have key : ∀ i, i < len → ∃ (b off : Nat) (x : α), a = some ⟨b, off, none⟩∧R.cells b (off + i * P.cellsOf e) (f x)∧q x := by
    intro i hi
    obtain ⟨b, off, ecs, k, h1, h2, h3, h4⟩ := h i hi
    obtain ⟨x, rfl, hq⟩ := (allC_sound m).1 k e _ ecs hE h4
    exact ⟨b, off, x, h1, h2, hq⟩
  cases a with
  | none =>
    refine ⟨0, 0, fun _ => default, fun i hi => ?_⟩
    obtain ⟨b, off, x, h1, _⟩ := key i hi
    cases h1
  | some ad =>
    have key2 : ∀ i, i < len → ∃ x : α, some ad = some ⟨ad.block, ad.off, none⟩∧R.cells ad.block (ad.off + i * P.cellsOf e) (f x)∧q x := by
      intro i hi
      obtain ⟨b, off, x, h1, h2, h3⟩ := key i hi
      cases h1
      exact ⟨x, rfl, h2, h3⟩
    refine ⟨ad.block, ad.off, fun i => if hi : i < len then (key2 i hi).choose else default, fun i hi => ?_⟩
    have hs := (key2 i hi).choose_spec
    simp only [dif_pos hi]
    exact hs
theorem len1 {α : Type} {l : List α} (h : l.length = 1) : ∃ a, l = [a] := by
  rcases l with _ | ⟨a, l⟩ <;> simp at h
  exact ⟨a, by rw [h]⟩
theorem len2 {α : Type} {l : List α} (h : l.length = 2) : ∃ a b, l = [a, b] := by
  rcases l with _ | ⟨a, l⟩ <;> simp at h
  obtain ⟨b, rfl⟩ := len1 h;exact ⟨a, b, rfl⟩
end Vc
set_option linter.unusedVariables false
set_option linter.unusedSimpArgs false
namespace Vc.B
open Go Vc Go.Proofs.YtehbmooelcjfoaaDoor
theorem one_le {H : Type} (d : DataW H) : 1 ≤ Rows.uptoBulk d := by
  cases d with
  | lit l => cases l <;> simp [Rows.uptoBulk]
  | _ => simp [Rows.uptoBulk]
theorem part_le {H : Type} {d : DataW H} {l : List (DataW H)} (h : d ∈ l) : Rows.uptoBulk d ≤ Rows.uptoBulkAll l := by
  induction l with
  | nil => cases h
  | cons x r ih =>
    simp only [Rows.uptoBulkAll]
    rcases List.mem_cons.1 h with rfl | e
    · omega
    · have := ih e;omega
theorem length_le {H : Type} (l : List (DataW H)) : l.length ≤ Rows.uptoBulkAll l := by
  induction l with
  | nil => simp [Rows.uptoBulkAll]
  | cons x r ih => have := one_le x;simp only [Rows.uptoBulkAll, List.length_cons];omega
def FitC (N : Nat) (P : Program) (R : RO) : Nat → TypeId → List Value → Prop
  | 0, _, _ => False
  | n + 1, t, cs => match P.underlying t with
    | some .bool => ∃ b, cs = [.bool b]
    | some (.int k) => ∃ i, cs = [.int k i]∧k.min ≤ i∧i ≤ k.max
    | some .string => ∃ s, cs = [.string s]∧s.size ≤ N
    | some (.slice e) => ∃ a len cap, cs = [.slice a len cap]∧len ≤ cap∧cap ≤ N ∧
        ∀ i, i < len → ∃ b off ecs, a = some ⟨b, off, none⟩∧R.cells b (off + i * P.cellsOf e) ecs∧ecs.length = P.cellsOf e∧FitC N P R n e ecs
    | some (.struct fs) => cs.length = P.cellsOf t∧∀ f ∈ fs.toList, FitC N P R n f.type ((cs.drop f.offset).take (P.cellsOf f.type))
    | some (.array m e) => cs.length = P.cellsOf t∧∀ i, i < m → FitC N P R n e ((cs.drop (i * P.cellsOf e)).take (P.cellsOf e))
    | _ => False
theorem fit_of_trod {N : Nat} {H : Type} {enc : TypeId×Value → H} {P : Program} {w : World} {held : Bool} : ∀ (k fuel : Nat) (t : TypeId) (cs : List Value) (x : DataW H×List MemPlace),
    plainT P k t = true → DataW.trod enc P w 0 (fun _ => true) held fuel t cs = some x → Rows.uptoBulk x.1 ≤ N → FitC N P (memRO w) k t cs
  | 0, fuel, t, cs, x, hp, h, hN => by simp [plainT] at hp
  | k + 1, 0, t, cs, x, hp, h, hN => by simp [DataW.trod] at h
  | k + 1, fuel + 1, t, cs, x, hp, h, hN => by
    unfold plainT at hp
    unfold FitC
    cases hu : P.underlying t with
    | none => simp [hu] at hp
    | some d =>
      cases d with
      | bool =>
        rcases cs with _ | ⟨v, _ | ⟨u, l⟩⟩ <;> simp [DataW.trod, hu] at h
        cases v <;> simp [hu] at h
        exact ⟨_, rfl⟩
      | int q =>
        rcases cs with _ | ⟨v, _ | ⟨u, l⟩⟩ <;> simp [DataW.trod, hu] at h
        cases v <;> simp [hu] at h
        obtain ⟨⟨rfl, h1⟩, _⟩ := h
        simp [Lit.wf] at h1
        exact ⟨_, rfl, h1.1, h1.2⟩
      | string =>
        rcases cs with _ | ⟨v, _ | ⟨u, l⟩⟩ <;> simp [DataW.trod, hu] at h
        cases v <;> simp [hu] at h
        obtain ⟨h1, rfl⟩ := h
        refine ⟨_, rfl, ?_⟩
        simp only [Rows.uptoBulk] at hN
        rename_i sx
        have : sx.data.toList.length = sx.size := Array.length_toList
        omega
      | slice e =>
        simp only [hu, Bool.and_eq_true] at hp
        have hz : 0 < P.cellsOf e := by simpa using hp.1
        rcases cs with _ | ⟨v, _ | ⟨u, l⟩⟩ <;> simp [DataW.trod, hu] at h
        cases v with
        | slice a len cap =>
          cases a with
          | none =>
            cases len <;> cases cap <;> simp at h
            exact ⟨none, 0, 0, rfl, Nat.le_refl _, Nat.zero_le _, fun i hi => by omega⟩
          | some a =>
            simp only at h
            split at h
            · rename_i hc
              cases hm : (List.range len).mapM (fun i => (w.cells? 0 (a.add (i * P.cellsOf e)) (P.cellsOf e)).bind (DataW.trod enc P w 0 (fun _ => true) held fuel e)) with
              | none => rw [hm] at h;simp at h
              | some ys =>
                rw [hm] at h
                simp only [Option.bind_some, if_true] at h
                obtain ⟨rest, hr, rfl⟩ := Option.map_eq_some_iff.1 h
                have hl1 := (mapM_length hm).1
                have hl2 := (mapM_length hr).1
                have hb1 := length_le (ys.map (·.1))
                have hb2 := length_le (rest.map (·.1))
                simp only [Rows.uptoBulk] at hN
                simp only [List.length_range, List.length_map] at hl1 hl2 hb1 hb2
                refine ⟨some a, len, cap, rfl, hc.1, by omega, fun i hi => ?_⟩
                have h0 : a.spot = none := by
                  obtain ⟨y, hy⟩ := mapM_get hm 0 (by simp;omega)
                  rw [Nat.zero_mul, add_zero] at hy
                  cases hq : w.cells? 0 a (P.cellsOf e) with
                  | none => rw [hq] at hy;cases hy
                  | some ecs => exact (cells_of hz hq).1
                have ha : a = ⟨a.block, a.off, none⟩ := by
                  cases a;simp at h0;subst h0;rfl
                obtain ⟨y, hy⟩ := mapM_get hm i (by simpa using hi)
                have hym : y ∈ ys := by
                  have h7 : i < ys.length := by omega
                  have := (mapM_length hm).2 i i ys[i] (by simp [hi]) (by simp [h7])
                  rw [hy] at this;cases this;exact List.getElem_mem ..
                have hyb := part_le (List.mem_map.2 ⟨y, hym, rfl⟩ : y.1 ∈ ys.map (·.1))
                cases hq : w.cells? 0 (a.add (i * P.cellsOf e)) (P.cellsOf e) with
                | none => rw [hq] at hy;cases hy
                | some ecs =>
                  rw [hq] at hy
                  obtain ⟨_, q2, q3⟩ := cells_of hz hq
                  rw [ha, add_eq] at q3
                  exact ⟨a.block, a.off, ecs, congrArg some ha, q3, q2, fit_of_trod k fuel e ecs y hp.2 hy (by omega)⟩
            · cases h
        | _ => simp at h
      | struct fs =>
        simp only [hu, List.all_eq_true] at hp
        have h' : (if cs.length = P.cellsOf t then (fs.toList.mapM fun f => DataW.trod enc P w 0 (fun _ => true) held fuel f.type ((cs.drop f.offset).take (P.cellsOf f.type))).map fun xs => (DataW.agg (xs.map (·.1)), xs.flatMap (·.2)) else none) = some x := by
          rw [← h]
          conv => rhs;unfold DataW.trod
          simp only [hu]
        split at h'
        · rename_i hl
          cases hm : fs.toList.mapM (fun f => DataW.trod enc P w 0 (fun _ => true) held fuel f.type ((cs.drop f.offset).take (P.cellsOf f.type))) with
          | none => simp [hm] at h'
          | some ys =>
            refine ⟨hl, fun f hf => ?_⟩
            obtain ⟨q, hq, rfl⟩ := List.mem_iff_getElem.1 hf
            have h7 : q < ys.length := by rw [(mapM_length hm).1];exact hq
            have hy := (mapM_length hm).2 q _ ys[q] (List.getElem?_eq_getElem hq) (by simp [h7])
            rw [hm] at h'
            simp only [Option.map_some, Option.some.injEq] at h'
            subst h'
            simp only [Rows.uptoBulk] at hN
            have hyb := part_le (List.mem_map.2 ⟨ys[q], List.getElem_mem .., rfl⟩ : ys[q].1 ∈ ys.map (·.1))
            exact fit_of_trod k fuel _ _ ys[q] (hp _ (List.getElem_mem ..)) hy (by omega)
        · cases h'
      | array m e =>
        simp only [hu] at hp
        have h' : (if cs.length = P.cellsOf t then ((List.range m).mapM fun i => DataW.trod enc P w 0 (fun _ => true) held fuel e ((cs.drop (i * P.cellsOf e)).take (P.cellsOf e))).map fun xs => (DataW.agg (xs.map (·.1)), xs.flatMap (·.2)) else none) = some x := by
          rw [← h]
          conv => rhs;unfold DataW.trod
          simp only [hu]
        split at h'
        · rename_i hl
          cases hm : (List.range m).mapM (fun i => DataW.trod enc P w 0 (fun _ => true) held fuel e ((cs.drop (i * P.cellsOf e)).take (P.cellsOf e))) with
          | none => simp [hm] at h'
          | some ys =>
            refine ⟨hl, fun i hi => ?_⟩
            have h7 : i < ys.length := by rw [(mapM_length hm).1];simpa using hi
            have hy := (mapM_length hm).2 i i ys[i] (by simp [hi]) (by simp [h7])
            rw [hm] at h'
            simp only [Option.map_some, Option.some.injEq] at h'
            subst h'
            simp only [Rows.uptoBulk] at hN
            have hyb := part_le (List.mem_map.2 ⟨ys[i], List.getElem_mem .., rfl⟩ : ys[i].1 ∈ ys.map (·.1))
            exact fit_of_trod k fuel e _ ys[i] hp hy (by omega)
        · cases h'
      | _ => simp [hu] at hp
def FitV (N : Nat) (P : Program) (R : RO) (k : Nat) (t : TypeId) (v : Value) : Prop :=
  match P.underlying t with
  | some (.struct _) | some (.array _ _) => ∃ cs, v = .agg cs∧FitC N P R k t cs.toList
  | _ => FitC N P R k t [v]
def FitAll (N : Nat) (P : Program) (R : RO) (k : Nat) : List TypeId → List Value → Prop
  | [], vs => vs = []
  | t::ts, vs => ∃ v ws, vs = v::ws∧FitV N P R k t v∧FitAll N P R k ts ws
theorem fitV_of {N : Nat} {H : Type} {enc : TypeId×Value → H} {P : Program} {w : World} {base : Nat} {k : Nat} {t : TypeId} {v : Value} {d : DataW H} {ps : List MemPlace} {held : Bool}
    (hp : plainT P k t = true) (hok : Value.okWide P w .any base t v) (h : DataW.Trod enc P w 0 (fun _ => true) held t v d ps) (hN : Rows.uptoBulk d ≤ N) : FitV N P (memRO w) k t v := by
  obtain ⟨fuel, h⟩ := h
  have hf := fit_of_trod k fuel t _ _ hp h hN
  unfold FitV
  unfold Value.okWide at hok
  cases hu : P.underlying t with
  | none => cases k <;> simp [plainT, hu] at hp
  | some x =>
    have one : (match x with | .struct _ | .array _ _ => False | _ => True) → Cell.okWide P w .any base t v → FitC N P (memRO w) k t [v] := by
      intro _ hc
      cases v with
      | agg cs =>
        exfalso
        unfold Cell.okWide at hc
        rw [hu] at hc
        cases x <;> simp [Cell.ok, hu] at hc
      | _ => exact hf
    cases x with
    | struct fs =>
      simp only [hu] at hok ⊢
      obtain ⟨cs, rfl, _⟩ := hok
      exact ⟨cs, rfl, hf⟩
    | array m e =>
      simp only [hu] at hok ⊢
      obtain ⟨cs, rfl, _⟩ := hok
      exact ⟨cs, rfl, hf⟩
    | _ => simp only [hu] at hok ⊢;exact one trivial hok
theorem fitAll_of {N : Nat} {H : Type} {enc : TypeId×Value → H} {P : Program} {w : World} {base : Nat} {k : Nat} : ∀ (ts : List TypeId) (vs : List Value) (ds : List (DataW H)) (ps : List MemPlace),
    ts.all (plainT P k) = true → (∀ (j : Nat) t v, ts[j]? = some t → vs[j]? = some v → Value.okWide P w .any base t v) →
    DataW.TrodAll enc P w 0 (fun _ => true) true ts vs ds ps → Rows.uptoBulkAll ds ≤ N → FitAll N P (memRO w) k ts vs
  | [], [], [], ps, _, _, _, _ => rfl
  | [], [], _::_, ps, _, _, h, _ => by simp [DataW.TrodAll] at h
  | [], _::_, _, ps, _, _, h, _ => by simp [DataW.TrodAll] at h
  | t::ts, [], _, ps, _, _, h, _ => by simp [DataW.TrodAll] at h
  | t::ts, v::vs, [], ps, _, _, h, _ => by simp [DataW.TrodAll] at h
  | t::ts, v::vs, d::ds, ps, hp, hok, h, hN => by
    obtain ⟨p, q, h1, h2, _⟩ := h
    simp only [Rows.uptoBulkAll] at hN
    simp only [List.all_cons, Bool.and_eq_true] at hp
    exact ⟨v, vs, rfl, fitV_of hp.1 (hok 0 t v rfl rfl) h1 (by omega), fitAll_of ts vs ds q hp.2 (fun j t' v' ht hv => hok (j + 1) t' v' (by simpa using ht) (by simpa using hv)) h2 (by omega)⟩
def Lies (N : Nat) (P : Program) (R : RO) (e : TypeId) (a : Option Addr) (len : Nat) : Prop :=
  ∀ i, i < len → ∃ b off ecs k, a = some ⟨b, off, none⟩∧R.cells b (off + i * P.cellsOf e) ecs∧ecs.length = P.cellsOf e∧FitC N P R k e ecs
mutual
def AllC (N : Nat) (P : Program) (R : RO) : Nat → TypeId → (List Value → Prop) → Prop
  | 0, _, _ => False
  | n + 1, t, K => match P.underlying t with
    | some .bool => ∀ b : Bool, K [.bool b]
    | some (.int q) => ∀ i : Int, q.min ≤ i → i ≤ q.max → K [.int q i]
    | some .string => ∀ s : ByteArray, s.size ≤ N → K [.string s]
    | some (.slice e) => ∀ (a : Option Addr) (len cap : Nat), len ≤ cap → cap ≤ N → Lies N P R e a len → K [.slice a len cap]
    | some (.struct fs) => AllF N P R n fs.toList 0 (P.cellsOf t) [] K
    | some (.array m e) => ∀ cs : List Value, cs.length = P.cellsOf t → (∀ i, i < m → ∃ k, FitC N P R k e ((cs.drop (i * P.cellsOf e)).take (P.cellsOf e))) → K cs
    | _ => False
def AllF (N : Nat) (P : Program) (R : RO) : Nat → List Field → Nat → Nat → List Value → (List Value → Prop) → Prop
  | 0, _, _, _, _, _ => False
  | _ + 1, [], off, total, acc, K => match Nat.beq off total with
    | true => K acc
    | false => False
  | n + 1, f::fs, off, total, acc, K => match Nat.beq f.offset off with
    | true => AllC N P R n f.type fun cs => AllF N P R n fs (off + P.cellsOf f.type) total (acc ++ cs) K
    | false => False
end
theorem allC_sound {N : Nat} {P : Program} {R : RO} : ∀ (n : Nat),
    (∀ (m : Nat) (t : TypeId) (K : List Value → Prop) (cs : List Value), AllC N P R n t K → FitC N P R m t cs → K cs) ∧
    (∀ (m : Nat) (fs : List Field) (off total : Nat) (acc cs : List Value) (K : List Value → Prop), AllF N P R n fs off total acc K → acc = cs.take off → cs.length = total →
      (∀ f ∈ fs, FitC N P R m f.type ((cs.drop f.offset).take (P.cellsOf f.type))) → K cs) := by
  intro n
  induction n with
  | zero => exact ⟨fun m t K cs h => by simp [AllC] at h, fun m fs off total acc cs K h => by simp [AllF] at h⟩
  | succ n ih =>
    constructor
    · intro m t K cs h hf
      cases m with
      | zero => exact hf.elim
      | succ m =>
        unfold FitC at hf
        unfold AllC at h
        cases hu : P.underlying t with
        | none => simp [hu] at hf
        | some d =>
          cases d with
          | bool => simp only [hu] at h hf;obtain ⟨b, rfl⟩ := hf;exact h b
          | int q => simp only [hu] at h hf;obtain ⟨i, rfl, h1, h2⟩ := hf;exact h i h1 h2
          | string => simp only [hu] at h hf;obtain ⟨s, rfl, h1⟩ := hf;exact h s h1
          | slice e =>
            simp only [hu] at h hf
            obtain ⟨a, len, cap, rfl, h1, h2, h3⟩ := hf
            refine h a len cap h1 h2 fun i hi => ?_
            obtain ⟨b, off, ecs, q1, q2, q3, q4⟩ := h3 i hi
            exact ⟨b, off, ecs, m, q1, q2, q3, q4⟩
          | struct fs =>
            simp only [hu] at h hf
            exact ih.2 m fs.toList 0 (P.cellsOf t) [] cs K h (by simp) hf.1 hf.2
          | array l e =>
            simp only [hu] at h hf
            exact h cs hf.1 fun i hi => ⟨m, hf.2 i hi⟩
          | _ => simp [hu] at hf
    · intro m fs off total acc cs K h hacc hlen hf
      cases fs with
      | nil =>
        simp only [AllF] at h
        split at h
        · rename_i hb
          have := Nat.eq_of_beq_eq_true hb
          rw [hacc, List.take_of_length_le (by omega)] at h
          exact h
        · exact h.elim
      | cons f fs =>
        simp only [AllF] at h
        split at h
        · rename_i hb
          have he := Nat.eq_of_beq_eq_true hb
          have h1 := ih.1 m f.type _ _ h (hf f (List.mem_cons_self ..))
          refine ih.2 m fs _ total _ cs K h1 ?_ hlen (fun f' hf' => hf f' (List.mem_cons_of_mem _ hf'))
          rw [hacc, he, List.take_add]
        · exact h.elim
def AllV (N : Nat) (P : Program) (R : RO) (n : Nat) (t : TypeId) (K : Value → Prop) : Prop :=
  match P.underlying t with
  | some (.struct _) | some (.array _ _) => AllC N P R n t fun cs => K (.agg cs.toArray)
  | _ => AllC N P R n t fun cs => match cs with
    | [v] => K v
    | _ => False
def AllA (N : Nat) (P : Program) (R : RO) (n : Nat) : List TypeId → List Value → (List Value → Prop) → Prop
  | [], acc, K => K acc
  | t::ts, acc, K => AllV N P R n t fun v => AllA N P R n ts (acc ++ [v]) K
theorem allV_sound {N : Nat} {P : Program} {R : RO} {n k : Nat} {t : TypeId} {K : Value → Prop} {v : Value} (h : AllV N P R n t K) (hf : FitV N P R k t v) : K v := by
  unfold AllV at h
  unfold FitV at hf
  cases hu : P.underlying t with
  | none => cases n <;> simp [hu, AllC] at h
  | some d =>
    cases d with
    | struct fs =>
      simp only [hu] at h hf
      obtain ⟨cs, rfl, hf⟩ := hf
      simpa using (allC_sound n).1 k t _ _ h hf
    | array m e =>
      simp only [hu] at h hf
      obtain ⟨cs, rfl, hf⟩ := hf
      simpa using (allC_sound n).1 k t _ _ h hf
    | _ => simp only [hu] at h hf;exact (allC_sound n).1 k t _ _ h hf
theorem allA_sound {N : Nat} {P : Program} {R : RO} {n k : Nat} : ∀ {ts : List TypeId} {vs acc : List Value} {K : List Value → Prop}, AllA N P R n ts acc K → FitAll N P R k ts vs → K (acc ++ vs)
  | [], vs, acc, K, h, hf => by cases (show vs = [] from hf);simpa [AllA] using h
  | t::ts, vs, acc, K, h, hf => by
    obtain ⟨v, ws, rfl, h1, h2⟩ := hf
    have := allA_sound (allV_sound h h1) h2
    simpa using this
theorem fitAll_args {N : Nat} {P : Program} {R : RO} {n k : Nat} {ts : List TypeId} {vs : List Value} {K : List Value → Prop} {E : Prop} (he : AllA N P R n ts [] K = E) (h : E) (hf : FitAll N P R k ts vs) : K vs := by
  have := allA_sound (he ▸ h : AllA N P R n ts [] K) hf
  simpa using this
theorem Lies.fn {N : Nat} {P : Program} {R : RO} {e : TypeId} {a : Option Addr} {len : Nat} {α : Type} [Inhabited α] (h : Lies N P R e a len) (m : Nat) (f : α → List Value) (q : α → Prop) {E : Prop} {z : Nat}
    (hz : P.cellsOf e = z) (he : AllC N P R m e (fun cs => ∃ x : α, cs = f x∧q x) = E) (hE : E) :
    ∃ (B O : Nat) (xs : Nat → α), ∀ i, i < len → a = some ⟨B, O, none⟩∧R.cells B (O + i * z) (f (xs i))∧q (xs i) := by
  subst hz
  rw [← he] at hE
  have key : ∀ i, i < len → ∃ (b off : Nat) (x : α), a = some ⟨b, off, none⟩∧R.cells b (off + i * P.cellsOf e) (f x)∧q x := by
    intro i hi
    obtain ⟨b, off, ecs, k, h1, h2, h3, h4⟩ := h i hi
    obtain ⟨x, rfl, hq⟩ := (allC_sound m).1 k e _ ecs hE h4
    exact ⟨b, off, x, h1, h2, hq⟩
  cases a with
  | none =>
    refine ⟨0, 0, fun _ => default, fun i hi => ?_⟩
    obtain ⟨b, off, x, h1, _⟩ := key i hi
    cases h1
  | some ad =>
    have key2 : ∀ i, i < len → ∃ x : α, some ad = some ⟨ad.block, ad.off, none⟩∧R.cells ad.block (ad.off + i * P.cellsOf e) (f x)∧q x := by
      intro i hi
      obtain ⟨b, off, x, h1, h2, h3⟩ := key i hi
      cases h1
      exact ⟨x, rfl, h2, h3⟩
    refine ⟨ad.block, ad.off, fun i => if hi : i < len then (key2 i hi).choose else default, fun i hi => ?_⟩
    have hs := (key2 i hi).choose_spec
    simp only [dif_pos hi]
    exact hs
theorem row_contract {C : Checked} {f : FuncId} {fn : Func} {s : ChangeSpec} {H : Type} {enc : TypeId×Value → H} {tb : TypeId} {N : Nat} (k : Nat)
    (hl : laidOutB C.prog = true) (hpl : fn.params.toList.all (plainT C.prog k) = true) (hrd : (fn.params.toList.all fun t => C.prog.readableRec t && decide (t < C.prog.types.size)) = true)
    (hvars : s.vars = []) (hres : fn.resultTypes = #[tb]) (hb : C.prog.underlying tb = some .bool) (hspec : ∀ ds : List (DataW H), ds.length = fn.params.size → s.fn H ds = ({ results := [.lit (.bool true)], args := ds } : Left H))
    {W : World} {base : Nat} {args : Array Value} {ds gs : List (DataW H)} {before : List MemPlace}
    (hval : ∀ (j : Nat) t v, fn.params[j]? = some t → args[j]? = some v → Value.okWide C.prog W .any base t v)
    (hW : DataW.Whole enc C.prog fn.params.toList s.vars false W args.toList ds gs before) (hN : Rows.uptoBulkAll (ds ++ gs) ≤ N)
    (hdoes : FitAll N C.prog (memRO W) k fn.params.toList args.toList → Gives C.prog f args.toList (memRO W) [] (.ret (.bool true)) []) :
    Calls C.prog f args W fun e W' => ∃ v, e = .returned v∧s.post enc C.prog fn false true false false W args v W' := by
  have hW' := hW
  obtain ⟨p, q, hA, hV, rfl, hfz, hnd⟩ := hW
  have hgs : gs = []∧q = [] := by
    rw [hvars] at hV
    cases gs with
    | nil => exact ⟨rfl, hV⟩
    | cons _ _ => simp [DataW.TrodVars] at hV
  obtain ⟨rfl, rfl⟩ := hgs
  rw [List.append_nil] at hN
  have hfit := fitAll_of (N := N) fn.params.toList args.toList ds p hpl (fun j t v ht hv => hval j t v (by simpa using ht) (by simpa using hv)) hA hN
  have hd := hdoes hfit (memRO W) W (RO.le_refl _) (sat_memRO W)
  have hlen : ds.length = fn.params.size := by
    have key : ∀ (ts : List TypeId) (vs : List Value) (ds : List (DataW H)) (ps : List MemPlace), DataW.TrodAll enc C.prog W 0 (fun _ => true) true ts vs ds ps → ds.length = ts.length := by
      intro ts
      induction ts with
      | nil => intro vs ds ps h;cases vs <;> cases ds <;> simp [DataW.TrodAll] at h <;> rfl
      | cons t ts ih =>
        intro vs ds ps h
        cases vs <;> cases ds <;> simp only [DataW.TrodAll] at h
        obtain ⟨p, q, _, h2, _⟩ := h
        simp [ih _ _ _ h2]
    simpa using key _ _ _ _ hA
  refine hd.mono fun e W' ⟨o, G, H', Rx', he, ⟨hG, ho, hH⟩, hx, hs'⟩ => ?_
  subst ho
  have bel := below_of hx.lex hs'
  refine ⟨_, he, ds, [], p, [], p, [], by simpa using hW', ?_, ?_, ?_, ?_, fun h => by cases h⟩
  · rw [List.append_nil, hspec ds hlen, hres]
    exact ChangeShapes.trodAll_mk1 (RowKit.shut_bool hb _)
  · rw [List.append_nil, hspec ds hlen]
    exact trodAll_back hl bel hrd hA
  · rw [List.append_nil, hspec ds hlen, hvars]
    rfl
  · exact bel.frame _
end Vc.B
namespace Go.Proofs.YtehbmooelcjfoaaDoor
open Vc Go
set_option linter.unusedVariables false
set_option linter.unusedSimpArgs false
structure ND where
  k : Int
  i : Int
  s : ByteArray
  ba : Option Addr
  bn : Nat
  bc : Nat
  BB : Nat
  BO : Nat
  bk : Nat → Int
  pa : Option Addr
  pm : Nat
  pc : Nat
  PB : Nat
  PO : Nat
  pw : Nat → PW
namespace ND
def row (x : ND) : List Value := [vi x.k, vu x.i, .string x.s, .slice x.ba x.bn x.bc, .slice x.pa x.pm x.pc]
structure Ok (R : RO) (x : ND) : Prop where
  k0 : IntKind.i64.min ≤ x.k
  k1 : x.k ≤ IntKind.i64.max
  i0 : 0 ≤ x.i
  i1 : x.i ≤ 4294967295
  sl : x.s.size ≤ 1048576
  bl : x.bn ≤ x.bc∧x.bc ≤ 1048576
  pl : x.pm ≤ x.pc∧x.pc ≤ 1048576
  bb : ∀ j, j < x.bn → x.ba = some ⟨x.BB, x.BO, none⟩∧R.cells x.BB (x.BO + j * 1) [.int .u8 (x.bk j)]∧0 ≤ x.bk j∧x.bk j ≤ 255
  pp : ∀ j, j < x.pm → x.pa = some ⟨x.PB, x.PO, none⟩∧R.cells x.PB (x.PO + j * 2) [vu (x.pw j).1, vi (x.pw j).2]∧(0 ≤ (x.pw j).1∧(x.pw j).1 ≤ 4294967295)∧IntKind.i64.min ≤ (x.pw j).2∧(x.pw j).2 ≤ IntKind.i64.max
theorem Ok.mono {R S : RO} (h : R.le S) {x : ND} (o : x.Ok R) : x.Ok S :=
  ⟨o.k0, o.k1, o.i0, o.i1, o.sl, o.bl, o.pl, fun j hj => ⟨(o.bb j hj).1, RO.cells_mono h (o.bb j hj).2.1, (o.bb j hj).2.2⟩, fun j hj => ⟨(o.pp j hj).1, RO.cells_mono h (o.pp j hj).2.1, (o.pp j hj).2.2⟩⟩
instance : Inhabited ND := ⟨⟨0, 0, .empty, none, 0, 0, 0, 0, fun _ => 0, none, 0, 0, 0, 0, fun _ => (0, 0)⟩⟩
end ND
theorem nodes_of {R : RO} {lv : Option Addr} {ln : Nat} (h : Vc.B.Lies 1048576 Tryd.prog R 56 lv ln) : ∃ (B O : Nat) (nd : Nat → ND), ∀ j, j < ln → lv = some ⟨B, O, none⟩∧R.cells B (O + j * 5) (nd j).row∧(nd j).Ok R :=
  Vc.B.Lies.fn h 40 ND.row (ND.Ok R) (z := 5) (by kernel_rfl)
    (E := ∀ (k : Int), IntKind.i64.min ≤ k → k ≤ IntKind.i64.max → ∀ (i : Int), IntKind.u32.min ≤ i → i ≤ IntKind.u32.max → ∀ (s : ByteArray), s.size ≤ 1048576 →
      ∀ (ba : Option Addr) (bn bc : Nat), bn ≤ bc → bc ≤ 1048576 → Vc.B.Lies 1048576 Tryd.prog R 5 ba bn → ∀ (pa : Option Addr) (pm pc : Nat), pm ≤ pc → pc ≤ 1048576 → Vc.B.Lies 1048576 Tryd.prog R 58 pa pm →
      ∃ x : ND, [Value.int .i64 k, vu i, .string s, .slice ba bn bc, .slice pa pm pc] = x.row∧x.Ok R) (by kernel_rfl)
    (fun k k0 k1 i i0 i1 s hs ba bn bc h1 h2 L1 pa pm pc h3 h4 L2 => by
      obtain ⟨BB, BO, bk, hb⟩ := Vc.B.Lies.fn L1 10 (fun x : Int => [.int .u8 x]) (fun x => 0 ≤ x∧x ≤ 255) (z := 1) (by kernel_rfl)
        (E := ∀ i : Int, IntKind.u8.min ≤ i → i ≤ IntKind.u8.max → ∃ x : Int, [Value.int .u8 i] = [.int .u8 x]∧0 ≤ x∧x ≤ 255) (by kernel_rfl) (fun i h1 h2 => ⟨i, rfl, h1, h2⟩)
      obtain ⟨PB, PO, pw, hp⟩ := Vc.B.Lies.fn L2 10 (fun x : PW => [vu x.1, vi x.2]) (fun x => (0 ≤ x.1∧x.1 ≤ 4294967295)∧IntKind.i64.min ≤ x.2∧x.2 ≤ IntKind.i64.max) (z := 2) (by kernel_rfl)
        (E := ∀ i : Int, IntKind.u32.min ≤ i → i ≤ IntKind.u32.max → ∀ n : Int, IntKind.i64.min ≤ n → n ≤ IntKind.i64.max → ∃ x : PW, [Value.int .u32 i, vi n] = [vu x.1, vi x.2]∧(0 ≤ x.1∧x.1 ≤ 4294967295)∧IntKind.i64.min ≤ x.2∧x.2 ≤ IntKind.i64.max) (by kernel_rfl)
        (fun i h1 h2 n h3 h4 => ⟨(i, n), rfl, ⟨h1, h2⟩, h3, h4⟩)
      exact ⟨⟨k, i, s, ba, bn, bc, BB, BO, bk, pa, pm, pc, PB, PO, pw⟩, rfl, k0, k1, i0, i1, hs, ⟨h1, h2⟩, ⟨h3, h4⟩, hb, hp⟩)
end Go.Proofs.YtehbmooelcjfoaaDoor
namespace Go.Proofs.YtehbmooelcjfoaaDoor
open Vc Go
set_option linter.unusedVariables false
set_option linter.unusedSimpArgs false
end Go.Proofs.YtehbmooelcjfoaaDoor
