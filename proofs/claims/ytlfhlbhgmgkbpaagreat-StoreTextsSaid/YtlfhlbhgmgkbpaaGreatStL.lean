import Derived.Lib.Bytealg
import Derived.Test.YtlfhlbhgmgkbpaaGreatStK
namespace Go.Proofs.YtlfhlbhgmgkbpaaGreat
open Vc Go
set_option linter.unusedVariables false
set_option linter.unusedSimpArgs false

def cmpB (a b : ByteArray) : Int := Go.Extern.BytealgCompare.cmp a b
theorem cmp_l : ∀ x y : List UInt8, decide (Go.Lib.compareBytes x y < 0) = Go.Op.bytesLess x y
  | [], [] => rfl
  | [], _ :: _ => rfl
  | _ :: _, [] => rfl
  | a :: x, b :: y => by
    have ih := cmp_l x y
    unfold Go.Lib.compareBytes Go.Op.bytesLess
    by_cases h1 : a < b
    · simp [h1]
    · by_cases h2 : b < a
      · have h3 : ¬ a = b := fun he => by subst he; exact absurd h2 (by simp)
        simp [h1, h2, h3]
      · have h3 : a = b := by
          have e1 : ¬ a.toNat < b.toNat := h1
          have e2 : ¬ b.toNat < a.toNat := h2
          exact UInt8.toNat_inj.1 (by omega)
        subst h3
        simp [ih]
theorem cmp_less (a b : ByteArray) : decide (cmpB a b < 0) = Go.Op.bytesLess a.toList b.toList := by
  unfold cmpB
  rw [Go.Lib.cmp_eq, cmp_l, ByteArray.toList_eq, ByteArray.toList_eq]
def SortedP (l : List Chg) : Prop := ∀ k : Nat, k + 1 < l.length → Go.Op.bytesLess (chs l (k + 1)).key.toList (chs l k).key.toList = false

set_option maxRecDepth 100000 in
set_option maxHeartbeats 4000000 in
theorem cmpS_ok (x y : ByteArray) (R : RO)  : Gives Tryz.prog 49 [.string x, .string y] R [] (.ret (.int .i64 (cmpB x y))) [] :=
  Does.of_wp_eq (VC := (GQ R (.ret (.int .i64 (cmpB x y))) [] (.ret (.int .i64 (Go.Extern.BytealgCompare.cmp x y))) R [])) (ops [.d, .d, .d, .d, .d] (.fin [] [])) Tryz.func49 (by kernel_rfl) (by kernel_rfl)
    (⟨rfl, (by rfl), (by rfl)⟩)

set_option maxRecDepth 100000 in
set_option maxHeartbeats 4000000 in
theorem compare_ok (x y : ByteArray) (R : RO)  : Gives Tryz.prog 29 [.string x, .string y] R [] (.ret (.int .i64 (cmpB x y))) [] :=
  Does.of_wp_eq (VC := ((Gives Tryz.prog 49 [.string x, .string y] R [] (.ret (.int .i64 (cmpB x y))) []) ∧ GQ R (.ret (.int .i64 (cmpB x y))) [] (.ret (.int .i64 (cmpB x y))) R [])) (ops [.d, .d, .d, .call0 [] [] (fun e v => .ret (.int .i64 (cmpB x y))) (fun e v => []), .d] (.fin [] [])) Tryz.func29 (by kernel_rfl) (by kernel_rfl)
    (⟨(cmpS_ok x y R), ⟨rfl, (by rfl), (by rfl)⟩⟩)

set_option maxRecDepth 100000 in
set_option maxHeartbeats 4000000 in
theorem cmp2_ok (k0 v0 : ByteArray) (g0 : Bool) (k1 v1 : ByteArray) (g1 : Bool) (R : RO)  : Gives Tryz.prog 28 [.agg #[.string k0, .string v0, .bool g0], .agg #[.string k1, .string v1, .bool g1]] R [] (.ret (.int .i64 (cmpB k0 k1))) [] :=
  Does.of_wp_eq (VC := (∀ a0 : Nat, ∀ a1 : Nat, (a0 = a0) ∧ (a1 = a1) ∧ (Gives Tryz.prog 29 [.string k0, .string k1] R [] (.ret (.int .i64 (cmpB k0 k1))) []) ∧ GQ R (.ret (.int .i64 (cmpB k0 k1))) [] (.ret (.int .i64 (cmpB k0 k1))) R [])) (.opn 0 (fun a0 => (.opn 1 (fun a1 => (ops [.d, .d, .p 0, .d, .p 1, .call0 [] [] (fun e v => .ret (.int .i64 (cmpB k0 k1))) (fun e v => []), .d] (.fin [] [])))))) Tryz.func28 (by kernel_rfl) (by kernel_rfl)
    (fun a0 => fun a1 => ⟨rfl, ⟨rfl, ⟨(compare_ok k0 k1 R), ⟨rfl, (by rfl), (by rfl)⟩⟩⟩⟩)

theorem srt_step {l : List Chg} {i : Int} (h : ∀ k : Nat, i ≤ (k : Int) → k + 1 < l.length → Go.Op.bytesLess (chs l (k + 1)).key.toList (chs l k).key.toList = false) (h0 : i > 0)
    (hc : decide (cmpB (chs l (Int.toNat i)).key (chs l (Int.toNat (i - 1))).key < 0) = false) : ∀ k : Nat, i - 1 ≤ (k : Int) → k + 1 < l.length → Go.Op.bytesLess (chs l (k + 1)).key.toList (chs l k).key.toList = false := fun k hk hk2 => by
  by_cases he : i ≤ (k : Int)
  · exact h k he hk2
  · rw [cmp_less] at hc
    rw [show Int.toNat i = k + 1 by omega, show Int.toNat (i - 1) = k by omega] at hc
    exact hc
theorem srt_no {l : List Chg} {i : Int} (h0 : i > 0) (h1 : i < (l.length : Int)) (hc : decide (cmpB (chs l (Int.toNat i)).key (chs l (Int.toNat (i - 1))).key < 0) = true) : ¬ SortedP l := fun h => by
  rw [cmp_less] at hc
  have h2 := h (Int.toNat (i - 1)) (by omega)
  rw [show Int.toNat (i - 1) + 1 = Int.toNat i by omega, hc] at h2
  cases h2

noncomputable def sorted_some_L2_inv (A0 cap : Nat) (l : List Chg)  : Int × (Nat → Value) → St := fun zx => ⟨[.slice (some ⟨A0, 0, none⟩) l.length cap, .func (.func 28) #[] #[], undef, undef, (zx.2 4), .int .i64 zx.1, .slice (some ⟨A0, 0, none⟩) l.length cap, .int .i64 ((l.length : Nat) : Int), .int .i64 (((l.length : Nat) : Int) - 1), (zx.2 9), (zx.2 10), (zx.2 11), (zx.2 12), (zx.2 13), (zx.2 14), (zx.2 15), (zx.2 16), (zx.2 17), (zx.2 18), (zx.2 19), (zx.2 20), (zx.2 21), (zx.2 22), (zx.2 23), (zx.2 24)], [], [some (A0, .row (rowOf l) 27 (cap * 3))]⟩
def sorted_some_L2_I (A0 cap : Nat) (l : List Chg)  (R : RO) : Int × (Nat → Value) → RO → Prop := fun zx G => G = R ∧ (-1 ≤ zx.1 ∧ zx.1 < (l.length : Int) ∧ (∀ k : Nat, zx.1 ≤ (k : Int) → k + 1 < l.length → Go.Op.bytesLess (chs l (k + 1)).key.toList (chs l k).key.toList = false))
def sorted_some_L2_mu (A0 cap : Nat) (l : List Chg)  : Int × (Nat → Value) → Nat := fun zx => Int.toNat (zx.1 + 1)
noncomputable def sorted_some_L2_K (A0 cap : Nat) (l : List Chg)  (R : RO) : Exit' → St → RO → Prop := altPost R (.alt (Int × (Nat → Value)) (fun zx => SortedP l) (fun zx => (.exit 0, ((sorted_some_L2_inv A0 cap l zx).up [] [some (A0, .row (rowOf l) 27 (cap * 3))]))) (fun _ => .altn) (.alt (Int × (Nat → Value)) (fun zx => ¬ SortedP l) (fun zx => (.ret, ((sorted_some_L2_inv A0 cap l zx).up [(4, .bool false)] [some (A0, .row (rowOf l) 27 (cap * 3))]))) (fun _ => .altn) .altn))
set_option maxRecDepth 100000 in
set_option maxHeartbeats 4000000 in
theorem sorted_some_L2_body (A0 cap : Nat) (l : List Chg)  (R : RO) (hn : l.length ≤ 100000) (i : Int) (u0 : Nat → Value) (hI : -1 ≤ i ∧ i < (l.length : Int) ∧ (∀ k : Nat, i ≤ (k : Int) → k + 1 < l.length → Go.Op.bytesLess (chs l (k + 1)).key.toList (chs l k).key.toList = false)) : CT Tryz.prog (sub (bodyOf Tryz.f27) [1, 0, 1, 0, 0]) (sorted_some_L2_inv A0 cap l (i, u0)) R (LK (sorted_some_L2_inv A0 cap l) (sorted_some_L2_I A0 cap l R) (sorted_some_L2_mu A0 cap l) (sorted_some_L2_K A0 cap l R) (i, u0)) :=
  CT.of_wp_eq (VC := (let z6 := (IntKind.i64 = IntKind.i64 ∧ IntKind.i64.wrap (i - 1) = i - 1); let z5 : Hp := [some (A0, .row (rowOf l) 27 (cap * 3))]; let z4 := ((l.length : Nat) : Int); let z1 : Array Value := #[.string ((chs l (Int.toNat i)).key), .string ((chs l (Int.toNat i)).val), .bool ((chs l (Int.toNat i)).gone)]; let z0 := (chs l (Int.toNat (i - 1))); let z3 : Array Value := #[.string (z0.key), .string (z0.val), .bool (z0.gone)]; let z2 := (cmpB ((chs l (Int.toNat i)).key) (z0.key)); ((decide (i > 0)) = true → ((0 : Int) ≤ i ∧ (i : Int) < z4) ∧ (A0 = A0 ∧ readVar Tryz.prog 27 (rowOf l) (0 + Int.toNat i * 3) = some (.agg z1)) ∧ z6 ∧ ((0 : Int) ≤ (i - 1) ∧ ((i - 1) : Int) < z4) ∧ (A0 = A0 ∧ readVar Tryz.prog 27 (rowOf l) (0 + Int.toNat (i - 1) * 3) = some (.agg z3)) ∧ (Gives Tryz.prog 28 [.agg z1, .agg z3] R [] (.ret (.int .i64 z2)) []) ∧ ((decide (z2 < 0)) = true → LK (sorted_some_L2_inv A0 cap l) (sorted_some_L2_I A0 cap l R) (sorted_some_L2_mu A0 cap l) (sorted_some_L2_K A0 cap l R) (i, u0) (.ret) ⟨[.slice (some ⟨A0, 0, none⟩) l.length cap, .func (.func 28) #[] #[], undef, undef, .bool false, .int .i64 i, .slice (some ⟨A0, 0, none⟩) l.length cap, .int .i64 z4, .int .i64 (z4 - 1), .int .i64 i, .bool true, (u0 11), (u0 12), .func (.func 28) #[] #[], .slice (some ⟨A0, 0, none⟩) l.length cap, .int .i64 i, .pointer (some ⟨A0, 0 + Int.toNat i * 3, none⟩), .agg z1, .slice (some ⟨A0, 0, none⟩) l.length cap, .int .i64 i, .int .i64 (i - 1), .pointer (some ⟨A0, 0 + Int.toNat (i - 1) * 3, none⟩), .agg z3, .int .i64 z2, .bool true], [], z5⟩ R) ∧ ((decide (z2 < 0)) = false → z6 ∧ LK (sorted_some_L2_inv A0 cap l) (sorted_some_L2_I A0 cap l R) (sorted_some_L2_mu A0 cap l) (sorted_some_L2_K A0 cap l R) (i, u0) .normal ⟨[.slice (some ⟨A0, 0, none⟩) l.length cap, .func (.func 28) #[] #[], undef, undef, (u0 4), .int .i64 (i - 1), .slice (some ⟨A0, 0, none⟩) l.length cap, .int .i64 z4, .int .i64 (z4 - 1), .int .i64 i, .bool true, .int .i64 i, .int .i64 (i - 1), .func (.func 28) #[] #[], .slice (some ⟨A0, 0, none⟩) l.length cap, .int .i64 i, .pointer (some ⟨A0, 0 + Int.toNat i * 3, none⟩), .agg z1, .slice (some ⟨A0, 0, none⟩) l.length cap, .int .i64 i, .int .i64 (i - 1), .pointer (some ⟨A0, 0 + Int.toNat (i - 1) * 3, none⟩), .agg z3, .int .i64 z2, .bool false], [], z5⟩ R)) ∧ ((decide (i > 0)) = false → LK (sorted_some_L2_inv A0 cap l) (sorted_some_L2_I A0 cap l R) (sorted_some_L2_mu A0 cap l) (sorted_some_L2_K A0 cap l R) (i, u0) (.exit 0) ((sorted_some_L2_inv A0 cap l (i, u0)).up [(9, .int .i64 i), (10, .bool false)] z5) R))) (ops [.d, .d] (.sp 10 (.dr [some (.d), some (.d), some (.d), some (.ia), some (.q 0 (fun e v => .agg #[.string ((chs l (Int.toNat i)).key), .string ((chs l (Int.toNat i)).val), .bool ((chs l (Int.toNat i)).gone)])), some (.d), some (.d), some (.nw), some (.ia), some (.q 0 (fun e v => .agg #[.string ((chs l (Int.toNat (i - 1))).key), .string ((chs l (Int.toNat (i - 1))).val), .bool ((chs l (Int.toNat (i - 1))).gone)])), some (.call0 [] [] (fun e v => .ret (.int .i64 (cmpB ((chs l (Int.toNat i)).key) ((chs l (Int.toNat (i - 1))).key)))) (fun e v => [])), some (.d)] (.sp 24 (ops [.d] (.fin [] [])) (ops [.d, .nw, .d] (.fin [] [])))) (.fin [] []))) (by kernel_rfl)
    (⟨fun h51 => ⟨(by have := hI.2.1; have := (of_decide_eq_true h51); omega), ⟨⟨rfl, (read_ch (by kernel_rfl) (by have := And.intro hI.2.1 (of_decide_eq_true h51); omega) (by omega))⟩, ⟨⟨rfl, (wrapI (by have := (of_decide_eq_true h51); omega) (by have := hI.2.1; omega))⟩, ⟨(by have := hI.2.1; have := (of_decide_eq_true h51); omega), ⟨⟨rfl, (read_ch (by kernel_rfl) (by have := And.intro hI.2.1 (of_decide_eq_true h51); omega) (by omega))⟩, ⟨(cmp2_ok ((chs l (Int.toNat i)).key) ((chs l (Int.toNat i)).val) ((chs l (Int.toNat i)).gone) ((chs l (Int.toNat (i - 1))).key) ((chs l (Int.toNat (i - 1))).val) ((chs l (Int.toNat (i - 1))).gone) R), ⟨fun h52 => Or.inr (altA (fun zw => (i, zw)) ⟨(show ¬ SortedP l from (srt_no (of_decide_eq_true h51) (by have := hI.2.1; omega) h52)), (by show _ = _; kernel_rfl), ⟨(by show _ = _; kernel_rfl), (by show _ = _; kernel_rfl), (by show _ = _; kernel_rfl)⟩⟩), fun h52 => ⟨⟨rfl, (wrapI (by have := (of_decide_eq_true h51); omega) (by have := hI.2.1; omega))⟩, LKn (fun zw => (i - 1, zw)) ⟨⟨rfl, (show -1 ≤ (i - 1) ∧ (i - 1) < (l.length : Int) ∧ (∀ k : Nat, (i - 1) ≤ (k : Int) → k + 1 < l.length → Go.Op.bytesLess (chs l (k + 1)).key.toList (chs l k).key.toList = false) from ⟨(by have := (of_decide_eq_true h51); omega), (by have := hI.2.1; omega), srt_step hI.2.2 (of_decide_eq_true h51) h52⟩)⟩, (show Int.toNat ((i - 1) + 1) < Int.toNat (i + 1) from (by have := (of_decide_eq_true h51); omega)), ⟨rfl, rfl, rfl⟩⟩⟩⟩⟩⟩⟩⟩⟩⟩, fun h51 => altA (fun zw => (i, zw)) ⟨(show SortedP l from (fun k hk => hI.2.2 k (by have := of_decide_eq_false h51; omega) hk)), (by show _ = _; kernel_rfl), ⟨(by show _ = _; kernel_rfl), (by show _ = _; kernel_rfl), (by show _ = _; kernel_rfl)⟩⟩⟩)
theorem sorted_some_L2_ct (A0 cap : Nat) (l : List Chg)  (R : RO) (hn : l.length ≤ 100000)  : CT Tryz.prog (sub (bodyOf Tryz.f27) [1, 0, 1, 0]) ⟨[.slice (some ⟨A0, 0, none⟩) l.length cap, .func (.func 28) #[] #[], undef, undef, .bool false, .int .i64 (((l.length : Nat) : Int) - 1), .slice (some ⟨A0, 0, none⟩) l.length cap, .int .i64 ((l.length : Nat) : Int), .int .i64 (((l.length : Nat) : Int) - 1), undef, undef, undef, undef, undef, undef, undef, undef, undef, undef, undef, undef, undef, undef, undef, undef], [], [some (A0, .row (rowOf l) 27 (cap * 3))]⟩ R (sorted_some_L2_K A0 cap l R) :=
  CT.loop_eqs (sorted_some_L2_inv A0 cap l) (sorted_some_L2_I A0 cap l R) (sorted_some_L2_mu A0 cap l) (fun zw => (((l.length : Nat) : Int) - 1, zw)) (by kernel_rfl) (by kernel_rfl) ⟨rfl, (show -1 ≤ (((l.length : Nat) : Int) - 1) ∧ (((l.length : Nat) : Int) - 1) < (l.length : Int) ∧ (∀ k : Nat, (((l.length : Nat) : Int) - 1) ≤ (k : Int) → k + 1 < l.length → Go.Op.bytesLess (chs l (k + 1)).key.toList (chs l k).key.toList = false) from ⟨by omega, by omega, fun k h1 h2 => by omega⟩)⟩
    (by
      rintro ⟨i, u0⟩ G hG ⟨rfl, hI⟩
      exact sorted_some_L2_body A0 cap l _ hn i u0 hI)
set_option maxRecDepth 100000 in
set_option maxHeartbeats 4000000 in
theorem sorted_some (A0 cap : Nat) (l : List Chg) (R : RO) (hn : l.length ≤ 100000) : GivesX Tryz.prog 27 [.slice (some ⟨A0, 0, none⟩) l.length cap, .func (.func 28) #[] #[]] R [some (A0, .row (rowOf l) 27 (cap * 3))] ({b : Bool // b = true ↔ SortedP l}) (fun w => (.bool w.1, [some (A0, .row (rowOf l) 27 (cap * 3))])) :=
  Does.of_wp_eq (VC := (let z1 := ((l.length : Nat) : Int); let z0 : Hp := [some (A0, .row (rowOf l) 27 (cap * 3))]; (IntKind.i64 = IntKind.i64 ∧ IntKind.i64.wrap (z1 - 1) = z1 - 1) ∧ (CT Tryz.prog (sub (bodyOf Tryz.f27) [1, 0, 1, 0]) ⟨[.slice (some ⟨A0, 0, none⟩) l.length cap, .func (.func 28) #[] #[], undef, undef, .bool false, .int .i64 (z1 - 1), .slice (some ⟨A0, 0, none⟩) l.length cap, .int .i64 z1, .int .i64 (z1 - 1), undef, undef, undef, undef, undef, undef, undef, undef, undef, undef, undef, undef, undef, undef, undef, undef], [], z0⟩ R (sorted_some_L2_K A0 cap l R)) ∧ (∀ x1 : Int × (Nat → Value), (SortedP l) → GX R ({b : Bool // b = true ↔ SortedP l}) (fun w => (.bool w.1, z0)) (.ret (.bool true)) R z0) ∧ ((∀ x2 : Int × (Nat → Value), (¬ SortedP l) → GX R ({b : Bool // b = true ↔ SortedP l}) (fun w => (.bool w.1, z0)) (.ret (.bool false)) R z0) ∧ True))) (ops [.d, .d, .d, .nw, .d] (.alt (Int × (Nat → Value)) (fun zx => SortedP l) (fun zx => (.exit 0, ((sorted_some_L2_inv A0 cap l zx).up [] [some (A0, .row (rowOf l) 27 (cap * 3))]))) (fun x1 => (ops [.d] (.fin [0] []))) (.alt (Int × (Nat → Value)) (fun zx => ¬ SortedP l) (fun zx => (.ret, ((sorted_some_L2_inv A0 cap l zx).up [(4, .bool false)] [some (A0, .row (rowOf l) 27 (cap * 3))]))) (fun x2 => (.fin [0] [])) .altn))) Tryz.func27 (by kernel_rfl) (by kernel_rfl)
    (⟨⟨rfl, (wrapI (by omega) (by omega))⟩, ⟨sorted_some_L2_ct A0 cap l R hn, ⟨fun x1 qx1 => ⟨rfl, ⟨true, ⟨fun _ => qx1, fun _ => rfl⟩⟩, (by rfl), (by rfl)⟩, ⟨fun x2 qx2 => ⟨rfl, ⟨false, ⟨fun h => (by cases h), fun h => (qx2 h).elim⟩⟩, (by rfl), (by rfl)⟩, trivial⟩⟩⟩⟩)

end Go.Proofs.YtlfhlbhgmgkbpaaGreat
