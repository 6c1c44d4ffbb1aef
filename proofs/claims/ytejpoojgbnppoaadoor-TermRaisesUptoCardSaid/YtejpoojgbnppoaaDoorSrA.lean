import Derived.Sort.AssemblyPlain
import Derived.Test.YtejpoojgbnppoaaDoorVcW
import Derived.Test.YtejpoojgbnppoaaDoorVcQ
import Derived.Test.YtejpoojgbnppoaaDoorVcN
import Derived.Test.YtejpoojgbnppoaaDoorProg
namespace Go.Proofs.YtejpoojgbnppoaaDoor
open Vc Go
set_option linter.unusedVariables false
set_option linter.unusedSimpArgs false

def u32l (d : Array Int) : List Value := d.toList.map (Value.int .u32)
theorem u32l_len (d : Array Int) : (u32l d).length = d.size := by simp [u32l]
theorem swp_size (d : Array Int) (i j : Nat) : (Sort.swp d i j).size = d.size := by simp [Sort.swp]
theorem u32l_get {d : Array Int} {i : Nat} (h : i < d.size) : (u32l d)[i]? = some (.int .u32 d[i]!) := by
  simp [u32l, h]
theorem rd_u {P : Program} {t : Nat} (ht : tinfo P t = some (false, 1)) {d : Array Int} {T : List Value} {i off : Nat} (hi : i < d.size) (ho : off = i) : readVar P t (u32l d ++ T) off = some (.int .u32 d[i]!) := by
  subst ho
  rw [readVar_one ht, List.getElem?_append_left (by rw [u32l_len]; exact hi), u32l_get hi]
theorem wr_u {P : Program} {t : Nat} (ht : pureV P (Go.sizeOf t) = some 1) {d : Array Int} {T : List Value} {i off : Nat} {v : Int} (hi : i < d.size) (ho : off = i) :
    writeVar P t (u32l d ++ T) off (.int .u32 v) = some (u32l (d.setIfInBounds i v) ++ T) := by
  subst ho
  refine writeVar_of ht (by simp [Value.cells]) (by rfl) (by rw [List.length_append, u32l_len]; omega) (by simp [u32l_len]) (fun j hj => ?_) (fun j hj => ?_)
  · have : j = 0 := by omega
    subst this
    have h1 : off + 0 < (u32l (d.setIfInBounds off v)).length := by rw [u32l_len, Array.size_setIfInBounds]; omega
    rw [List.getElem?_append_left h1, u32l_get (by rw [Array.size_setIfInBounds]; omega)]
    simp [Value.cells, hi]
  · have hne : off ≠ j := by omega
    by_cases hl : j < d.size
    · have h1 : j < (u32l (d.setIfInBounds off v)).length := by rw [u32l_len, Array.size_setIfInBounds]; omega
      have h2 : j < (u32l d).length := by rw [u32l_len]; omega
      rw [List.getElem?_append_left h1, List.getElem?_append_left h2, u32l_get (d := d) hl, u32l_get (d := d.setIfInBounds off v) (by rw [Array.size_setIfInBounds]; exact hl)]
      have : (d.setIfInBounds off v)[j]! = d[j]! := by rw [getElem!_def, getElem!_def, Array.getElem?_setIfInBounds_ne hne]
      rw [this]
    · have h1 : (u32l (d.setIfInBounds off v)).length ≤ j := by rw [u32l_len, Array.size_setIfInBounds]; omega
      have h2 : (u32l d).length ≤ j := by rw [u32l_len]; omega
      rw [List.getElem?_append_right h1, List.getElem?_append_right h2, u32l_len, u32l_len, Array.size_setIfInBounds]
abbrev RDu (A : Nat) (d : Array Int) (T : List Value) (i : Int) : Prop := A = A ∧ readVar Tryd.prog 23 (u32l d ++ T) (0 + Int.toNat i * 1) = some (.int .u32 d[Int.toNat i]!)
theorem rdu {A : Nat} {d : Array Int} {T : List Value} {i : Int} (h : Int.toNat i < d.size) : RDu A d T i := ⟨rfl, rd_u (by kernel_rfl) h (by omega)⟩
abbrev WRu (A : Nat) (d : Array Int) (T : List Value) (i v : Int) : Prop := A = A ∧ writeVar Tryd.prog 23 (u32l d ++ T) (0 + Int.toNat i * 1) (.int .u32 v) = some (u32l (d.setIfInBounds (Int.toNat i) v) ++ T)
theorem wru {A : Nat} {d : Array Int} {T : List Value} {i v : Int} (h : Int.toNat i < d.size) : WRu A d T i v := ⟨rfl, wr_u (by kernel_rfl) h (by omega)⟩
abbrev WRs (A : Nat) (d : Array Int) (T : List Value) (i j : Int) : Prop := A = A ∧ writeVar Tryd.prog 23 (u32l (d.setIfInBounds (Int.toNat i) d[Int.toNat j]!) ++ T) (0 + Int.toNat j * 1) (.int .u32 d[Int.toNat i]!) = some (u32l (Sort.swp d (Int.toNat i) (Int.toNat j)) ++ T)
theorem wrs {A : Nat} {d : Array Int} {T : List Value} {i j : Int} (h : Int.toNat j < d.size) : WRs A d T i j := ⟨rfl, wr_u (by kernel_rfl) (by rw [Array.size_setIfInBounds]; exact h) (by omega)⟩
theorem lt_dec (x y : Int) : Sort.ltInt x y = decide (x < y) := rfl
/-! insertion -/
theorem ins_step {d : Array Int} {a j : Int} (h1 : 0 ≤ a) (h2 : a < j) (h : decide (d[Int.toNat j]! < d[Int.toNat (j - 1)]!) = true) :
    Sort.insInner Sort.ltInt (Int.toNat a) (Int.toNat j) d = Sort.insInner Sort.ltInt (Int.toNat a) (Int.toNat (j - 1)) (Sort.swp d (Int.toNat j) (Int.toNat (j - 1))) := by
  obtain ⟨k, hk⟩ : ∃ k, Int.toNat j = k + 1 := ⟨Int.toNat j - 1, by omega⟩
  have hk' : Int.toNat (j - 1) = k := by omega
  rw [hk, hk'] at h ⊢
  rw [Sort.insInner, if_pos (by simp only [lt_dec, h, Bool.and_true, decide_eq_true_eq]; omega)]
theorem ins_end {d : Array Int} {a j : Int} (h1 : 0 ≤ a) (h2 : a ≤ j) (h : a = j ∨ decide (d[Int.toNat j]! < d[Int.toNat (j - 1)]!) = false) : Sort.insInner Sort.ltInt (Int.toNat a) (Int.toNat j) d = d := by
  cases hj : Int.toNat j with
  | zero => rfl
  | succ k =>
    rw [Sort.insInner, if_neg]
    rcases h with h | h
    · simp only [Bool.and_eq_true, decide_eq_true_eq]; omega
    · have hk' : Int.toNat (j - 1) = k := by omega
      rw [hj, hk'] at h
      simp only [lt_dec, h, Bool.and_false, Bool.false_eq_true, not_false_eq_true]
theorem insI_size (a : Nat) : ∀ (j : Nat) (d : Array Int), (Sort.insInner Sort.ltInt a j d).size = d.size
  | 0, d => rfl
  | j + 1, d => by
    rw [Sort.insInner]
    split
    · rw [insI_size a j, swp_size]
    · rfl
theorem insO_step {d : Array Int} {a b i : Int} (h1 : 0 ≤ a) (h2 : a < i) (h3 : i < b) : Sort.insOuter Sort.ltInt (Int.toNat a) (Int.toNat b) (Int.toNat i) d = Sort.insOuter Sort.ltInt (Int.toNat a) (Int.toNat b) (Int.toNat (i + 1)) (Sort.insInner Sort.ltInt (Int.toNat a) (Int.toNat i) d) := by
  rw [Sort.insOuter, if_pos (by omega), show Int.toNat i + 1 = Int.toNat (i + 1) by omega]
theorem insO_end {d : Array Int} {a b i : Int} (h3 : b ≤ i) (h0 : 0 ≤ i) : Sort.insOuter Sort.ltInt (Int.toNat a) (Int.toNat b) (Int.toNat i) d = d := by
  rw [Sort.insOuter, if_neg (by omega)]

set_option maxRecDepth 100000 in
set_option maxHeartbeats 4000000 in
theorem isNaN_ok (x : Int) (R : RO)  : Gives Tryd.prog 52 [.int .u32 x] R [] (.ret (.bool false)) [] :=
  Does.of_wp_eq (VC := (GQ R (.ret (.bool false)) [] (.ret (.bool (x != x))) R [])) (ops [.d, .d, .d, .d, .d] (.fin [] [])) Tryd.func52 (by kernel_rfl) (by kernel_rfl)
    (⟨rfl, (by simp), (by rfl)⟩)

set_option maxRecDepth 100000 in
set_option maxHeartbeats 4000000 in
theorem less_ok (x y : Int) (R : RO)  : Gives Tryd.prog 61 [.int .u32 x, .int .u32 y] R [] (.ret (.bool (decide (x < y)))) [] :=
  Does.of_wp_eq (VC := ((Gives Tryd.prog 52 [.int .u32 x] R [] (.ret (.bool false)) []) ∧ GQ R (.ret (.bool (decide (x < y)))) [] (.ret (.bool (decide (x < y)))) R [])) (ops [.d, .d, .call0 [] [] (fun e v => .ret (.bool false)) (fun e v => []), .d, .d, .d, .d, .d, .d, .d, .d] (.fin [] [])) Tryd.func61 (by kernel_rfl) (by kernel_rfl)
    (⟨(isNaN_ok x R), ⟨rfl, (by rfl), (by rfl)⟩⟩)

noncomputable def ins_ok_L4_inv (A0 n cap N : Nat) (T : List Value) (d : Array Int) (a b : Int) (i : Int) (f : Array Int) (u0 : Nat → Value)  : Int × (Array Int) × (Nat → Value) → St := fun zx => ⟨(.slice (some ⟨A0, 0, none⟩) n cap :: .int .i64 a :: .int .i64 b :: undef :: undef :: undef :: .int .i64 i :: .int .i64 zx.1 :: .int .i64 a :: .int .i64 (a + 1) :: .int .i64 i :: .int .i64 b :: .bool true :: (u0 13) :: (u0 14) :: .int .i64 i :: urun zx.2.2 16 33 []), [], [some (A0, .row (u32l zx.2.1 ++ T) 23 N)]⟩
def ins_ok_L4_I (A0 n cap N : Nat) (T : List Value) (d : Array Int) (a b : Int) (i : Int) (f : Array Int) (u0 : Nat → Value)  (R : RO) : Int × (Array Int) × (Nat → Value) → RO → Prop := fun zx G => G = R ∧ (zx.2.1.size = n ∧ a ≤ zx.1 ∧ zx.1 < b ∧ zx.1 ≤ i ∧ Sort.insInner Sort.ltInt (Int.toNat a) (Int.toNat zx.1) zx.2.1 = Sort.insInner Sort.ltInt (Int.toNat a) (Int.toNat i) f)
def ins_ok_L4_mu (A0 n cap N : Nat) (T : List Value) (d : Array Int) (a b : Int) (i : Int) (f : Array Int) (u0 : Nat → Value)  : Int × (Array Int) × (Nat → Value) → Nat := fun zx => Int.toNat (zx.1 - a)
noncomputable def ins_ok_L4_K (A0 n cap N : Nat) (T : List Value) (d : Array Int) (a b : Int) (i : Int) (f : Array Int) (u0 : Nat → Value)  (R : RO) : Exit' → St → RO → Prop := altPost R (.alt (Int × (Array Int) × (Nat → Value)) (fun zx => zx.2.1 = Sort.insInner Sort.ltInt (Int.toNat a) (Int.toNat i) f) (fun zx => (.exit 2, ((ins_ok_L4_inv A0 n cap N T d a b i f u0 zx).up [] [some (A0, .row (u32l zx.2.1 ++ T) 23 N)]))) (fun _ => .altn) .altn)
set_option maxRecDepth 100000 in
set_option maxHeartbeats 4000000 in
theorem ins_ok_L4_body (A0 n cap N : Nat) (T : List Value) (d : Array Int) (a b : Int) (i : Int) (f : Array Int) (u0 : Nat → Value)  (R : RO) (hn : n ≤ 1152921504606846976) (ha : 0 ≤ a) (hb : b ≤ (n : Int)) (hf : f.size = n) (hai : a < i) (hib : i < b) (j : Int) (E : Array Int) (u52 : Nat → Value) (hI : E.size = n ∧ a ≤ j ∧ j < b ∧ j ≤ i ∧ Sort.insInner Sort.ltInt (Int.toNat a) (Int.toNat j) E = Sort.insInner Sort.ltInt (Int.toNat a) (Int.toNat i) f) : CT Tryd.prog (sub (bodyOf Tryd.f55) [1, 0, 0, 1, 0, 0, 1, 0, 0]) (ins_ok_L4_inv A0 n cap N T d a b i f u0 (j, E, u52)) R (LK (ins_ok_L4_inv A0 n cap N T d a b i f u0) (ins_ok_L4_I A0 n cap N T d a b i f u0 R) (ins_ok_L4_mu A0 n cap N T d a b i f u0) (ins_ok_L4_K A0 n cap N T d a b i f u0 R) (j, E, u52)) :=
  CT.of_wp_eq (VC := (let z7 := (ins_ok_L4_mu A0 n cap N T d a b i f u0); let z6 := (ins_ok_L4_K A0 n cap N T d a b i f u0 R); let z5 := (ins_ok_L4_I A0 n cap N T d a b i f u0 R); let z4 := (ins_ok_L4_inv A0 n cap N T d a b i f u0); let z3 : Option Addr := (some ⟨A0, 0 + Int.toNat j * 1, none⟩); let z2 := (E[Int.toNat (j - 1)]!); let z1 : Option Addr := (some ⟨A0, 0 + Int.toNat (j - 1) * 1, none⟩); let z0 := (decide ((E[Int.toNat j]!) < z2)); ((decide (j > a)) = true → ((decide (j > a)) = true) ∧ (IB j (n : Nat)) ∧ (RDu A0 E T j) ∧ (NW .i64 (j - 1)) ∧ (IB (j - 1) (n : Nat)) ∧ (RDu A0 E T (j - 1)) ∧ (Gives Tryd.prog 61 [.int .u32 (E[Int.toNat j]!), .int .u32 z2] R [] (.ret (.bool z0)) []) ∧ (z0 = true → (NW .i64 (j - 1)) ∧ (NW .i64 (j - 1)) ∧ (IB (j - 1) (n : Nat)) ∧ (RDu A0 E T (j - 1)) ∧ (IB j (n : Nat)) ∧ (RDu A0 E T j) ∧ (IB j (n : Nat)) ∧ (WRu A0 E T j z2) ∧ (IB (j - 1) (n : Nat)) ∧ (WRs A0 E T j (j - 1)) ∧ (NW .i64 (j - 1)) ∧ LK z4 z5 z7 z6 (j, E, u52) .normal ⟨[.slice (some ⟨A0, 0, none⟩) n cap, .int .i64 a, .int .i64 b, undef, undef, undef, .int .i64 i, .int .i64 (j - 1), .int .i64 a, .int .i64 (a + 1), .int .i64 i, .int .i64 b, .bool true, (u0 13), (u0 14), .int .i64 i, .int .i64 j, .int .i64 a, .bool (decide (j > a)), .bool true, .slice (some ⟨A0, 0, none⟩) n cap, .int .i64 j, .pointer z3, .int .u32 (E[Int.toNat j]!), .slice (some ⟨A0, 0, none⟩) n cap, .int .i64 j, .int .i64 (j - 1), .pointer z1, .int .u32 z2, .bool z0, .bool true, .int .i64 j, .int .i64 (j - 1), .slice (some ⟨A0, 0, none⟩) n cap, .int .i64 j, .slice (some ⟨A0, 0, none⟩) n cap, .int .i64 j, .int .i64 (j - 1), .slice (some ⟨A0, 0, none⟩) n cap, .int .i64 j, .int .i64 (j - 1), .pointer z1, .int .u32 z2, .slice (some ⟨A0, 0, none⟩) n cap, .int .i64 j, .pointer z3, .int .u32 (E[Int.toNat j]!), .pointer z3, .pointer z1], [], [some (A0, .row (u32l (Sort.swp E (Int.toNat j) (Int.toNat (j - 1))) ++ T) 23 N)]⟩ R) ∧ (z0 = false → LK z4 z5 z7 z6 (j, E, u52) (.exit 2) ((ins_ok_L4_inv A0 n cap N T d a b i f u0 (j, E, u52)).up [(16, .int .i64 j), (17, .int .i64 a), (18, .bool (decide (j > a))), (19, .bool true), (20, .slice (some ⟨A0, 0, none⟩) n cap), (21, .int .i64 j), (22, .pointer z3), (23, .int .u32 (E[Int.toNat j]!)), (24, .slice (some ⟨A0, 0, none⟩) n cap), (25, .int .i64 j), (26, .int .i64 (j - 1)), (27, .pointer z1), (28, .int .u32 z2), (29, .bool z0), (30, .bool false)] [some (A0, .row (u32l E ++ T) 23 N)]) R)) ∧ ((decide (j > a)) = false → ((decide (j > a)) = false) ∧ LK z4 z5 z7 z6 (j, E, u52) (.exit 2) ((ins_ok_L4_inv A0 n cap N T d a b i f u0 (j, E, u52)).up [(16, .int .i64 j), (17, .int .i64 a), (18, .bool (decide (j > a))), (19, .bool false), (20, undef), (21, undef), (22, undef), (23, undef), (24, undef), (25, undef), (26, undef), (27, undef), (28, undef), (29, undef), (30, .bool false)] [some (A0, .row (u32l E ++ T) 23 N)]) R))) (let y_0 := (E[Int.toNat (j - 1)]!); .cs (decide (j > a)) (.dr [some (.d), some (.d), some (.d), some (.db true), some (.d), some (.d), some (.ia), some (.q 0 (fun e v => .int .u32 (E[Int.toNat j]!))), some (.d), some (.d), some (.nw), some (.ia), some (.q 0 (fun e v => .int .u32 y_0)), some (.call0 [] [] (fun e v => .ret (.bool (decide ((E[Int.toNat j]!) < y_0)))) (fun e v => [])), some (.d)] (.sp 30 (.dr [some (.d), some (.d), some (.d), some (.d), some (.nw), some (.d), some (.d), some (.nw), some (.ia), some (.q 0 (fun e v => .int .u32 y_0)), some (.d), some (.d), some (.ia), some (.q 0 (fun e v => .int .u32 (E[Int.toNat j]!))), some (.ia), some (.sq 0 (fun e v => u32l (E.setIfInBounds (Int.toNat j) y_0) ++ T)), some (.ia), some (.sq 0 (fun e v => u32l (Sort.swp E (Int.toNat j) (Int.toNat (j - 1))) ++ T))] (ops [.d, .nw, .d] (.fin [] []))) (.fin [] []))) (.dr [some (.d), some (.d), some (.d), some (.db false), none, none, none, none, none, none, none, none, none, none, some (.d)] (.fin [] []))) (by kernel_rfl)
    (⟨fun h103 => (have := of_decide_eq_true h103; ⟨h103, ⟨(by omega), ⟨(rdu (by omega)), ⟨(nwI (by omega) (by omega)), ⟨(by omega), ⟨(rdu (by omega)), ⟨(less_ok (E[Int.toNat j]!) (E[Int.toNat (j - 1)]!) R), ⟨fun h104 => ⟨(nwI (by omega) (by omega)), ⟨(nwI (by omega) (by omega)), ⟨(by omega), ⟨(rdu (by omega)), ⟨(by omega), ⟨(rdu (by omega)), ⟨(by omega), ⟨(wru (by omega)), ⟨(by omega), ⟨(wrs (by omega)), (have := swp_size E (Int.toNat j) (Int.toNat (j - 1)); ⟨(nwI (by omega) (by omega)), LKn (fun zw => (j - 1, Sort.swp E (Int.toNat j) (Int.toNat (j - 1)), zw)) ⟨⟨rfl, (show (Sort.swp E (Int.toNat j) (Int.toNat (j - 1))).size = n ∧ a ≤ (j - 1) ∧ (j - 1) < b ∧ (j - 1) ≤ i ∧ Sort.insInner Sort.ltInt (Int.toNat a) (Int.toNat (j - 1)) (Sort.swp E (Int.toNat j) (Int.toNat (j - 1))) = Sort.insInner Sort.ltInt (Int.toNat a) (Int.toNat i) f from ⟨(by omega), (by omega), (by omega), (by omega), (by rw [← hI.2.2.2.2]; exact (ins_step ha (by omega) h104).symm)⟩)⟩, (show Int.toNat ((j - 1) - a) < Int.toNat (j - a) from (by omega)), ⟨rfl, rfl, rfl⟩⟩⟩)⟩⟩⟩⟩⟩⟩⟩⟩⟩⟩, fun h104 => altA (fun zw => (j, E, zw)) ⟨(show E = Sort.insInner Sort.ltInt (Int.toNat a) (Int.toNat i) f from (by rw [← hI.2.2.2.2]; exact (ins_end ha hI.2.1 (.inr h104)).symm)), (by show _ = _; kernel_rfl), ⟨(by show _ = _; kernel_rfl), (by show _ = _; kernel_rfl), (by show _ = _; kernel_rfl)⟩⟩⟩⟩⟩⟩⟩⟩⟩⟩), fun h103 => (have := of_decide_eq_false h103; ⟨h103, altA (fun zw => (j, E, zw)) ⟨(show E = Sort.insInner Sort.ltInt (Int.toNat a) (Int.toNat i) f from (by rw [← hI.2.2.2.2]; exact (ins_end ha hI.2.1 (.inl (by omega))).symm)), (by show _ = _; kernel_rfl), ⟨(by show _ = _; kernel_rfl), (by show _ = _; kernel_rfl), (by show _ = _; kernel_rfl)⟩⟩⟩)⟩)
theorem ins_ok_L4_ct (A0 n cap N : Nat) (T : List Value) (d : Array Int) (a b : Int) (i : Int) (f : Array Int) (u0 : Nat → Value)  (R : RO) (hn : n ≤ 1152921504606846976) (ha : 0 ≤ a) (hb : b ≤ (n : Int)) (hf : f.size = n) (hai : a < i) (hib : i < b)  : CT Tryd.prog (sub (bodyOf Tryd.f55) [1, 0, 0, 1, 0, 0, 1, 0]) ⟨(.slice (some ⟨A0, 0, none⟩) n cap :: .int .i64 a :: .int .i64 b :: undef :: undef :: undef :: .int .i64 i :: .int .i64 i :: .int .i64 a :: .int .i64 (a + 1) :: .int .i64 i :: .int .i64 b :: .bool true :: (u0 13) :: (u0 14) :: .int .i64 i :: urun u0 16 33 []), [], [some (A0, .row (u32l f ++ T) 23 N)]⟩ R (ins_ok_L4_K A0 n cap N T d a b i f u0 R) :=
  CT.loop_eqs (ins_ok_L4_inv A0 n cap N T d a b i f u0) (ins_ok_L4_I A0 n cap N T d a b i f u0 R) (ins_ok_L4_mu A0 n cap N T d a b i f u0) (fun zw => (i, f, zw)) (by kernel_rfl) (by kernel_rfl) ⟨rfl, (show f.size = n ∧ a ≤ i ∧ i < b ∧ i ≤ i ∧ Sort.insInner Sort.ltInt (Int.toNat a) (Int.toNat i) f = Sort.insInner Sort.ltInt (Int.toNat a) (Int.toNat i) f from ⟨by omega, by omega, by omega, by omega, rfl⟩)⟩
    (by
      rintro ⟨j, E, u52⟩ G hG ⟨rfl, hI⟩
      exact ins_ok_L4_body A0 n cap N T d a b i f u0 _ hn ha hb hf hai hib j E u52 hI)
noncomputable def ins_ok_L1_inv (A0 n cap N : Nat) (T : List Value) (d : Array Int) (a b : Int)  : Int × (Array Int) × (Nat → Value) → St := fun zx => ⟨(.slice (some ⟨A0, 0, none⟩) n cap :: .int .i64 a :: .int .i64 b :: undef :: undef :: undef :: .int .i64 zx.1 :: (zx.2.2 7) :: .int .i64 a :: .int .i64 (a + 1) :: urun zx.2.2 10 39 []), [], [some (A0, .row (u32l zx.2.1 ++ T) 23 N)]⟩
def ins_ok_L1_I (A0 n cap N : Nat) (T : List Value) (d : Array Int) (a b : Int)  (R : RO) : Int × (Array Int) × (Nat → Value) → RO → Prop := fun zx G => G = R ∧ (zx.2.1.size = n ∧ a < zx.1 ∧ Sort.insOuter Sort.ltInt (Int.toNat a) (Int.toNat b) (Int.toNat zx.1) zx.2.1 = Sort.insertionSort Sort.ltInt d (Int.toNat a) (Int.toNat b))
def ins_ok_L1_mu (A0 n cap N : Nat) (T : List Value) (d : Array Int) (a b : Int)  : Int × (Array Int) × (Nat → Value) → Nat := fun zx => Int.toNat (b - zx.1)
noncomputable def ins_ok_L1_K (A0 n cap N : Nat) (T : List Value) (d : Array Int) (a b : Int)  (R : RO) : Exit' → St → RO → Prop := altPost R (.alt (Int × (Array Int) × (Nat → Value)) (fun zx => zx.2.1 = Sort.insertionSort Sort.ltInt d (Int.toNat a) (Int.toNat b)) (fun zx => (.exit 0, ((ins_ok_L1_inv A0 n cap N T d a b zx).up [] [some (A0, .row (u32l zx.2.1 ++ T) 23 N)]))) (fun _ => .altn) .altn)
set_option maxRecDepth 100000 in
set_option maxHeartbeats 4000000 in
theorem ins_ok_L1_body (A0 n cap N : Nat) (T : List Value) (d : Array Int) (a b : Int)  (R : RO) (hd : d.size = n) (hn : n ≤ 1152921504606846976) (ha : 0 ≤ a) (han : a ≤ (n : Int)) (hb : b ≤ (n : Int)) (i : Int) (f : Array Int) (u0 : Nat → Value) (hI : f.size = n ∧ a < i ∧ Sort.insOuter Sort.ltInt (Int.toNat a) (Int.toNat b) (Int.toNat i) f = Sort.insertionSort Sort.ltInt d (Int.toNat a) (Int.toNat b)) : CT Tryd.prog (sub (bodyOf Tryd.f55) [1, 0, 0]) (ins_ok_L1_inv A0 n cap N T d a b (i, f, u0)) R (LK (ins_ok_L1_inv A0 n cap N T d a b) (ins_ok_L1_I A0 n cap N T d a b R) (ins_ok_L1_mu A0 n cap N T d a b) (ins_ok_L1_K A0 n cap N T d a b R) (i, f, u0)) :=
  CT.of_wp_eq (VC := (((decide (i < b)) = true → (CT Tryd.prog (sub (bodyOf Tryd.f55) [1, 0, 0, 1, 0, 0, 1, 0]) ⟨(.slice (some ⟨A0, 0, none⟩) n cap :: .int .i64 a :: .int .i64 b :: undef :: undef :: undef :: .int .i64 i :: .int .i64 i :: .int .i64 a :: .int .i64 (a + 1) :: .int .i64 i :: .int .i64 b :: .bool true :: (u0 13) :: (u0 14) :: .int .i64 i :: urun u0 16 33 []), [], [some (A0, .row (u32l f ++ T) 23 N)]⟩ R (ins_ok_L4_K A0 n cap N T d a b i f u0 R)) ∧ (∀ x53 : Int × (Array Int) × (Nat → Value), (x53.2.1 = Sort.insInner Sort.ltInt (Int.toNat a) (Int.toNat i) f) → (NW .i64 (i + 1)) ∧ LK (ins_ok_L1_inv A0 n cap N T d a b) (ins_ok_L1_I A0 n cap N T d a b R) (ins_ok_L1_mu A0 n cap N T d a b) (ins_ok_L1_K A0 n cap N T d a b R) (i, f, u0) .normal ⟨(.slice (some ⟨A0, 0, none⟩) n cap :: .int .i64 a :: .int .i64 b :: undef :: undef :: undef :: .int .i64 (i + 1) :: .int .i64 x53.1 :: .int .i64 a :: .int .i64 (a + 1) :: .int .i64 i :: .int .i64 b :: .bool true :: .int .i64 i :: .int .i64 (i + 1) :: .int .i64 i :: urun x53.2.2 16 33 []), [], [some (A0, .row (u32l x53.2.1 ++ T) 23 N)]⟩ R) ∧ True) ∧ ((decide (i < b)) = false → LK (ins_ok_L1_inv A0 n cap N T d a b) (ins_ok_L1_I A0 n cap N T d a b R) (ins_ok_L1_mu A0 n cap N T d a b) (ins_ok_L1_K A0 n cap N T d a b R) (i, f, u0) (.exit 0) ((ins_ok_L1_inv A0 n cap N T d a b (i, f, u0)).up [(10, .int .i64 i), (11, .int .i64 b), (12, .bool false)] [some (A0, .row (u32l f ++ T) 23 N)]) R))) (ops [.d, .d, .d] (.sp 12 (ops [.d, .d] (.alt (Int × (Array Int) × (Nat → Value)) (fun zx => zx.2.1 = Sort.insInner Sort.ltInt (Int.toNat a) (Int.toNat i) f) (fun zx => (.exit 2, ((ins_ok_L4_inv A0 n cap N T d a b i f u0 zx).up [] [some (A0, .row (u32l zx.2.1 ++ T) 23 N)]))) (fun x53 => (ops [.d, .nw, .d] (.fin [] []))) .altn)) (.fin [] []))) (by kernel_rfl)
    (⟨fun h51 => (have := of_decide_eq_true h51; ⟨ins_ok_L4_ct A0 n cap N T d a b i f u0 R hn ha hb hI.1 (by have := hI.2.1; omega) (by omega), ⟨fun x53 qx53 => ⟨(nwI (by omega) (by omega)), LKn (fun zw => (i + 1, x53.2.1, zw)) ⟨⟨rfl, (show x53.2.1.size = n ∧ a < (i + 1) ∧ Sort.insOuter Sort.ltInt (Int.toNat a) (Int.toNat b) (Int.toNat (i + 1)) x53.2.1 = Sort.insertionSort Sort.ltInt d (Int.toNat a) (Int.toNat b) from ⟨(by rw [qx53, insI_size]; exact hI.1), (by omega), (by rw [qx53, ← hI.2.2]; exact (insO_step ha hI.2.1 (by omega)).symm)⟩)⟩, (show Int.toNat (b - (i + 1)) < Int.toNat (b - i) from (by omega)), ⟨rfl, rfl, rfl⟩⟩⟩, trivial⟩⟩), fun h51 => (have := of_decide_eq_false h51; altA (fun zw => (i, f, zw)) ⟨(show f = Sort.insertionSort Sort.ltInt d (Int.toNat a) (Int.toNat b) from (by rw [← hI.2.2]; exact (insO_end (by omega) (by omega)).symm)), (by show _ = _; kernel_rfl), ⟨(by show _ = _; kernel_rfl), (by show _ = _; kernel_rfl), (by show _ = _; kernel_rfl)⟩⟩)⟩)
theorem ins_ok_L1_ct (A0 n cap N : Nat) (T : List Value) (d : Array Int) (a b : Int)  (R : RO) (hd : d.size = n) (hn : n ≤ 1152921504606846976) (ha : 0 ≤ a) (han : a ≤ (n : Int)) (hb : b ≤ (n : Int))  : CT Tryd.prog (sub (bodyOf Tryd.f55) [1, 0]) ⟨(.slice (some ⟨A0, 0, none⟩) n cap :: .int .i64 a :: .int .i64 b :: undef :: undef :: undef :: .int .i64 (a + 1) :: undef :: .int .i64 a :: .int .i64 (a + 1) :: uns 39 []), [], [some (A0, .row (u32l d ++ T) 23 N)]⟩ R (ins_ok_L1_K A0 n cap N T d a b R) :=
  CT.loop_eqs (ins_ok_L1_inv A0 n cap N T d a b) (ins_ok_L1_I A0 n cap N T d a b R) (ins_ok_L1_mu A0 n cap N T d a b) (fun zw => (a + 1, d, zw)) (by kernel_rfl) (by kernel_rfl) ⟨rfl, (show d.size = n ∧ a < (a + 1) ∧ Sort.insOuter Sort.ltInt (Int.toNat a) (Int.toNat b) (Int.toNat (a + 1)) d = Sort.insertionSort Sort.ltInt d (Int.toNat a) (Int.toNat b) from ⟨hd, by omega, (by unfold Sort.insertionSort; rw [show Int.toNat (a + 1) = Int.toNat a + 1 by omega])⟩)⟩
    (by
      rintro ⟨i, f, u0⟩ G hG ⟨rfl, hI⟩
      exact ins_ok_L1_body A0 n cap N T d a b _ hd hn ha han hb i f u0 hI)
set_option maxRecDepth 100000 in
set_option maxHeartbeats 4000000 in
theorem ins_ok (A0 n cap N : Nat) (T : List Value) (d : Array Int) (a b : Int) (R : RO) (hd : d.size = n) (hn : n ≤ 1152921504606846976) (ha : 0 ≤ a) (han : a ≤ (n : Int)) (hb : b ≤ (n : Int)) : Gives Tryd.prog 55 [.slice (some ⟨A0, 0, none⟩) n cap, .int .i64 a, .int .i64 b] R [some (A0, .row (u32l d ++ T) 23 N)] (.ret (.tuple #[])) [some (A0, .row (u32l (Sort.insertionSort Sort.ltInt d (Int.toNat a) (Int.toNat b)) ++ T) 23 N)] :=
  Does.of_wp_eq (VC := ((NW .i64 (a + 1)) ∧ (CT Tryd.prog (sub (bodyOf Tryd.f55) [1, 0]) ⟨(.slice (some ⟨A0, 0, none⟩) n cap :: .int .i64 a :: .int .i64 b :: undef :: undef :: undef :: .int .i64 (a + 1) :: undef :: .int .i64 a :: .int .i64 (a + 1) :: uns 39 []), [], [some (A0, .row (u32l d ++ T) 23 N)]⟩ R (ins_ok_L1_K A0 n cap N T d a b R)) ∧ (∀ x1 : Int × (Array Int) × (Nat → Value), (x1.2.1 = Sort.insertionSort Sort.ltInt d (Int.toNat a) (Int.toNat b)) → GQ R (.ret (.tuple #[])) [some (A0, .row (u32l (Sort.insertionSort Sort.ltInt d (Int.toNat a) (Int.toNat b)) ++ T) 23 N)] (.ret (.tuple #[])) R [some (A0, .row (u32l x1.2.1 ++ T) 23 N)]) ∧ True)) (ops [.d, .nw, .d] (.alt (Int × (Array Int) × (Nat → Value)) (fun zx => zx.2.1 = Sort.insertionSort Sort.ltInt d (Int.toNat a) (Int.toNat b)) (fun zx => (.exit 0, ((ins_ok_L1_inv A0 n cap N T d a b zx).up [] [some (A0, .row (u32l zx.2.1 ++ T) 23 N)]))) (fun x1 => (.fin [0] [])) .altn)) Tryd.func55 (by kernel_rfl) (by kernel_rfl)
    (⟨(nwI (by omega) (by omega)), ⟨ins_ok_L1_ct A0 n cap N T d a b R hd hn ha han hb, ⟨fun x1 qx1 => ⟨rfl, (by rfl), (by rw [qx1])⟩, trivial⟩⟩⟩)

end Go.Proofs.YtejpoojgbnppoaaDoor