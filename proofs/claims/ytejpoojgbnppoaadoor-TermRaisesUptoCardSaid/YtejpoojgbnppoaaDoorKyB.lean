import Derived.Test.YtejpoojgbnppoaaDoorKyA
namespace Go.Proofs.YtejpoojgbnppoaaDoor
open Vc Go
set_option linter.unusedVariables false
set_option linter.unusedSimpArgs false

theorem keys1_do (bx M SB l c : Nat) (m : MPz) (R : RO) (hS : Stm m c) (hy : ∀ pre x y, kJ pre y → pre.length < m.length → YDoesJ Tryd.prog l [.int .u32 x] R (kHs bx M SB c m y) (kHs bx M SB c m) (kJ (pre ++ [x]))) :
    Does Tryd.prog 103 [.func (.yield l) #[] #[], .pointer (some ⟨bx, 0, none⟩)] R (kHs bx M SB c m ((none, 0), 0, [])) fun o G B => G = R ∧ o = .ret (.tuple #[]) ∧ ∃ pre y, kJ pre y ∧ pre.Perm (m.map (·.1)) ∧ B = kHs bx M SB c m y :=
  (keys1_ok bx M SB l c m ((none, 0), 0, []) R hS hy kJ_nil).mono (by
    rintro o G B hle ⟨rfl, ⟨y, pre, h1, h2⟩, rfl, rfl⟩
    exact ⟨rfl, rfl, pre, y, h1, h2, rfl⟩)
theorem gives_none {P : Program} {f : FuncId} {a : List Value} {R : RO} {r : Out} (h : Gives P f a R [] r []) : Gives P f a R [none] r [none] := fun Rx w hR hs => by
  have e : ∀ i, Hp.at [none] i = Hp.at [] i := fun i => by cases i <;> simp [Hp.at, Hp.at_nil]
  refine (h Rx w hR (hs.congr_at fun i => (e i).symm)).mono ?_
  rintro v w' ⟨o, G, H', Rx', h1, ⟨rfl, rfl, rfl⟩, hx, hs'⟩
  exact ⟨_, _, _, Rx', h1, ⟨rfl, rfl, rfl⟩, hx, hs'.congr_at e⟩
theorem sort_gs (b : Option Nat) (n cap N : Nat) (d : Array Int) (R : RO) (hd : d.size = n) (hn : n ≤ 1152921504606846976) (hb : b = none → n = 0) :
    Gives Tryd.prog 28 [gsv b n cap] R [gsb b (u32l d) 23 N] (.ret (.tuple #[])) [gsb b (u32l (sortA d)) 23 N] := by
  cases b with
  | none =>
    have := hb rfl
    subst this
    exact gives_none (sort_nil cap R)
  | some a =>
    have := sort_ok a n cap N [] d R hd hn
    simp only [List.append_nil] at this
    exact this
theorem sortA_size (d : Array Int) : (sortA d).size = d.size := by simp [sortA]
theorem sortA_perm {l k : List Int} (h : l.Perm k) : sortA l.toArray = sortA k.toArray := by
  unfold sortA
  congr 1
  exact sortZ_congr h
def ksort (m : MPz) : Array Int := sortA (m.map (·.1)).toArray
theorem ksort_size (m : MPz) : (ksort m).size = m.length := by simp [ksort, sortA]

set_option maxRecDepth 100000 in
set_option maxHeartbeats 4000000 in
theorem appendSeq_ok (bx M c : Nat) (m : MPz) (R : RO) (hS : Stm m c) (hm : m.length ≤ 1000000) : GivesX Tryd.prog 111 [.slice none 0 0, .func (.func 103) #[] #[.pointer (some ⟨bx, 0, none⟩)]] R [some (bx, .row [.map (some M)] 124 1), some (M, .map (ents (Value.int .u32) (Value.int .i64) m) c)] ({y : KS // ∃ pre : List Int, kJ pre y ∧ pre.Perm (m.map (·.1))}) (fun y => (gsv y.1.1.1 y.1.2.1 y.1.1.2, [some (bx, .row [.map (some M)] 124 1), some (M, .map (ents (Value.int .u32) (Value.int .i64) m) c), gsb y.1.1.1 y.1.2.2 23 (y.1.1.2 * 1)])) :=
  Does.of_wpm_eq (VC := (let z1 : Array Value := #[.pointer (some ⟨bx, 0, none⟩)]; let z0 := (ents (Value.int .u32) (Value.int .i64) m); ∀ a0 : Nat, (CT Tryd.prog (sub (bodyOf Tryd.f111) [1, 0, 1, 0]) ⟨(.slice none 0 0 :: .func (.func 103) #[] z1 :: .pointer (some ⟨a0, 0, none⟩) :: undef :: .slice none 0 0 :: undef :: .func (.func 103) #[] z1 :: uns 6 []), [], [some (bx, .row [.map (some M)] 124 1), some (M, .map z0 c), some (a0, .row [.slice none 0 0] 54 1)]⟩ R (altPost R (.altG (Nat × KS) (fun r1 G => (G.mem r1.1 = some (.deferred (some [])) ∧ R.mem r1.1 = none) ∧ ∃ pre, kJ pre r1.2 ∧ (fun pre => pre.Perm (m.map (·.1))) pre) (fun r1 => (.normal, ⟨(.slice none 0 0 :: .func (.func 103) #[] z1 :: .pointer (some ⟨a0, 0, none⟩) :: undef :: .slice none 0 0 :: undef :: .func (.func 103) #[] z1 :: uns 6 []), [{ target := .collected r1.1, args := #[] }], [some (bx, .row [.map (some M)] 124 1), some (M, .map z0 c), some (a0, .row [gsv r1.2.1.1 r1.2.2.1 r1.2.1.2] 54 1), gsb r1.2.1.1 r1.2.2.2 23 (r1.2.1.2 * 1)]⟩)) (fun _ => .altn) .altn))) ∧ (∀ (r1 : (Nat × KS)) (G2 : RO), R.le G2 → ((G2.mem r1.1 = some (.deferred (some [])) ∧ R.mem r1.1 = none) ∧ ∃ pre, kJ pre r1.2 ∧ (fun pre => pre.Perm (m.map (·.1))) pre) → (a0 = a0) ∧ (G2.mem r1.1 = some (.deferred (some [])) ∧ R.mem r1.1 = none ∧ R.le G2) ∧ GX R ({y : KS // ∃ pre : List Int, kJ pre y ∧ pre.Perm (m.map (·.1))}) (fun y => (gsv y.1.1.1 y.1.2.1 y.1.1.2, [some (bx, .row [.map (some M)] 124 1), some (M, .map z0 c), gsb y.1.1.1 y.1.2.2 23 (y.1.1.2 * 1)])) (.ret (gsv r1.2.1.1 r1.2.2.1 r1.2.1.2)) R [some (bx, .row [.map (some M)] 124 1), some (M, .map z0 c), gsb r1.2.1.1 r1.2.2.2 23 (r1.2.1.2 * 1)]) ∧ True)) (.opn 2 (fun a0 => (ops [.d, .d] (.altG (Nat × KS) (fun r1 G => (G.mem r1.1 = some (.deferred (some [])) ∧ R.mem r1.1 = none) ∧ ∃ pre, kJ pre r1.2 ∧ (fun pre => pre.Perm (m.map (·.1))) pre) (fun r1 => (.normal, ⟨(.slice none 0 0 :: .func (.func 103) #[] #[.pointer (some ⟨bx, 0, none⟩)] :: .pointer (some ⟨a0, 0, none⟩) :: undef :: .slice none 0 0 :: undef :: .func (.func 103) #[] #[.pointer (some ⟨bx, 0, none⟩)] :: uns 6 []), [{ target := .collected r1.1, args := #[] }], [some (bx, .row [.map (some M)] 124 1), some (M, .map (ents (Value.int .u32) (Value.int .i64) m) c), some (a0, .row [gsv r1.2.1.1 r1.2.2.1 r1.2.1.2] 54 1), gsb r1.2.1.1 r1.2.2.2 23 (r1.2.1.2 * 1)]⟩)) (fun r1 => (ops [.p 2, .d] (.fin [0, 1, 3] []))) .altn)))) Tryd.func111 (by kernel_rfl) (by kernel_rfl)
    (fun a0 => ⟨CT.pad 1 <| CT.range_runJ_eq 103 #[.pointer (some ⟨bx, 0, none⟩)] m.length (fun x : Int => [Value.int .u32 x]) (kHs bx M a0 c m) kJ (fun pre => pre.Perm (m.map (·.1))) ((none, 0), 0, []) (by kernel_rfl) (by kernel_rfl) (fun _ => by kernel_rfl) (by kernel_rfl) (fun _ => rfl) (fun pre zx zy hJ hn l => RBK.of_eq (VC := ((a0 = a0) ∧ ∀ a23 : Nat, (PrimOK Tryd.prog (.app 54 54 54 (gsv zy.1.1 zy.2.1 zy.1.2) (.slice (some ⟨a23, 0, none⟩) 1 1)) R [gsb zy.1.1 zy.2.2 23 (zy.1.2 * 1), some (a23, .row [.int .u32 zx] 23 1)] (Nat × Nat) (fun y24 => zy.2.1 + 1 ≤ y24.2 ∧ y24.2 ≤ maxLen) (fun y24 => (.slice (some ⟨y24.1, 0, none⟩) (zy.2.1 + 1) y24.2, [some (y24.1, .row (zy.2.2 ++ ([.int .u32 zx] : List Value)) 23 (y24.2 * 1)), some (a23, .row [.int .u32 zx] 23 1)]))) ∧ ∀ y24 : Nat × Nat, (zy.2.1 + 1 ≤ y24.2 ∧ y24.2 ≤ maxLen) → (a0 = a0) ∧ RBk (kHs bx M a0 c m) (kJ (pre ++ [zx])) .normal ⟨[.slice none 0 0, .func (.func 103) #[] #[.pointer (some ⟨bx, 0, none⟩)], .pointer (some ⟨a0, 0, none⟩), undef, .slice none 0 0, .int .u32 zx, .func (.func 103) #[] #[.pointer (some ⟨bx, 0, none⟩)], .int .u32 zx, gsv zy.1.1 zy.2.1 zy.1.2, .int .u32 zx, .slice (some ⟨a23, 0, none⟩) 1 1, .slice (some ⟨y24.1, 0, none⟩) (zy.2.1 + 1) y24.2, undef], [], [some (bx, .row [.map (some M)] 124 1), some (M, .map (ents (Value.int .u32) (Value.int .i64) m) c), some (a0, .row [.slice (some ⟨y24.1, 0, none⟩) (zy.2.1 + 1) y24.2] 54 1), some (y24.1, .row (zy.2.2 ++ ([.int .u32 zx] : List Value)) 23 (y24.2 * 1)), some (a23, .row [.int .u32 zx] 23 1)]⟩ R)) (ops [.d, .p 2, .d] (.opn 4 (fun a23 => (.opp [3, 4] [] (Nat × Nat) (fun y24 => zy.2.1 + 1 ≤ y24.2 ∧ y24.2 ≤ maxLen) (fun y24 => (.slice (some ⟨y24.1, 0, none⟩) (zy.2.1 + 1) y24.2, [some (y24.1, .row (zy.2.2 ++ ([.int .u32 zx] : List Value)) 23 (y24.2 * 1)), some (a23, .row [.int .u32 zx] 23 1)])) (fun y24 => (ops [.p 2] (.fin [] []))))))) (by kernel_rfl) (⟨rfl, fun a23 => ⟨(app1_ok (e := 23) (e' := 23) (z := 1) (by' := 4) (zc := [.int .u32 0]) (b := zy.1.1) (len := zy.2.1) (cap := zy.1.2) (n := 1) (cs := zy.2.2) (new := [.int .u32 zx]) (by kernel_rfl) (.inl (by kernel_rfl)) (by kernel_rfl) rfl (by rw [hJ.2.1, List.length_map, hJ.1, Nat.mul_one]) (by rw [hJ.1]; exact hJ.2.2.2.2.1) hJ.2.2.2.2.2 hJ.2.2.2.1 ⟨rfl, .inr (.inr ⟨_, _, _, rfl, .inl ⟨1, _, _, _, rfl, rfl⟩⟩)⟩ (ones_spec rfl) (by have := hJ.1; omega) (by have := hJ.1; simp only [maxLen]; omega) (by omega)), fun y24 qy24 => ⟨rfl, ⟨rfl, ((some y24.1, y24.2), zy.2.1 + 1, zy.2.2 ++ [.int .u32 zx]), (kJ_snoc hJ qy24), rfl⟩⟩⟩⟩)) (fun l R1 hle hy => keys1_do bx M a0 l c m R1 hS hy), fun r1 G2 hG2 qG2 => ⟨rfl, ⟨⟨qG2.1.1, qG2.1.2, hG2⟩, ⟨rfl, ⟨r1.2, qG2.2⟩, (by rfl), (by rfl)⟩⟩⟩, trivial⟩)

set_option maxRecDepth 100000 in
set_option maxHeartbeats 4000000 in
theorem collect0 (bx M c : Nat) (m : MPz) (R : RO) (hS : Stm m c) (hm : m.length ≤ 1000000) : GivesX Tryd.prog 102 [.func (.func 103) #[] #[.pointer (some ⟨bx, 0, none⟩)]] R [some (bx, .row [.map (some M)] 124 1), some (M, .map (ents (Value.int .u32) (Value.int .i64) m) c)] ({y : KS // ∃ pre : List Int, kJ pre y ∧ pre.Perm (m.map (·.1))}) (fun y => (gsv y.1.1.1 y.1.2.1 y.1.1.2, [some (bx, .row [.map (some M)] 124 1), some (M, .map (ents (Value.int .u32) (Value.int .i64) m) c), gsb y.1.1.1 y.1.2.2 23 (y.1.1.2 * 1)])) :=
  Does.of_wp_eq (VC := ((GivesX Tryd.prog 111 [.slice none 0 0, .func (.func 103) #[] #[.pointer (some ⟨bx, 0, none⟩)]] R [some (bx, .row [.map (some M)] 124 1), some (M, .map (ents (Value.int .u32) (Value.int .i64) m) c)] ({y : KS // ∃ pre : List Int, kJ pre y ∧ pre.Perm (m.map (·.1))}) (fun w0 => (gsv w0.1.1.1 w0.1.2.1 w0.1.1.2, [some (bx, .row [.map (some M)] 124 1), some (M, .map (ents (Value.int .u32) (Value.int .i64) m) c), gsb w0.1.1.1 w0.1.2.2 23 (w0.1.1.2 * 1)]))) ∧ ∀ w0 : {y : KS // ∃ pre : List Int, kJ pre y ∧ pre.Perm (m.map (·.1))}, GX R ({y : KS // ∃ pre : List Int, kJ pre y ∧ pre.Perm (m.map (·.1))}) (fun y => (gsv y.1.1.1 y.1.2.1 y.1.1.2, [some (bx, .row [.map (some M)] 124 1), some (M, .map (ents (Value.int .u32) (Value.int .i64) m) c), gsb y.1.1.1 y.1.2.2 23 (y.1.1.2 * 1)])) (.ret (gsv w0.1.1.1 w0.1.2.1 w0.1.1.2)) R [some (bx, .row [.map (some M)] 124 1), some (M, .map (ents (Value.int .u32) (Value.int .i64) m) c), gsb w0.1.1.1 w0.1.2.2 23 (w0.1.1.2 * 1)])) (ops [.d, .d] (.opx [0, 1] [2] ({y : KS // ∃ pre : List Int, kJ pre y ∧ pre.Perm (m.map (·.1))}) (fun w0 => (gsv w0.1.1.1 w0.1.2.1 w0.1.1.2, [some (bx, .row [.map (some M)] 124 1), some (M, .map (ents (Value.int .u32) (Value.int .i64) m) c), gsb w0.1.1.1 w0.1.2.2 23 (w0.1.1.2 * 1)])) (fun w0 => (ops [.d] (.fin [0, 1, 2] []))))) Tryd.func102 (by kernel_rfl) (by kernel_rfl)
    (⟨(appendSeq_ok bx M c m R hS hm), fun w0 => ⟨rfl, w0, (by rfl), (by rfl)⟩⟩)


theorem collect_ok (bx M c : Nat) (m : MPz) (R : RO) (hS : Stm m c) (hm : m.length ≤ 1000000) : GivesX Tryd.prog 102 [.func (.func 103) #[] #[.pointer (some ⟨bx, 0, none⟩)]] R [some (bx, .row [.map (some M)] 124 1), some (M, .map (ents (Value.int .u32) (Value.int .i64) m) c)] ({y : (Option Nat × Nat) × List Int // y.2.Perm (m.map (·.1)) ∧ (y.1.1 = none ↔ y.2 = []) ∧ y.2.length ≤ y.1.2 ∧ y.1.2 ≤ maxLen}) (fun y => (gsv y.1.1.1 y.1.2.length y.1.1.2, [some (bx, .row [.map (some M)] 124 1), some (M, .map (ents (Value.int .u32) (Value.int .i64) m) c), gsb y.1.1.1 (u32l y.1.2.toArray) 23 (y.1.1.2 * 1)])) :=
  (collect0 bx M c m R hS hm).mono (by
    rintro o G B hle ⟨rfl, ⟨y, pre, h1, h2⟩, rfl, rfl⟩
    refine ⟨rfl, ⟨(y.1, pre), h2, h1.2.2.1, h1.2.2.2.2.1, h1.2.2.2.2.2⟩, ?_, ?_⟩
    · show Out.ret (gsv y.1.1 y.2.1 y.1.2) = Out.ret (gsv y.1.1 pre.length y.1.2)
      rw [h1.1]
    · show [_, _, gsb y.1.1 y.2.2 23 (y.1.2 * 1)] = [_, _, gsb y.1.1 (u32l pre.toArray) 23 (y.1.2 * 1)]
      rw [h1.2.1]; rfl)

set_option maxRecDepth 100000 in
set_option maxHeartbeats 4000000 in
theorem sorted0 (bx M c : Nat) (m : MPz) (R : RO) (hS : Stm m c) (hm : m.length ≤ 1000000) : GivesX Tryd.prog 88 [.func (.func 103) #[] #[.pointer (some ⟨bx, 0, none⟩)]] R [some (bx, .row [.map (some M)] 124 1), some (M, .map (ents (Value.int .u32) (Value.int .i64) m) c)] ({y : (Option Nat × Nat) × List Int // y.2.Perm (m.map (·.1)) ∧ (y.1.1 = none ↔ y.2 = []) ∧ y.2.length ≤ y.1.2 ∧ y.1.2 ≤ maxLen}) (fun y => (gsv y.1.1.1 y.1.2.length y.1.1.2, [some (bx, .row [.map (some M)] 124 1), some (M, .map (ents (Value.int .u32) (Value.int .i64) m) c), gsb y.1.1.1 (u32l (sortA y.1.2.toArray)) 23 (y.1.1.2 * 1)])) :=
  Does.of_wp_eq (VC := (let z0 := (ents (Value.int .u32) (Value.int .i64) m); (GivesX Tryd.prog 102 [.func (.func 103) #[] #[.pointer (some ⟨bx, 0, none⟩)]] R [some (bx, .row [.map (some M)] 124 1), some (M, .map z0 c)] ({y : (Option Nat × Nat) × List Int // y.2.Perm (m.map (·.1)) ∧ (y.1.1 = none ↔ y.2 = []) ∧ y.2.length ≤ y.1.2 ∧ y.1.2 ≤ maxLen}) (fun w0 => (gsv w0.1.1.1 w0.1.2.length w0.1.1.2, [some (bx, .row [.map (some M)] 124 1), some (M, .map z0 c), gsb w0.1.1.1 (u32l w0.1.2.toArray) 23 (w0.1.1.2 * 1)]))) ∧ ∀ w0 : {y : (Option Nat × Nat) × List Int // y.2.Perm (m.map (·.1)) ∧ (y.1.1 = none ↔ y.2 = []) ∧ y.2.length ≤ y.1.2 ∧ y.1.2 ≤ maxLen}, (Gives Tryd.prog 28 [gsv w0.1.1.1 w0.1.2.length w0.1.1.2] R [gsb w0.1.1.1 (u32l w0.1.2.toArray) 23 (w0.1.1.2 * 1)] (.ret (.tuple #[])) [gsb w0.1.1.1 (u32l (sortA w0.1.2.toArray)) 23 (w0.1.1.2 * 1)]) ∧ GX R ({y : (Option Nat × Nat) × List Int // y.2.Perm (m.map (·.1)) ∧ (y.1.1 = none ↔ y.2 = []) ∧ y.2.length ≤ y.1.2 ∧ y.1.2 ≤ maxLen}) (fun y => (gsv y.1.1.1 y.1.2.length y.1.1.2, [some (bx, .row [.map (some M)] 124 1), some (M, .map z0 c), gsb y.1.1.1 (u32l (sortA y.1.2.toArray)) 23 (y.1.1.2 * 1)])) (.ret (gsv w0.1.1.1 w0.1.2.length w0.1.1.2)) R [some (bx, .row [.map (some M)] 124 1), some (M, .map z0 c), gsb w0.1.1.1 (u32l (sortA w0.1.2.toArray)) 23 (w0.1.1.2 * 1)])) (ops [.d, .d] (.opx [0, 1] [2] ({y : (Option Nat × Nat) × List Int // y.2.Perm (m.map (·.1)) ∧ (y.1.1 = none ↔ y.2 = []) ∧ y.2.length ≤ y.1.2 ∧ y.1.2 ≤ maxLen}) (fun w0 => (gsv w0.1.1.1 w0.1.2.length w0.1.1.2, [some (bx, .row [.map (some M)] 124 1), some (M, .map (ents (Value.int .u32) (Value.int .i64) m) c), gsb w0.1.1.1 (u32l w0.1.2.toArray) 23 (w0.1.1.2 * 1)])) (fun w0 => (ops [.d, .d, .call0 [2] [] (fun e v => .ret (.tuple #[])) (fun e v => [gsb w0.1.1.1 (u32l (sortA w0.1.2.toArray)) 23 (w0.1.1.2 * 1)]), .d, .d] (.fin [0, 1, 2] []))))) Tryd.func88 (by kernel_rfl) (by kernel_rfl)
    (⟨(collect_ok bx M c m R hS hm), fun w0 => ⟨(sort_gs w0.1.1.1 w0.1.2.length w0.1.1.2 (w0.1.1.2 * 1) w0.1.2.toArray R (by simp) (by have := w0.2.1.length_eq; rw [List.length_map] at this; omega) (fun h => by rw [w0.2.2.1.1 h]; rfl)), ⟨rfl, w0, (by rfl), (by rfl)⟩⟩⟩)


theorem sorted_ok (bx M c : Nat) (m : MPz) (R : RO) (hS : Stm m c) (hm : m.length ≤ 1000000) : GivesX Tryd.prog 88 [.func (.func 103) #[] #[.pointer (some ⟨bx, 0, none⟩)]] R [some (bx, .row [.map (some M)] 124 1), some (M, .map (ents (Value.int .u32) (Value.int .i64) m) c)] ({y : Option Nat × Nat // (y.1 = none ↔ m = []) ∧ m.length ≤ y.2 ∧ y.2 ≤ maxLen}) (fun y => (gsv y.1.1 m.length y.1.2, [some (bx, .row [.map (some M)] 124 1), some (M, .map (ents (Value.int .u32) (Value.int .i64) m) c), gsb y.1.1 (u32l (ksort m)) 23 (y.1.2 * 1)])) :=
  (sorted0 bx M c m R hS hm).mono (by
    rintro o G B hle ⟨rfl, ⟨y, h1, h2, h3, h4⟩, rfl, rfl⟩
    have h5 : y.2.length = m.length := by rw [h1.length_eq, List.length_map]
    refine ⟨rfl, ⟨y.1, ?_, by omega, h4⟩, ?_, ?_⟩
    · rw [h2]
      constructor
      · intro h; rw [h] at h5; exact List.eq_nil_of_length_eq_zero h5.symm
      · intro h; rw [h] at h5; exact List.eq_nil_of_length_eq_zero h5
    · show Out.ret (gsv y.1.1 y.2.length y.1.2) = Out.ret (gsv y.1.1 m.length y.1.2)
      rw [h5]
    · show [_, _, gsb y.1.1 (u32l (sortA y.2.toArray)) 23 (y.1.2 * 1)] = [_, _, gsb y.1.1 (u32l (ksort m)) 23 (y.1.2 * 1)]
      rw [sortA_perm h1]; rfl)

set_option maxRecDepth 100000 in
set_option maxHeartbeats 4000000 in
theorem keys_ok (M : Nat) (R : RO)  : GivesX Tryd.prog 89 [.map (some M)] R [] (Nat) (fun bx => (.func (.func 103) #[] #[.pointer (some ⟨bx, 0, none⟩)], [some (bx, .row [.map (some M)] 124 1)])) :=
  Does.of_wp_eq (VC := (∀ a0 : Nat, GX R (Nat) (fun bx => (.func (.func 103) #[] #[.pointer (some ⟨bx, 0, none⟩)], [some (bx, .row [.map (some M)] 124 1)])) (.ret (.func (.func 103) #[] #[.pointer (some ⟨a0, 0, none⟩)])) R [some (a0, .row [.map (some M)] 124 1)])) (.opn 0 (fun a0 => (ops [.d, .d, .d] (.fin [0] [])))) Tryd.func89 (by kernel_rfl) (by kernel_rfl)
    (fun a0 => ⟨rfl, a0, (by rfl), (by rfl)⟩)

end Go.Proofs.YtejpoojgbnppoaaDoor