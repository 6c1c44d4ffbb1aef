import Derived.Test.YtejpoojgbnppoaaDoorTmB
namespace Go.Proofs.YtejpoojgbnppoaaDoor
open Vc Go
set_option linter.unusedVariables false
set_option linter.unusedSimpArgs false

set_option maxRecDepth 100000 in
set_option maxHeartbeats 4000000 in
theorem concat_own (A1 : Nat) (pa : Option Addr) (pm pc PB PO : Nat) (pw : Nat → PW) (lv : Option Addr) (ln lc LB LO : Nat) (f : Nat → PW) (R : RO) (hn : pm + ln ≤ 1000000) (hp : ∀ j, j < pm → pa = some ⟨PB, PO, none⟩ ∧ R.cells PB (PO + j * 2) [.int .u32 (pw j).1, .int .i64 (pw j).2]) (hx : ∀ j, j < ln → lv = some ⟨LB, LO, none⟩ ∧ R.cells LB (LO + j * 2) [.int .u32 (f j).1, .int .i64 (f j).2]) : GivesX Tryd.prog 66 [.slice (some ⟨A1, 0, none⟩) 2 2] R [some (A1, .row [.slice pa pm pc, .slice lv ln lc] 28 2)] ({y : Option Nat × Nat // pm + ln ≤ y.2 ∧ y.2 ≤ maxLen ∧ (y.1 = none → y.2 = 0)}) (fun y => (gsv y.1.1 (pm + ln) y.1.2, [some (A1, .row [.slice pa pm pc, .slice lv ln lc] 28 2), gsb y.1.1 (powR ((List.range pm).map pw ++ (List.range ln).map f)) 25 (y.1.2 * 2)])) :=
  Does.of_wp_eq (VC := (let z1 := ((0 + ((pm : Nat) : Int)) + ((ln : Nat) : Int)); let z0 := ([] ++ (powR ((List.range pm).map pw))); (A1 = A1) ∧ (NW .i64 (0 + ((pm : Nat) : Int))) ∧ (decide ((0 + ((pm : Nat) : Int)) < 0)) = false ∧ (A1 = A1) ∧ (NW .i64 z1) ∧ (decide (z1 < 0)) = false ∧ (GivesX Tryd.prog 87 [.slice none 0 0, .int .i64 z1] R [] ({y : Option Nat × Nat // pm + ln ≤ y.2 ∧ y.2 ≤ maxLen ∧ (y.1 = none → y.2 = 0)}) (fun y0 => (gsv y0.1.1 0 y0.1.2, [gsb y0.1.1 [] 25 (y0.1.2 * 2)]))) ∧ ∀ y0 : {y : Option Nat × Nat // pm + ln ≤ y.2 ∧ y.2 ≤ maxLen ∧ (y.1 = none → y.2 = 0)}, (A1 = A1) ∧ (PrimOK Tryd.prog (.app 28 28 28 (gsv y0.1.1 0 y0.1.2) (.slice pa pm pc)) R [gsb y0.1.1 [] 25 (y0.1.2 * 2)] (Option Nat × Nat) (fun y1 => 0 + pm ≤ y1.2 ∧ y1.2 ≤ maxLen ∧ (y1.1 = none → y1.2 = 0 ∧ y0.1.1 = none)) (fun y1 => (gsv y1.1 (0 + pm) y1.2, [gsb y1.1 z0 25 (y1.2 * 2)]))) ∧ ∀ y1 : Option Nat × Nat, (0 + pm ≤ y1.2 ∧ y1.2 ≤ maxLen ∧ (y1.1 = none → y1.2 = 0 ∧ y0.1.1 = none)) → (A1 = A1) ∧ (PrimOK Tryd.prog (.app 28 28 28 (gsv y1.1 (0 + pm) y1.2) (.slice lv ln lc)) R [gsb y1.1 z0 25 (y1.2 * 2)] (Option Nat × Nat) (fun y2 => (0 + pm) + ln ≤ y2.2 ∧ y2.2 ≤ maxLen ∧ (y2.1 = none → y2.2 = 0 ∧ y1.1 = none)) (fun y2 => (gsv y2.1 ((0 + pm) + ln) y2.2, [gsb y2.1 (z0 ++ (powR ((List.range ln).map f))) 25 (y2.2 * 2)]))) ∧ ∀ y2 : Option Nat × Nat, ((0 + pm) + ln ≤ y2.2 ∧ y2.2 ≤ maxLen ∧ (y2.1 = none → y2.2 = 0 ∧ y1.1 = none)) → GX R ({y : Option Nat × Nat // pm + ln ≤ y.2 ∧ y.2 ≤ maxLen ∧ (y.1 = none → y.2 = 0)}) (fun y => (gsv y.1.1 (pm + ln) y.1.2, [some (A1, .row [.slice pa pm pc, .slice lv ln lc] 28 2), gsb y.1.1 (powR ((List.range pm).map pw ++ (List.range ln).map f)) 25 (y.1.2 * 2)])) (.ret (gsv y2.1 ((0 + pm) + ln) y2.2)) R [some (A1, .row [.slice pa pm pc, .slice lv ln lc] 28 2), gsb y2.1 (z0 ++ (powR ((List.range ln).map f))) 25 (y2.2 * 2)])) (ops [.d, .d, .d, .d, .d] (.un 3 (ops [.d, .d, .p 0, .d, .d, .d, .d, .nw, .d, .d, .d] (.br 20 false (ops [.d, .d, .d, .d, .p 0, .d, .d, .d, .d, .nw, .d, .d, .d] (.br 20 false (ops [.d, .d, .d, .d] (.opx [] [1] ({y : Option Nat × Nat // pm + ln ≤ y.2 ∧ y.2 ≤ maxLen ∧ (y.1 = none → y.2 = 0)}) (fun y0 => (gsv y0.1.1 0 y0.1.2, [gsb y0.1.1 [] 25 (y0.1.2 * 2)])) (fun y0 => (ops [.d, .d, .d, .d] (.un 3 (ops [.d, .d, .p 0, .d, .d, .d] (.opp [1] [] (Option Nat × Nat) (fun y1 => 0 + pm ≤ y1.2 ∧ y1.2 ≤ maxLen ∧ (y1.1 = none → y1.2 = 0 ∧ y0.1.1 = none)) (fun y1 => (gsv y1.1 (0 + pm) y1.2, [gsb y1.1 ([] ++ (powR ((List.range pm).map pw))) 25 (y1.2 * 2)])) (fun y1 => (ops [.d, .d, .d, .d, .d, .p 0, .d, .d, .d] (.opp [1] [] (Option Nat × Nat) (fun y2 => (0 + pm) + ln ≤ y2.2 ∧ y2.2 ≤ maxLen ∧ (y2.1 = none → y2.2 = 0 ∧ y1.1 = none)) (fun y2 => (gsv y2.1 ((0 + pm) + ln) y2.2, [gsb y2.1 (([] ++ (powR ((List.range pm).map pw))) ++ (powR ((List.range ln).map f))) 25 (y2.2 * 2)])) (fun y2 => (ops [.d, .d, .d, .d, .d, .d] (.fin [0, 1] []))))))))))))))))))) Tryd.func66 (by kernel_rfl) (by kernel_rfl)
    (⟨rfl, ⟨(nwI (by omega) (by omega)), ⟨(decide_eq_false (by omega)), ⟨rfl, ⟨(nwI (by omega) (by omega)), ⟨(decide_eq_false (by omega)), ⟨(by have h9 : (0 + ((pm : Nat) : Int)) + ((ln : Nat) : Int) = (((pm + ln : Nat) : Nat) : Int) := (by omega); rw [h9]; exact grow_ok (pm + ln) R (by omega)), fun y0 => ⟨rfl, ⟨(app_ok (e := 25) (e' := 25) (z := 2) (by' := 16) (zc := [.int .u32 0, .int .i64 0]) (b := y0.1.1) (len := 0) (cap := y0.1.2) (n := pm) (cs := []) (new := powR ((List.range pm).map pw)) (by kernel_rfl) (.inl (by kernel_rfl)) (by kernel_rfl) rfl rfl (Nat.zero_le _) y0.2.2.1 y0.2.2.2 (src_pows hp) (powR_one _) (by omega) (by simp only [maxLen]; omega)), fun y1 qy1 => ⟨rfl, ⟨(app_ok (e := 25) (e' := 25) (z := 2) (by' := 16) (zc := [.int .u32 0, .int .i64 0]) (b := y1.1) (len := (0 + pm)) (cap := y1.2) (n := ln) (cs := [] ++ (powR ((List.range pm).map pw))) (new := powR ((List.range ln).map f)) (by kernel_rfl) (.inl (by kernel_rfl)) (by kernel_rfl) rfl (by rw [List.nil_append, powR_len, List.length_map, List.length_range, Nat.zero_add]) qy1.1 qy1.2.1 (fun h => (qy1.2.2 h).1) (src_pows hx) (powR_one _) (by omega) (by simp only [maxLen]; omega)), fun y2 qy2 => ⟨rfl, ⟨y2, (by have := qy2; omega), qy2.2.1, fun h => (qy2.2.2 h).1⟩, (by exact congrArg (fun z => Out.ret (gsv _ z _)) (by omega)), (by exact congrArg (fun z => [_, gsb _ z 25 _]) (by rw [powR_app, List.nil_append]))⟩⟩⟩⟩⟩⟩⟩⟩⟩⟩⟩⟩)


/-- What lies in a row of one's own, left to all. -/
def plL (b : Option Nat) (cap : Nat) (l : List PW) : L := ⟨0, 0, .empty, none, 0, 0, 0, 0, fun j => j.elim0, b.map fun a => ⟨a, 0, none⟩, l.length, cap, b.getD 0, 0, fun j => l.getD j (0, 0)⟩
theorem plL_pl (b : Option Nat) (cap : Nat) (l : List PW) : (plL b cap l).pl = l := by
  apply List.ext_getElem (by simp [L.pl, plL])
  intro i h1 h2
  simp [L.pl, plL, List.getElem?_eq_getElem h2]
theorem powR_drop : ∀ (l : List PW) (j : Nat), (powR l).drop (j * 2) = powR (l.drop j)
  | l, 0 => by simp
  | [], j + 1 => by simp [powR]
  | p :: l, j + 1 => by
    rw [show (j + 1) * 2 = j * 2 + 2 by omega, ← List.drop_drop, List.drop_succ_cons, ← powR_drop l j]
    rw [List.drop_drop, Nat.add_comm, ← List.drop_drop]
    rfl
theorem powR_at {l : List PW} {j : Nat} (h : j < l.length) : ((powR l).drop (j * 2)).take 2 = [.int .u32 l[j].1, .int .i64 l[j].2] := by
  rw [powR_drop, List.drop_eq_getElem_cons h]
  rfl
theorem plL_ok {G : RO} {b : Option Nat} {cap : Nat} {l : List PW} (h : l.length ≤ cap) (hc : cap ≤ maxLen) (hb : b = none → cap = 0) (hcell : ∀ a, b = some a → G.cells a 0 (powR l)) : (plL b cap l).ok G := by
  rw [L.ok_eq]
  refine ⟨⟨Nat.le_refl 0, by simp [plL, maxLen], h, hc⟩, fun j hj => absurd hj (by simp [plL]), fun j hj => ?_⟩
  have hj : j < l.length := hj
  cases b with
  | none => have := hb rfl; omega
  | some a =>
    refine ⟨rfl, ?_⟩
    have := RO.cells_sub (i := j * 2) (hcell a rfl) (l := [.int .u32 (l.getD j (0, 0)).1, .int .i64 (l.getD j (0, 0)).2]) (by
      show List.take 2 _ = _
      rw [powR_at hj]; simp [List.getElem?_eq_getElem hj])
    exact this
theorem concat_ok (A1 : Nat) (pa : Option Addr) (pm pc PB PO : Nat) (pw : Nat → PW) (lv : Option Addr) (ln lc LB LO : Nat) (f : Nat → PW) (R : RO) (hn : pm + ln ≤ 1000000) (hp : ∀ j, j < pm → pa = some ⟨PB, PO, none⟩ ∧ R.cells PB (PO + j * 2) [.int .u32 (pw j).1, .int .i64 (pw j).2]) (hx : ∀ j, j < ln → lv = some ⟨LB, LO, none⟩ ∧ R.cells LB (LO + j * 2) [.int .u32 (f j).1, .int .i64 (f j).2]) : Does Tryd.prog 66 [.slice (some ⟨A1, 0, none⟩) 2 2] R [some (A1, .row [.slice pa pm pc, .slice lv ln lc] 28 2)]
    (fun r G B => ∃ z : L, (z.ok G ∧ z.pl = (List.range pm).map pw ++ (List.range ln).map f) ∧ r = .ret (.slice z.pa z.m z.pc) ∧ B = []) :=
  (Does.freeze (X := {y : Option Nat × Nat // pm + ln ≤ y.2 ∧ y.2 ≤ maxLen ∧ (y.1 = none → y.2 = 0)}) (q := fun _ _ => True) (g := fun y => (gsv y.1.1 (pm + ln) y.1.2, [some (A1, .row [.slice pa pm pc, .slice lv ln lc] 28 2), gsb y.1.1 (powR ((List.range pm).map pw ++ (List.range ln).map f)) 25 (y.1.2 * 2)]))
    ((concat_own A1 pa pm pc PB PO pw lv ln lc LB LO f R hn hp hx).mono (by rintro o G B hle ⟨_, y, h1, h2⟩; exact ⟨y, trivial, h1, h2⟩))).mono (by
    rintro o G B hle ⟨y, G0, h0, -, hc, rfl, rfl⟩
    have hl : ((List.range pm).map pw ++ (List.range ln).map f).length = pm + ln := by simp
    refine ⟨plL y.1.1 y.1.2 ((List.range pm).map pw ++ (List.range ln).map f), ⟨plL_ok (by rw [hl]; exact y.2.1) y.2.2.1 y.2.2.2 fun a ha => hc 1 a _ 25 _ (by show Hp.at [_, gsb y.1.1 _ 25 _] 1 = _; rw [ha]; rfl), plL_pl _ _ _⟩, ?_, rfl⟩
    exact congrArg (fun z => Out.ret (gsv y.1.1 z y.1.2)) hl.symm)
theorem prodL_len (f : Nat → PW) (n : Nat) : (prodL f n).length ≤ n := Nat.le_trans (prO_len _ _ _) (prS_len f n)
end Go.Proofs.YtejpoojgbnppoaaDoor
