import Derived.Test.YtejpoojgbnppoaaDoorTmD
namespace Go.Proofs.YtejpoojgbnppoaaDoor
open Vc Go
set_option linter.unusedVariables false
set_option linter.unusedSimpArgs false

theorem hx_mono {R S : RO} (h : R.le S) {lv : Option Addr} {ln LB LO : Nat} {f : Nat → PW} (hx : ∀ j, j < ln → lv = some ⟨LB, LO, none⟩ ∧ R.cells LB (LO + j * 2) [.int .u32 (f j).1, .int .i64 (f j).2]) :
    ∀ j, j < ln → lv = some ⟨LB, LO, none⟩ ∧ S.cells LB (LO + j * 2) [.int .u32 (f j).1, .int .i64 (f j).2] := fun j hj => ⟨(hx j hj).1, RO.cells_mono h (hx j hj).2⟩
/-- A power as it is handed back. -/
def pwv (b : Option Nat) (t z : L) : Value := match b with
  | none => t.v
  | some a => .agg #[.int .i64 4, .int .u32 0, .string .empty, .slice (some ⟨a, 0, none⟩) 1 1, .slice z.pa z.m z.pc]
noncomputable def pwT (b : Option Nat) (t z : L) : T := match b with
  | none => t.t
  | some _ => .mk 4 0 .empty [t.t] z.pl
theorem pl_nil {z : L} (h : (((z.m : Nat) : Int) == 0) = true) : z.pl = [] := by
  have : z.m = 0 := by have := eq_of_beq h; omega
  simp [L.pl, this]
theorem pl_ne {z : L} (h : (((z.m : Nat) : Int) == 0) = false) : z.pl ≠ [] := by
  have h1 : z.m ≠ 0 := by intro h0; rw [h0] at h; cases h
  intro h2
  have := congrArg List.length h2
  simp [L.pl] at this
  exact h1 this
theorem pow_4 {y w : L} {l : List PW} (h : y.k = 4) (hn : 0 < y.n) (e4 : w.pl = T.prod (y.pl ++ l)) :
    T.pow y.t l = if w.pl = [] then (y.kid 0).t else .mk 4 0 .empty [(y.kid 0).t] w.pl := by
  have e1 : y.t.k = 4 := by rw [L.t_eq]; exact h
  have e2 : y.t.ps = y.pl := by rw [L.t_eq]; rfl
  have e3 : y.t.xs.headD (T.word .empty) = (y.kid 0).t := by
    rw [L.t_eq]
    obtain ⟨n, hn'⟩ : ∃ n, y.n = n + 1 := ⟨y.n - 1, by omega⟩
    show List.headD (List.map _ (List.range y.n)) _ = _
    rw [hn', List.range_succ_eq_map]; rfl
  unfold T.pow
  rw [if_pos e1, e2, e3, ← e4]
theorem pow_n {y w : L} {l : List PW} (h : y.k ≠ 4) (h2 : w.pl = T.prod l) :
    T.pow y.t l = if w.pl = [] then y.t else .mk 4 0 .empty [y.t] w.pl := by
  have e1 : y.t.k ≠ 4 := by rw [L.t_eq]; exact h
  unfold T.pow
  rw [if_neg e1, ← h2]

set_option maxRecDepth 100000 in
set_option maxHeartbeats 4000000 in
theorem power_own (y : L) (lv : Option Addr) (ln lc LB LO : Nat) (f : Nat → PW) (R : RO) (hy : y.ok R) (h4 : y.k = 4 → 0 < y.n) (hn : y.m + ln ≤ 1000000) (hx : ∀ j, j < ln → lv = some ⟨LB, LO, none⟩ ∧ R.cells LB (LO + j * 2) [.int .u32 (f j).1, .int .i64 (f j).2]) : Does Tryd.prog 45 [.agg #[.int .i64 y.k, .int .u32 y.id, .string y.s, .slice y.aa y.n y.ac, .slice y.pa y.m y.pc], .slice lv ln lc] R [] (fun (r : Out) (G : RO) (B : Hp) => ∃ x : Option Nat × L × L, (x.2.1.ok G ∧ x.2.2.ok G ∧ pwT x.1 x.2.1 x.2.2 = T.pow y.t ((List.range ln).map f)) ∧ r = .ret (pwv x.1 x.2.1 x.2.2) ∧ B = [gsb x.1 x.2.1.row 30 5]) :=
  Does.of_wp_eq (VC := (let z1 := ((List.range ln).map f); let z0 : List Value := [.int .i64 ((y.kid 0).k), .int .u32 ((y.kid 0).id), .string ((y.kid 0).s), .slice (y.kid 0).aa ((y.kid 0).n) ((y.kid 0).ac), .slice (y.kid 0).pa ((y.kid 0).m) ((y.kid 0).pc)]; ∀ a0 : Nat, ∀ a1 : Nat, (a0 = a0) ∧ ((y.k == 4) = true → (a0 = a0) ∧ (y.aa = some ⟨y.AB, y.AO, none⟩ ∧ (0 : Int) ≤ 0 ∧ (0 : Int) < ((y.n : Nat) : Int)) ∧ (R.cells y.AB (y.AO + Int.toNat 0 * 5) z0) ∧ (a0 = a0) ∧ ∀ a3 : Nat, (Does Tryd.prog 66 [.slice (some ⟨a3, 0, none⟩) 2 2] R [some (a3, .row [.slice y.pa y.m y.pc, .slice lv ln lc] 28 2)] (fun r G B => ∃ z4 : L, (z4.ok G ∧ z4.pl = (List.range y.m).map y.pw ++ (List.range ln).map f) ∧ r = .ret (.slice z4.pa z4.m z4.pc) ∧ B = [])) ∧ ∀ (z4 : L) (G5 : RO), R.le G5 → (z4.ok G5 ∧ z4.pl = (List.range y.m).map y.pw ++ (List.range ln).map f) → (a0 = a0) ∧ (Does Tryd.prog 67 [.slice z4.pa z4.m z4.pc] G5 [] (fun r G B => ∃ z6 : L, (z6.ok G ∧ z6.pl = T.prod (y.pl ++ (List.range ln).map f)) ∧ r = .ret (.slice z6.pa z6.m z6.pc) ∧ B = [])) ∧ ∀ (z6 : L) (G7 : RO), G5.le G7 → (z6.ok G7 ∧ z6.pl = T.prod (y.pl ++ (List.range ln).map f)) → ((((z6.m : Nat) : Int) == 0) = true → (a0 = a0) ∧ (a1 = a1) ∧ (a1 = a1) ∧ (fun (r : Out) (G : RO) (B : Hp) => ∃ x : Option Nat × L × L, (x.2.1.ok G ∧ x.2.2.ok G ∧ pwT x.1 x.2.1 x.2.2 = T.pow y.t z1) ∧ r = .ret (pwv x.1 x.2.1 x.2.2) ∧ B = [gsb x.1 x.2.1.row 30 5]) (.ret (.agg #[.int .i64 ((y.kid 0).k), .int .u32 ((y.kid 0).id), .string ((y.kid 0).s), .slice (y.kid 0).aa ((y.kid 0).n) ((y.kid 0).ac), .slice (y.kid 0).pa ((y.kid 0).m) ((y.kid 0).pc)])) G7 [none]) ∧ ((((z6.m : Nat) : Int) == 0) = false → (a0 = a0) ∧ ∀ a9 : Nat, (a1 = a1) ∧ (a1 = a1) ∧ (fun (r : Out) (G : RO) (B : Hp) => ∃ x : Option Nat × L × L, (x.2.1.ok G ∧ x.2.2.ok G ∧ pwT x.1 x.2.1 x.2.2 = T.pow y.t z1) ∧ r = .ret (pwv x.1 x.2.1 x.2.2) ∧ B = [gsb x.1 x.2.1.row 30 5]) (.ret (.agg #[.int .i64 4, .int .u32 0, .string ByteArray.empty, .slice (some ⟨a9, 0, none⟩) 1 1, .slice z6.pa z6.m z6.pc])) G7 [some (a9, .row z0 30 5)])) ∧ ((y.k == 4) = false → (Does Tryd.prog 67 [.slice lv ln lc] R [] (fun r G B => ∃ z3 : L, (z3.ok G ∧ z3.pl = T.prod z1) ∧ r = .ret (.slice z3.pa z3.m z3.pc) ∧ B = [])) ∧ ∀ (z3 : L) (G4 : RO), R.le G4 → (z3.ok G4 ∧ z3.pl = T.prod z1) → ((((z3.m : Nat) : Int) == 0) = true → (a0 = a0) ∧ (a1 = a1) ∧ (a1 = a1) ∧ (fun (r : Out) (G : RO) (B : Hp) => ∃ x : Option Nat × L × L, (x.2.1.ok G ∧ x.2.2.ok G ∧ pwT x.1 x.2.1 x.2.2 = T.pow y.t z1) ∧ r = .ret (pwv x.1 x.2.1 x.2.2) ∧ B = [gsb x.1 x.2.1.row 30 5]) (.ret (.agg #[.int .i64 y.k, .int .u32 y.id, .string y.s, .slice y.aa y.n y.ac, .slice y.pa y.m y.pc])) G4 [none]) ∧ ((((z3.m : Nat) : Int) == 0) = false → (a0 = a0) ∧ ∀ a6 : Nat, (a1 = a1) ∧ (a1 = a1) ∧ (fun (r : Out) (G : RO) (B : Hp) => ∃ x : Option Nat × L × L, (x.2.1.ok G ∧ x.2.2.ok G ∧ pwT x.1 x.2.1 x.2.2 = T.pow y.t z1) ∧ r = .ret (pwv x.1 x.2.1 x.2.2) ∧ B = [gsb x.1 x.2.1.row 30 5]) (.ret (.agg #[.int .i64 4, .int .u32 0, .string ByteArray.empty, .slice (some ⟨a6, 0, none⟩) 1 1, .slice z3.pa z3.m z3.pc])) G4 [some (a6, .row [.int .i64 y.k, .int .u32 y.id, .string y.s, .slice y.aa y.n y.ac, .slice y.pa y.m y.pc] 30 5)])))) (.opn 0 (fun a0 => (.opn 1 (fun a1 => (ops [.d, .p 0, .d] (.sp 7 (.dr [some (.d), some (.p 0), some (.ib y.AB y.AO), some (.ro (fun v => [.int .i64 ((y.kid 0).k), .int .u32 ((y.kid 0).id), .string ((y.kid 0).s), .slice (y.kid 0).aa ((y.kid 0).n) ((y.kid 0).ac), .slice (y.kid 0).pa ((y.kid 0).m) ((y.kid 0).pc)])), some (.d), some (.p 0), some (.d), some (.n 2), some (.callG [2] [] (L) (fun e v z4 G => z4.ok G ∧ z4.pl = (List.range y.m).map y.pw ++ (List.range ln).map f) (fun e v z4 => (.slice z4.pa z4.m z4.pc, []))), some (.p 0), some (.d)] (ops [.d] (.opg [] [] (L) (fun z6 G => z6.ok G ∧ z6.pl = T.prod (y.pl ++ (List.range ln).map f)) (fun z6 => (.slice z6.pa z6.m z6.pc, [])) (fun z6 => (ops [.d, .d, .d, .d] (.sp 21 (ops [.p 0, .p 1] (.fin [3] [(1, none)])) (ops [.p 0] (.opn 3 (fun a9 => (ops [.d, .d, .p 1] (.fin [3] [(1, none)]))))))))))) (ops [.d] (.opg [] [] (L) (fun z3 G => z3.ok G ∧ z3.pl = T.prod ((List.range ln).map f)) (fun z3 => (.slice z3.pa z3.m z3.pc, [])) (fun z3 => (ops [.d, .d, .d, .d] (.sp 21 (ops [.p 0, .p 1] (.fin [2] [(1, none)])) (ops [.p 0] (.opn 2 (fun a6 => (ops [.d, .d, .p 1] (.fin [2] [(1, none)])))))))))))))))) Tryd.func45 (by kernel_rfl) (by kernel_rfl)
    (fun a0 => fun a1 => ⟨rfl, ⟨fun h2 => (have := eq_of_beq h2; ⟨rfl, ⟨⟨(hy.arg (h4 (eq_of_beq h2))).1, by decide, by have := h4 (eq_of_beq h2); omega⟩, ⟨(hy.arg (h4 (eq_of_beq h2))).2, ⟨rfl, fun a3 => ⟨(concat_ok _ y.pa y.m y.pc y.PB y.PO y.pw lv ln lc LB LO f R (by omega) hy.pow hx), fun z4 G5 hG5 qz4 => (have hy := L.ok_mono hG5 _ hy; have hx := hx_mono hG5 hx; ⟨rfl, ⟨((product_G z4.pa z4.m z4.pc z4.PB z4.PO z4.pw G5 (by have h9 := congrArg List.length qz4.2; simp [L.pl] at h9; omega) qz4.1.pow).mono (fun o G B _ ⟨z, ⟨h1, h2⟩, h3⟩ => ⟨z, ⟨h1, h2.trans (congrArg T.prod qz4.2)⟩, h3⟩)), fun z6 G7 hG7 qz6 => (have hy := L.ok_mono hG7 _ hy; have hx := hx_mono hG7 hx; have qz4 := And.intro (L.ok_mono hG7 _ qz4.1) qz4.2; ⟨fun h8 => (have := eq_of_beq h8; ⟨rfl, ⟨rfl, ⟨rfl, ⟨(none, (y.kid 0), z6), ⟨(hy.kid (h4 (eq_of_beq h2))), qz6.1, (by rw [(pow_4 (eq_of_beq h2) (h4 (eq_of_beq h2)) qz6.2), if_pos (pl_nil h8)]; rfl)⟩, (by rfl), (by rfl)⟩⟩⟩⟩), fun h8 => (have := ne_of_beq_false h8; ⟨rfl, fun a9 => ⟨rfl, ⟨rfl, ⟨((some a9), (y.kid 0), z6), ⟨(hy.kid (h4 (eq_of_beq h2))), qz6.1, (by rw [(pow_4 (eq_of_beq h2) (h4 (eq_of_beq h2)) qz6.2), if_neg (pl_ne h8)]; rfl)⟩, (by rfl), (by rfl)⟩⟩⟩⟩)⟩)⟩⟩)⟩⟩⟩⟩⟩), fun h2 => (have := ne_of_beq_false h2; ⟨(product_G lv ln lc LB LO f R (by omega) hx), fun z3 G4 hG4 qz3 => (have hy := L.ok_mono hG4 _ hy; have hx := hx_mono hG4 hx; ⟨fun h5 => (have := eq_of_beq h5; ⟨rfl, ⟨rfl, ⟨rfl, ⟨(none, y, z3), ⟨hy, qz3.1, (by rw [(pow_n (ne_of_beq_false h2) qz3.2), if_pos (pl_nil h5)]; rfl)⟩, (by rfl), (by rfl)⟩⟩⟩⟩), fun h5 => (have := ne_of_beq_false h5; ⟨rfl, fun a6 => ⟨rfl, ⟨rfl, ⟨((some a6), y, z3), ⟨hy, qz3.1, (by rw [(pow_n (ne_of_beq_false h2) qz3.2), if_neg (pl_ne h5)]; rfl)⟩, (by rfl), (by rfl)⟩⟩⟩⟩)⟩)⟩)⟩⟩)


theorem power_ok (y : L) (lv : Option Addr) (ln lc LB LO : Nat) (f : Nat → PW) (R : RO) (hy : y.ok R) (h4 : y.k = 4 → 0 < y.n) (hn : y.m + ln ≤ 1000000) (hx : ∀ j, j < ln → lv = some ⟨LB, LO, none⟩ ∧ R.cells LB (LO + j * 2) [.int .u32 (f j).1, .int .i64 (f j).2]) : Does Tryd.prog 45 [y.v, .slice lv ln lc] R [] (fun r G B => ∃ z : L, (z.ok G ∧ z.t = T.pow y.t ((List.range ln).map f)) ∧ r = .ret z.v ∧ B = []) := by
  refine (Does.freeze (X := Option Nat × L × L) (q := fun x G => x.2.1.ok G ∧ x.2.2.ok G ∧ pwT x.1 x.2.1 x.2.2 = T.pow y.t ((List.range ln).map f)) (g := fun x => (pwv x.1 x.2.1 x.2.2, [gsb x.1 x.2.1.row 30 5])) (power_own y lv ln lc LB LO f R hy h4 hn hx)).mono ?_
  rintro o G B hle ⟨⟨b, t, z⟩, G0, h0, ⟨q1, q2, q3⟩, hc, rfl, rfl⟩
  cases b with
  | none => exact ⟨t, ⟨L.ok_mono h0 _ q1, q3⟩, rfl, rfl⟩
  | some a =>
    have q2 := L.ok_mono h0 _ q2
    refine ⟨⟨4, 0, .empty, some ⟨a, 0, none⟩, 1, 1, a, 0, fun _ => t, z.pa, z.m, z.pc, z.PB, z.PO, z.pw⟩, ⟨?_, q3⟩, rfl, rfl⟩
    rw [L.ok_eq]
    refine ⟨⟨Nat.le_refl 1, by simp [maxLen], q2.len.2.2⟩, fun j hj => ?_, q2.pow⟩
    have hj : j < 1 := hj
    have : j = 0 := by omega
    subst this
    exact ⟨rfl, hc 0 a t.row 30 5 rfl, L.ok_mono h0 _ q1⟩
end Go.Proofs.YtejpoojgbnppoaaDoor
