import Derived.Test.YtejpoojgbnppoaaDoorPrC
import Derived.Test.YtejpoojgbnppoaaDoorStC
namespace Go.Proofs.YtejpoojgbnppoaaDoor
open Vc Go
set_option linter.unusedVariables false
set_option linter.unusedSimpArgs false

theorem Does.forget {P : Program} {f : FuncId} {args : List Value} {R : RO} {H B0 : Hp} {o : Out} (h : Does P f args R H fun r G B => r = o ∧ B = B0) : Gives P f args R H o B0 := by
  intro Rx w hR hs
  refine (h Rx w hR hs).mono ?_
  rintro e w' ⟨o', G, B, Rx', rfl, ⟨rfl, rfl⟩, hx, hs'⟩
  exact ⟨_, R, _, Rx', rfl, ⟨rfl, rfl, rfl⟩, ⟨R.le_refl, hx.lex, RO.le_trans hx.le hx.leg, fun b hb => .inl hb⟩, hs'⟩
theorem L.ht_kid {y : L} {j : Nat} (h : j < y.n) : (y.kid j).t.ht < y.t.ht := by
  rw [L.t_eq y]
  have := T.htL_le (l := (List.range y.n).map fun j => (y.kid j).t) (t := (y.kid j).t) (List.mem_map.2 ⟨j, List.mem_range.2 h, rfl⟩)
  show _ < T.htL _ + 1
  omega
theorem text_ok : ∀ (h : Nat) (y : L) (R : RO), y.t.ht ≤ h → y.ok R → y.t.good → y.t.wt ≤ 1000000 → TabR R → Gives Tryd.prog 32 [y.v] R [] (.ret (.string (T.txt y.t))) [] := by
  intro h
  induction h with
  | zero => intro y R hh; have := T.ht_pos y.t; omega
  | succ h ih =>
    intro y R hh hy hg hw hT
    have hg' := (L.good_eq y).1 hg
    exact text_own y R (fun j S hS hTS hj => ih (y.kid j) S (by have := L.ht_kid hj; omega) (hS.kid hj) (hg'.2.2.2 j hj) (by have := L.wt_kid y hj; omega) hTS) hy hg hw hT
      (fun h1 h2 h3 => by rcases hg'.2.2.1 with h | h | h | h <;> first | exact h | omega)

set_option maxRecDepth 100000 in
set_option maxHeartbeats 4000000 in
theorem norm_ok (y : L) (R : RO) (hy : y.ok R) (hw : y.t.wt ≤ 1000000) : Does Tryd.prog 18 [.agg #[.int .i64 y.k, .int .u32 y.id, .string y.s, .slice y.aa y.n y.ac, .slice y.pa y.m y.pc]] R [] (fun (r : Out) (G : RO) (B : Hp) => ∃ x : L, (x.ok G ∧ x.t = T.nrm 1 y.t) ∧ r = .ret (.agg #[.int .i64 x.k, .int .u32 x.id, .string x.s, .slice x.aa x.n x.ac, .slice x.pa x.m x.pc]) ∧ B = []) :=
  Does.of_wp_eq (VC := (∀ a0 : Nat, ∀ a1 : Nat, (a0 = a0) ∧ (Does Tryd.prog 31 [.agg #[.int .i64 y.k, .int .u32 y.id, .string y.s, .slice y.aa y.n y.ac, .slice y.pa y.m y.pc], .int .i64 1] R [] (fun r G B => ∃ z2 : L, (z2.ok G ∧ z2.t = T.nrm 1 y.t) ∧ r = .ret (.agg #[.int .i64 z2.k, .int .u32 z2.id, .string z2.s, .slice z2.aa z2.n z2.ac, .slice z2.pa z2.m z2.pc]) ∧ B = [])) ∧ ∀ (z2 : L) (G3 : RO), R.le G3 → (z2.ok G3 ∧ z2.t = T.nrm 1 y.t) → (a1 = a1) ∧ (a1 = a1) ∧ (fun (r : Out) (G : RO) (B : Hp) => ∃ x : L, (x.ok G ∧ x.t = T.nrm 1 y.t) ∧ r = .ret (.agg #[.int .i64 x.k, .int .u32 x.id, .string x.s, .slice x.aa x.n x.ac, .slice x.pa x.m x.pc]) ∧ B = []) (.ret (.agg #[.int .i64 z2.k, .int .u32 z2.id, .string z2.s, .slice z2.aa z2.n z2.ac, .slice z2.pa z2.m z2.pc])) G3 [])) (.opn 0 (fun a0 => (.opn 1 (fun a1 => (ops [.p 0] (.opg [] [] (L) (fun z2 G => z2.ok G ∧ z2.t = T.nrm 1 y.t) (fun z2 => (.agg #[.int .i64 z2.k, .int .u32 z2.id, .string z2.s, .slice z2.aa z2.n z2.ac, .slice z2.pa z2.m z2.pc], [])) (fun z2 => (ops [.p 1] (.fin [] [(1, none)]))))))))) Tryd.func18 (by kernel_rfl) (by kernel_rfl)
    (fun a0 => fun a1 => ⟨rfl, ⟨(normal_ok 40 1 rfl y R hy hw), fun z2 G3 hG3 qz2 => (have hy := L.ok_mono hG3 _ hy; ⟨rfl, ⟨rfl, ⟨z2, qz2, (by rfl), (by rfl)⟩⟩⟩)⟩⟩)

set_option maxRecDepth 100000 in
set_option maxHeartbeats 4000000 in
theorem texu_own (y : L) (R : RO) (hy : y.ok R) (hw : y.t.wt ≤ 1000000) (ho : y.t.okn) (hT : TabR R) : Does Tryd.prog 19 [.agg #[.int .i64 y.k, .int .u32 y.id, .string y.s, .slice y.aa y.n y.ac, .slice y.pa y.m y.pc]] R [] (fun (r : Out) (G : RO) (B : Hp) => ∃ x : Unit, (True) ∧ r = .ret (.string (T.txt (T.nrm 1 y.t))) ∧ B = []) :=
  Does.of_wp_eq (VC := (∀ a0 : Nat, (a0 = a0) ∧ (Does Tryd.prog 18 [.agg #[.int .i64 y.k, .int .u32 y.id, .string y.s, .slice y.aa y.n y.ac, .slice y.pa y.m y.pc]] R [] (fun r G B => ∃ z1 : L, (z1.ok G ∧ z1.t = T.nrm 1 y.t) ∧ r = .ret (.agg #[.int .i64 z1.k, .int .u32 z1.id, .string z1.s, .slice z1.aa z1.n z1.ac, .slice z1.pa z1.m z1.pc]) ∧ B = [])) ∧ ∀ (z1 : L) (G2 : RO), R.le G2 → (z1.ok G2 ∧ z1.t = T.nrm 1 y.t) → (Gives Tryd.prog 32 [.agg #[.int .i64 z1.k, .int .u32 z1.id, .string z1.s, .slice z1.aa z1.n z1.ac, .slice z1.pa z1.m z1.pc]] G2 [] (.ret (.string (T.txt (T.nrm 1 y.t)))) []) ∧ (fun (r : Out) (G : RO) (B : Hp) => ∃ x : Unit, (True) ∧ r = .ret (.string (T.txt (T.nrm 1 y.t))) ∧ B = []) (.ret (.string (T.txt (T.nrm 1 y.t)))) G2 [])) (.opn 0 (fun a0 => (ops [.d, .p 0] (.opg [] [] (L) (fun z1 G => z1.ok G ∧ z1.t = T.nrm 1 y.t) (fun z1 => (.agg #[.int .i64 z1.k, .int .u32 z1.id, .string z1.s, .slice z1.aa z1.n z1.ac, .slice z1.pa z1.m z1.pc], [])) (fun z1 => (ops [.call0 [] [] (fun e v => .ret (.string (T.txt (T.nrm 1 y.t)))) (fun e v => []), .d] (.fin [] []))))))) Tryd.func19 (by kernel_rfl) (by kernel_rfl)
    (fun a0 => ⟨rfl, ⟨(norm_ok y R hy hw), fun z1 G2 hG2 qz1 => (have hy := L.ok_mono hG2 _ hy; have hT := tab_mono hG2 hT; ⟨(by rw [← qz1.2]; exact text_ok _ z1 G2 (Nat.le_refl _) qz1.1 (by rw [qz1.2]; exact T.good_nrm 1 _ ho) (by rw [qz1.2]; exact Nat.le_trans (T.wt_nrm 1 _) hw) hT), ⟨(), trivial, (by rfl), (by rfl)⟩⟩)⟩⟩)


theorem texu_ok (y : L) (R : RO) (hy : y.ok R) (hw : y.t.wt ≤ 1000000) (ho : y.t.okn) (hT : TabR R) : Gives Tryd.prog 19 [y.v] R [] (.ret (.string (T.txt (T.nrm 1 y.t)))) [] :=
  Does.forget ((texu_own y R hy hw ho hT).mono (by rintro o G B hle ⟨-, -, rfl, rfl⟩; exact ⟨rfl, rfl⟩))

set_option maxRecDepth 100000 in
set_option maxHeartbeats 4000000 in
theorem same_ok (y z : L) (R : RO) (hy : y.ok R) (hw : y.t.wt ≤ 1000000) (ho : y.t.okn) (hy' : z.ok R) (hw' : z.t.wt ≤ 1000000) (ho' : z.t.okn) (hT : TabR R) : Gives Tryd.prog 12 [.agg #[.int .i64 y.k, .int .u32 y.id, .string y.s, .slice y.aa y.n y.ac, .slice y.pa y.m y.pc], .agg #[.int .i64 z.k, .int .u32 z.id, .string z.s, .slice z.aa z.n z.ac, .slice z.pa z.m z.pc]] R [] (.ret (.bool ((T.txt (T.nrm 1 y.t)).toList == (T.txt (T.nrm 1 z.t)).toList))) [] :=
  Does.of_wp_eq (VC := (∀ a0 : Nat, ∀ a1 : Nat, (a0 = a0) ∧ (Gives Tryd.prog 19 [.agg #[.int .i64 y.k, .int .u32 y.id, .string y.s, .slice y.aa y.n y.ac, .slice y.pa y.m y.pc]] R [] (.ret (.string (T.txt (T.nrm 1 y.t)))) []) ∧ (a1 = a1) ∧ (Gives Tryd.prog 19 [.agg #[.int .i64 z.k, .int .u32 z.id, .string z.s, .slice z.aa z.n z.ac, .slice z.pa z.m z.pc]] R [] (.ret (.string (T.txt (T.nrm 1 z.t)))) []) ∧ GQ R (.ret (.bool ((T.txt (T.nrm 1 y.t)).toList == (T.txt (T.nrm 1 z.t)).toList))) [] (.ret (.bool ((T.txt (T.nrm 1 y.t)).toList == (T.txt (T.nrm 1 z.t)).toList))) R [])) (.opn 0 (fun a0 => (.opn 1 (fun a1 => (ops [.d] (.dr [some (.p 0), some (.call0 [] [] (fun e v => .ret (.string (T.txt (T.nrm 1 y.t)))) (fun e v => [])), some (.p 1), some (.call0 [] [] (fun e v => .ret (.string (T.txt (T.nrm 1 z.t)))) (fun e v => [])), some (.d), some (.d)] (.fin [] []))))))) Tryd.func12 (by kernel_rfl) (by kernel_rfl)
    (fun a0 => fun a1 => ⟨rfl, ⟨(texu_ok y R hy hw ho hT), ⟨rfl, ⟨(texu_ok z R hy' hw' ho' hT), ⟨rfl, (by rfl), (by rfl)⟩⟩⟩⟩⟩)


/-- A power, of what lies elsewhere. -/
def powL (a : Nat) (y : L) (lv : Option Addr) (ln lc LB LO : Nat) (f : Nat → PW) : L := ⟨4, 0, .empty, some ⟨a, 0, none⟩, 1, 1, a, 0, fun _ => y, lv, ln, lc, LB, LO, f⟩
theorem powL_t (a : Nat) (y : L) (lv : Option Addr) (ln lc LB LO : Nat) (f : Nat → PW) : (powL a y lv ln lc LB LO f).t = .mk 4 0 .empty [y.t] ((List.range ln).map f) := rfl
theorem powL_ok (a : Nat) (y : L) (lv : Option Addr) (ln lc LB LO : Nat) (f : Nat → PW) (R : RO) (hc : R.cells a 0 y.row) (hy : y.ok R) (hl : ln ≤ lc ∧ lc ≤ maxLen) (hx : ∀ j, j < ln → lv = some ⟨LB, LO, none⟩ ∧ R.cells LB (LO + j * 2) [.int .u32 (f j).1, .int .i64 (f j).2]) : (powL a y lv ln lc LB LO f).ok R := by
  rw [L.ok_eq]
  refine ⟨⟨Nat.le_refl 1, by simp [powL, maxLen], hl⟩, fun j hj => ?_, hx⟩
  have hj : j < 1 := hj
  have : j = 0 := by omega
  subst this
  exact ⟨rfl, hc, hy⟩
theorem raise_call (a : Nat) (y : L) (lv : Option Addr) (ln lc LB LO : Nat) (f : Nat → PW) (R : RO) (hy : y.ok R) (hw : y.t.wt + 400 + 60 * ln ≤ 1000000) (hl : ln ≤ lc ∧ lc ≤ maxLen) (hx : ∀ j, j < ln → lv = some ⟨LB, LO, none⟩ ∧ R.cells LB (LO + j * 2) [.int .u32 (f j).1, .int .i64 (f j).2]) :
    Does Tryd.prog 18 [.agg #[.int .i64 4, .int .u32 0, .string .empty, .slice (some ⟨a, 0, none⟩) 1 1, .slice lv ln lc]] R [some (a, .row y.row 30 5)]
      (fun r G B => ∃ z : L, (z.ok G ∧ z.t = T.nrm 1 (.mk 4 0 .empty [y.t] ((List.range ln).map f))) ∧ r = .ret z.v ∧ B = [none]) :=
  (Does.give fun S hS hc => norm_ok (powL a y lv ln lc LB LO f) S (powL_ok a y lv ln lc LB LO f S hc (L.ok_mono hS _ hy) hl (hx_mono hS hx)) (by
    rw [powL_t]; show 300 + 2 * 0 + 60 * ((List.range ln).map f).length + (y.t.wt + 1 + 0) ≤ _; rw [List.length_map, List.length_range]; omega)).mono (by
    rintro o G B hle ⟨B', rfl, z, ⟨h1, h2⟩, rfl, rfl⟩
    exact ⟨z, ⟨h1, h2⟩, rfl, rfl⟩)

set_option maxRecDepth 100000 in
set_option maxHeartbeats 4000000 in
theorem raise_ok (y : L) (lv : Option Addr) (ln lc LB LO : Nat) (f : Nat → PW) (R : RO) (hy : y.ok R) (hw : y.t.wt + 400 + 60 * ln ≤ 1000000) (hl : ln ≤ lc ∧ lc ≤ maxLen) (hx : ∀ j, j < ln → lv = some ⟨LB, LO, none⟩ ∧ R.cells LB (LO + j * 2) [.int .u32 (f j).1, .int .i64 (f j).2]) : Does Tryd.prog 10 [.agg #[.int .i64 y.k, .int .u32 y.id, .string y.s, .slice y.aa y.n y.ac, .slice y.pa y.m y.pc], .slice lv ln lc] R [] (fun (r : Out) (G : RO) (B : Hp) => ∃ x : L, (x.ok G ∧ x.t = T.nrm 1 (.mk 4 0 .empty [y.t] ((List.range ln).map f))) ∧ r = .ret (.agg #[.int .i64 x.k, .int .u32 x.id, .string x.s, .slice x.aa x.n x.ac, .slice x.pa x.m x.pc]) ∧ B = []) :=
  Does.of_wp_eq (VC := (∀ a0 : Nat, ∀ a1 : Nat, (a0 = a0) ∧ ∀ a2 : Nat, (Does Tryd.prog 18 [.agg #[.int .i64 4, .int .u32 0, .string ByteArray.empty, .slice (some ⟨a2, 0, none⟩) 1 1, .slice lv ln lc]] R [some (a2, .row [.int .i64 y.k, .int .u32 y.id, .string y.s, .slice y.aa y.n y.ac, .slice y.pa y.m y.pc] 30 5)] (fun r G B => ∃ z3 : L, (z3.ok G ∧ z3.t = T.nrm 1 (.mk 4 0 .empty [y.t] ((List.range ln).map f))) ∧ r = .ret (.agg #[.int .i64 z3.k, .int .u32 z3.id, .string z3.s, .slice z3.aa z3.n z3.ac, .slice z3.pa z3.m z3.pc]) ∧ B = [none])) ∧ ∀ (z3 : L) (G4 : RO), R.le G4 → (z3.ok G4 ∧ z3.t = T.nrm 1 (.mk 4 0 .empty [y.t] ((List.range ln).map f))) → (a1 = a1) ∧ (a1 = a1) ∧ (fun (r : Out) (G : RO) (B : Hp) => ∃ x : L, (x.ok G ∧ x.t = T.nrm 1 (.mk 4 0 .empty [y.t] ((List.range ln).map f))) ∧ r = .ret (.agg #[.int .i64 x.k, .int .u32 x.id, .string x.s, .slice x.aa x.n x.ac, .slice x.pa x.m x.pc]) ∧ B = []) (.ret (.agg #[.int .i64 z3.k, .int .u32 z3.id, .string z3.s, .slice z3.aa z3.n z3.ac, .slice z3.pa z3.m z3.pc])) G4 [])) (.opn 0 (fun a0 => (.opn 1 (fun a1 => (ops [.p 0] (.opn 2 (fun a2 => (ops [.d, .d] (.opg [2] [] (L) (fun z3 G => z3.ok G ∧ z3.t = T.nrm 1 (.mk 4 0 .empty [y.t] ((List.range ln).map f))) (fun z3 => (.agg #[.int .i64 z3.k, .int .u32 z3.id, .string z3.s, .slice z3.aa z3.n z3.ac, .slice z3.pa z3.m z3.pc], [none])) (fun z3 => (ops [.p 1] (.fin [] [(1, none)])))))))))))) Tryd.func10 (by kernel_rfl) (by kernel_rfl)
    (fun a0 => fun a1 => ⟨rfl, fun a2 => ⟨(raise_call _ y lv ln lc LB LO f R hy hw hl hx), fun z3 G4 hG4 qz3 => (have hy := L.ok_mono hG4 _ hy; ⟨rfl, ⟨rfl, ⟨z3, qz3, (by rfl), (by rfl)⟩⟩⟩)⟩⟩)


theorem T.htL_snoc (l : List T) (a : T) : T.htL (l ++ [a]) = max (T.htL l) a.ht := by
  induction l with
  | nil => show max a.ht 0 = max 0 a.ht; omega
  | cons x l ih => show max x.ht (T.htL (l ++ [a])) = max (max x.ht (T.htL l)) a.ht; rw [ih]; omega
theorem mx_nat (a b : Nat) : mx ((a : Nat) : Int) ((b : Nat) : Int) = ((max a b : Nat) : Int) := by unfold mx; split <;> omega
theorem T.ht_wt : ∀ (n : Nat) (t : T), t.wt ≤ n → t.ht ≤ t.wt := by
  intro n
  induction n with
  | zero => intro t h; have := T.wt_300 t; omega
  | succ n ih =>
    intro t h
    cases t with
    | mk k i s xs ps =>
      have h0 : T.wt (.mk k i s xs ps) = 300 + 2 * s.size + 60 * ps.length + T.wtL xs := rfl
      have h1 : T.ht (.mk k i s xs ps) = T.htL xs + 1 := rfl
      have key : ∀ l : List T, T.wtL l ≤ n → T.htL l ≤ T.wtL l := by
        intro l
        induction l with
        | nil => intro _; exact Nat.le_refl _
        | cons a l ihl =>
          intro hl
          have h2 : T.wtL (a :: l) = a.wt + 1 + T.wtL l := rfl
          have h3 : T.htL (a :: l) = max a.ht (T.htL l) := rfl
          have := ih a (by omega)
          have := ihl (by omega)
          omega
      have := key xs (by omega)
      omega

theorem L.ht_eq (y : L) : y.t.ht = T.htL ((List.range y.n).map fun i => (y.kid i).t) + 1 := by rw [L.t_eq]; rfl

noncomputable def depth_own_L3_inv (y : L) (a0 : Nat)  : Nat × Int × (Nat → Value) → St := fun zx => ⟨(.agg #[.int .i64 y.k, .int .u32 y.id, .string y.s, .slice y.aa y.n y.ac, .slice y.pa y.m y.pc] :: .pointer (some ⟨a0, 0, none⟩) :: .int .i64 0 :: .int .i64 zx.2.1 :: undef :: (zx.2.2 5) :: .pointer (some ⟨a0, 3, none⟩) :: .slice y.aa y.n y.ac :: .int .i64 ((y.n : Nat) : Int) :: .int .i64 ((zx.1 : Nat) : Int) :: urun zx.2.2 10 8 (undef :: undef :: [])), [], [some (a0, .row [.int .i64 y.k, .int .u32 y.id, .string y.s, .slice y.aa y.n y.ac, .slice y.pa y.m y.pc] 30 5)]⟩
def depth_own_L3_I (y : L) (a0 : Nat)  (R : RO) : Nat × Int × (Nat → Value) → RO → Prop := fun zx G => G = R ∧ (zx.1 ≤ y.n ∧ zx.2.1 = ((T.htL ((List.range zx.1).map fun i => (y.kid i).t) : Nat) : Int))
def depth_own_L3_mu (y : L) (a0 : Nat)  : Nat × Int × (Nat → Value) → Nat := fun zx => y.n - zx.1
noncomputable def depth_own_L3_K (y : L) (a0 : Nat)  (R : RO) : Exit' → St → RO → Prop := altPost R (.alt (Nat × Int × (Nat → Value)) (fun zx => zx.1 = y.n ∧ zx.2.1 = ((T.htL ((List.range zx.1).map fun i => (y.kid i).t) : Nat) : Int)) (fun zx => (.exit 0, ((depth_own_L3_inv y a0 zx).up [] [some (a0, .row [.int .i64 y.k, .int .u32 y.id, .string y.s, .slice y.aa y.n y.ac, .slice y.pa y.m y.pc] 30 5)]))) (fun _ => .altn) .altn)
set_option maxRecDepth 100000 in
set_option maxHeartbeats 4000000 in
theorem depth_own_L3_body (y : L) (a0 : Nat)  (R : RO) (hrec : ∀ (j : Nat) (R : RO), y.ok R → j < y.n → Gives Tryd.prog 11 [(y.kid j).v] R [] (.ret (.int .i64 (((y.kid j).t.ht : Nat) : Int))) []) (hy : y.ok R) (hw : y.t.wt ≤ 1000000) (j : Nat) (h6 : Int) (u1 : Nat → Value) (hI : j ≤ y.n ∧ h6 = ((T.htL ((List.range j).map fun i => (y.kid i).t) : Nat) : Int)) : CT Tryd.prog (sub (bodyOf Tryd.f11) [1, 1, 0, 1, 0, 0]) (depth_own_L3_inv y a0 (j, h6, u1)) R (LK (depth_own_L3_inv y a0) (depth_own_L3_I y a0 R) (depth_own_L3_mu y a0) (depth_own_L3_K y a0 R) (j, h6, u1)) :=
  CT.of_wp_eq (VC := (let z3 : List Value := [.int .i64 y.k, .int .u32 y.id, .string y.s, .slice y.aa y.n y.ac, .slice y.pa y.m y.pc]; let z2 := (((y.kid j).t.ht : Nat) : Int); let z1 : List Value := [.int .i64 ((y.kid j).k), .int .u32 ((y.kid j).id), .string ((y.kid j).s), .slice (y.kid j).aa ((y.kid j).n) ((y.kid j).ac), .slice (y.kid j).pa ((y.kid j).m) ((y.kid j).pc)]; let z0 : Array Value := #[.int .i64 ((y.kid j).k), .int .u32 ((y.kid j).id), .string ((y.kid j).s), .slice (y.kid j).aa ((y.kid j).n) ((y.kid j).ac), .slice (y.kid j).pa ((y.kid j).m) ((y.kid j).pc)]; ((decide (((j : Nat) : Int) < ((y.n : Nat) : Int))) = true → (y.aa = some ⟨y.AB, y.AO, none⟩ ∧ (0 : Int) ≤ ((j : Nat) : Int) ∧ (((j : Nat) : Int) : Int) < ((y.n : Nat) : Int)) ∧ (R.cells y.AB (y.AO + Int.toNat ((j : Nat) : Int) * 5) z1) ∧ ∀ a53 : Nat, (a53 = a53) ∧ (a53 = a53) ∧ (Gives Tryd.prog 11 [.agg z0] R [] (.ret (.int .i64 z2)) []) ∧ (NW .i64 (((j : Nat) : Int) + 1)) ∧ LK (depth_own_L3_inv y a0) (depth_own_L3_I y a0 R) (depth_own_L3_mu y a0) (depth_own_L3_K y a0 R) (j, h6, u1) .normal ⟨[.agg #[.int .i64 y.k, .int .u32 y.id, .string y.s, .slice y.aa y.n y.ac, .slice y.pa y.m y.pc], .pointer (some ⟨a0, 0, none⟩), .int .i64 0, .int .i64 (mx h6 z2), undef, .pointer (some ⟨a53, 0, none⟩), .pointer (some ⟨a0, 3, none⟩), .slice y.aa y.n y.ac, .int .i64 ((y.n : Nat) : Int), .int .i64 (((j : Nat) : Int) + 1), .bool true, .pointer (some ⟨y.AB, y.AO + Int.toNat ((j : Nat) : Int) * 5, none⟩), .agg z0, .int .i64 h6, .agg z0, .int .i64 z2, .int .i64 (mx h6 z2), .int .i64 (((j : Nat) : Int) + 1), undef, undef], [], [some (a0, .row z3 30 5), some (a53, .row z1 30 5)]⟩ R) ∧ ((decide (((j : Nat) : Int) < ((y.n : Nat) : Int))) = false → LK (depth_own_L3_inv y a0) (depth_own_L3_I y a0 R) (depth_own_L3_mu y a0) (depth_own_L3_K y a0 R) (j, h6, u1) (.exit 0) ((depth_own_L3_inv y a0 (j, h6, u1)).up [(10, .bool false)] [some (a0, .row z3 30 5)]) R))) (ops [.d] (.sp 10 (ops [.ib y.AB y.AO, .ro (fun v => [.int .i64 ((y.kid j).k), .int .u32 ((y.kid j).id), .string ((y.kid j).s), .slice (y.kid j).aa ((y.kid j).n) ((y.kid j).ac), .slice (y.kid j).pa ((y.kid j).m) ((y.kid j).pc)])] (.opn 1 (fun a53 => (ops [.p 1, .d, .p 1, .call0 [] [] (fun e v => .ret (.int .i64 (((y.kid j).t.ht : Nat) : Int))) (fun e v => []), .d, .d, .nw, .d] (.fin [] []))))) (.fin [] []))) (by kernel_rfl)
    (⟨fun h52 => (have := of_decide_eq_true h52; ⟨⟨(hy.arg (j := j) (by omega)).1, by omega, by omega⟩, ⟨(hy.arg (j := j) (by omega)).2, fun a53 => ⟨rfl, ⟨rfl, ⟨(hrec j R hy (by omega)), ⟨(nwI (by have h8 := T.ht_wt _ y.t (Nat.le_refl _); have h7 := L.wt_n y; have h6 := L.ht_eq y; omega) (by have h8 := T.ht_wt _ y.t (Nat.le_refl _); have h7 := L.wt_n y; have h6 := L.ht_eq y; omega)), LKn (fun zw => ((j + 1), (mx h6 (((y.kid j).t.ht : Nat) : Int)), zw)) ⟨⟨rfl, (show (j + 1) ≤ y.n ∧ (mx h6 (((y.kid j).t.ht : Nat) : Int)) = ((T.htL ((List.range (j + 1)).map fun i => (y.kid i).t) : Nat) : Int) from ⟨by omega, (by rw [hI.2, mx_nat, List.range_succ, List.map_append, List.map_singleton, T.htL_snoc])⟩)⟩, (show y.n - (j + 1) < y.n - j from (by omega)), ⟨rfl, rfl, rfl⟩⟩⟩⟩⟩⟩⟩⟩), fun h52 => (have := of_decide_eq_false h52; altA (fun zw => (j, h6, zw)) ⟨(show j = y.n ∧ h6 = ((T.htL ((List.range j).map fun i => (y.kid i).t) : Nat) : Int) from ⟨by omega, hI.2⟩), (by show _ = _; kernel_rfl), ⟨(by show _ = _; kernel_rfl), (by show _ = _; kernel_rfl), (by show _ = _; kernel_rfl)⟩⟩)⟩)
theorem depth_own_L3_ct (y : L) (a0 : Nat)  (R : RO) (hrec : ∀ (j : Nat) (R : RO), y.ok R → j < y.n → Gives Tryd.prog 11 [(y.kid j).v] R [] (.ret (.int .i64 (((y.kid j).t.ht : Nat) : Int))) []) (hy : y.ok R) (hw : y.t.wt ≤ 1000000)  : CT Tryd.prog (sub (bodyOf Tryd.f11) [1, 1, 0, 1, 0]) ⟨(.agg #[.int .i64 y.k, .int .u32 y.id, .string y.s, .slice y.aa y.n y.ac, .slice y.pa y.m y.pc] :: .pointer (some ⟨a0, 0, none⟩) :: .int .i64 0 :: .int .i64 0 :: undef :: undef :: .pointer (some ⟨a0, 3, none⟩) :: .slice y.aa y.n y.ac :: .int .i64 ((y.n : Nat) : Int) :: .int .i64 0 :: uns 10 []), [], [some (a0, .row [.int .i64 y.k, .int .u32 y.id, .string y.s, .slice y.aa y.n y.ac, .slice y.pa y.m y.pc] 30 5)]⟩ R (depth_own_L3_K y a0 R) :=
  CT.loop_eqs (depth_own_L3_inv y a0) (depth_own_L3_I y a0 R) (depth_own_L3_mu y a0) (fun zw => (0, 0, zw)) (by kernel_rfl) (by kernel_rfl) ⟨rfl, (show 0 ≤ y.n ∧ 0 = ((T.htL ((List.range 0).map fun i => (y.kid i).t) : Nat) : Int) from ⟨Nat.zero_le _, rfl⟩)⟩
    (by
      rintro ⟨j, h6, u1⟩ G hG ⟨rfl, hI⟩
      exact depth_own_L3_body y a0 _ hrec hy hw j h6 u1 hI)
set_option maxRecDepth 100000 in
set_option maxHeartbeats 4000000 in
theorem depth_own (y : L) (R : RO) (hrec : ∀ (j : Nat) (R : RO), y.ok R → j < y.n → Gives Tryd.prog 11 [(y.kid j).v] R [] (.ret (.int .i64 (((y.kid j).t.ht : Nat) : Int))) []) (hy : y.ok R) (hw : y.t.wt ≤ 1000000) : Gives Tryd.prog 11 [.agg #[.int .i64 y.k, .int .u32 y.id, .string y.s, .slice y.aa y.n y.ac, .slice y.pa y.m y.pc]] R [] (.ret (.int .i64 ((y.t.ht : Nat) : Int))) [] :=
  Does.of_wp_eq (VC := (∀ a0 : Nat, (a0 = a0) ∧ (CT Tryd.prog (sub (bodyOf Tryd.f11) [1, 1, 0, 1, 0]) ⟨(.agg #[.int .i64 y.k, .int .u32 y.id, .string y.s, .slice y.aa y.n y.ac, .slice y.pa y.m y.pc] :: .pointer (some ⟨a0, 0, none⟩) :: .int .i64 0 :: .int .i64 0 :: undef :: undef :: .pointer (some ⟨a0, 3, none⟩) :: .slice y.aa y.n y.ac :: .int .i64 ((y.n : Nat) : Int) :: .int .i64 0 :: uns 10 []), [], [some (a0, .row [.int .i64 y.k, .int .u32 y.id, .string y.s, .slice y.aa y.n y.ac, .slice y.pa y.m y.pc] 30 5)]⟩ R (depth_own_L3_K y a0 R)) ∧ (∀ x2 : Nat × Int × (Nat → Value), (x2.1 = y.n ∧ x2.2.1 = ((T.htL ((List.range x2.1).map fun i => (y.kid i).t) : Nat) : Int)) → (NW .i64 (x2.2.1 + 1)) ∧ GQ R (.ret (.int .i64 ((y.t.ht : Nat) : Int))) [] (.ret (.int .i64 (x2.2.1 + 1))) R []) ∧ True)) (.opn 0 (fun a0 => (ops [.d, .d, .d, .p 0, .d, .d] (.alt (Nat × Int × (Nat → Value)) (fun zx => zx.1 = y.n ∧ zx.2.1 = ((T.htL ((List.range zx.1).map fun i => (y.kid i).t) : Nat) : Int)) (fun zx => (.exit 0, ((depth_own_L3_inv y a0 zx).up [] [some (a0, .row [.int .i64 y.k, .int .u32 y.id, .string y.s, .slice y.aa y.n y.ac, .slice y.pa y.m y.pc] 30 5)]))) (fun x2 => (ops [.d, .nw, .d] (.fin [] []))) .altn)))) Tryd.func11 (by kernel_rfl) (by kernel_rfl)
    (fun a0 => ⟨rfl, ⟨depth_own_L3_ct y a0 R hrec hy hw, ⟨fun x2 qx2 => ⟨(nwI (by have h8 := T.ht_wt _ y.t (Nat.le_refl _); have h6 := L.ht_eq y; have h5 := qx2.2; rw [qx2.1] at h5; omega) (by have h8 := T.ht_wt _ y.t (Nat.le_refl _); have h6 := L.ht_eq y; have h5 := qx2.2; rw [qx2.1] at h5; omega)), ⟨rfl, (by exact congrArg (fun z => Out.ret (.int .i64 z)) (by rw [L.ht_eq, qx2.2, qx2.1]; rfl)), (by rfl)⟩⟩, trivial⟩⟩⟩)


theorem depth_ok : ∀ (h : Nat) (y : L) (R : RO), y.t.ht ≤ h → y.ok R → y.t.wt ≤ 1000000 → Gives Tryd.prog 11 [y.v] R [] (.ret (.int .i64 ((y.t.ht : Nat) : Int))) [] := by
  intro h
  induction h with
  | zero => intro y R hh; have := T.ht_pos y.t; omega
  | succ h ih =>
    intro y R hh hy hw
    exact depth_own y R (fun j S hS hj => ih (y.kid j) S (by have := L.ht_kid hj; omega) (hS.kid hj) (by have := L.wt_kid y hj; omega)) hy hw
end Go.Proofs.YtejpoojgbnppoaaDoor
