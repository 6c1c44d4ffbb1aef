import Derived.Test.YtejpoojgbnppoaaDoorMdC
namespace Go.Proofs.YtejpoojgbnppoaaDoor
open Vc Go
set_option linter.unusedVariables false
set_option linter.unusedSimpArgs false

namespace T
theorem isN_4 {d : Nat} {x : T} (hd : d ≤ 40) (h : isN d x) (h4 : x.k = 4) : ∃ a ps, x = .mk 4 0 .empty [a] ps ∧ a.k ≠ 4 ∧ prod ps = ps ∧ ps ≠ [] := by
  cases x with
  | mk k i s xs ps =>
    have h4 : k = 4 := h4
    rw [isN, if_neg (by omega)] at h
    rcases h with ⟨h, _⟩ | ⟨h, _⟩ | ⟨h, _⟩ | ⟨rfl, rfl, rfl, ⟨a, rfl, ha⟩, h5, h6, h7⟩
    · omega
    · omega
    · omega
    · exact ⟨a, ps, rfl, ha, h6, h7⟩
theorem pow_congr (x : T) {l m : List PW} (h : ∀ a, IntKind.i64.wrap (sm l a) = IntKind.i64.wrap (sm m a)) : pow x l = pow x m := by
  have h1 := prod_congr h
  have h2 : prod (x.ps ++ l) = prod (x.ps ++ m) := prod_congr fun a => by
    rw [sm_append, sm_append, Int.add_comm, ← wrap_add, h a, wrap_add, Int.add_comm]
  unfold pow
  rw [h1, h2]
theorem pow_nil {x : T} {d : Nat} (hd : d ≤ 40) (h : isN d x) : pow x [] = x := by
  by_cases h4 : x.k = 4
  · obtain ⟨a, ps, rfl, ha, hp, hn⟩ := isN_4 hd h h4
    unfold pow
    rw [if_pos (show (mk 4 0 .empty [a] ps).k = 4 from rfl)]
    show (if prod (ps ++ []) = [] then a else .mk 4 0 .empty [a] (prod (ps ++ []))) = _
    rw [List.append_nil, hp, if_neg hn]
  · unfold pow; rw [if_neg h4, if_pos prod_nil]
theorem pow_pow {x : T} {d : Nat} (hd : d ≤ 40) (h : isN d x) (l m : List PW) : pow (pow x l) m = pow x (l ++ m) := by
  have e4 : ∀ (a : T) (ps l : List PW), pow (.mk 4 0 .empty [a] ps) l = if prod (ps ++ l) = [] then a else .mk 4 0 .empty [a] (prod (ps ++ l)) := fun a ps l => by
    unfold pow; rw [if_pos (show (mk 4 0 .empty [a] ps).k = 4 from rfl)]; rfl
  have en : ∀ (a : T) (l : List PW), a.k ≠ 4 → pow a l = if prod l = [] then a else .mk 4 0 .empty [a] (prod l) := fun a l ha => by unfold pow; rw [if_neg ha]
  by_cases h4 : x.k = 4
  · obtain ⟨a, ps, rfl, ha, hp, hn⟩ := isN_4 hd h h4
    rw [e4 a ps l, e4 a ps (l ++ m)]
    by_cases h0 : prod (ps ++ l) = []
    · have : prod (ps ++ (l ++ m)) = prod m := by rw [← List.append_assoc, ← prod_left, h0, List.nil_append]
      rw [if_pos h0, en a m ha, this]
    · rw [if_neg h0, e4, prod_left, List.append_assoc]
  · rw [en x l h4, en x (l ++ m) h4]
    by_cases h0 : prod l = []
    · have : prod (l ++ m) = prod m := by rw [← prod_left, h0, List.nil_append]
      rw [if_pos h0, en x m h4, this]
    · rw [if_neg h0, e4, prod_left]
/-- A term raised, told normally. -/
def rs (t : T) (l : List PW) : T := nrm 1 (.mk 4 0 .empty [t] l)
theorem rs_eq (t : T) (l : List PW) : rs t l = pow (nrm 2 t) l := by
  unfold rs; rw [nrm, if_neg (by decide), if_neg (by decide), if_neg (by decide), if_neg (by decide), if_pos rfl]; rfl
theorem rs_swap (t : T) (p q : PW) : rs t [p, q] = rs t [q, p] := by
  rw [rs_eq, rs_eq]
  exact pow_congr _ fun a => by simp only [sm, List.map_cons, List.map_nil, List.sum_cons, List.sum_nil]; rw [show ∀ x y : Int, x + (y + 0) = y + (x + 0) from fun x y => by omega]
theorem isN_3 {t : T} (h : ht t ≤ 37) : isN 3 (nrm 2 t) := isN_shift 2 3 _ (isN_nrm 2 t) (by have := ht_nrm 2 t; omega)
theorem rs_rs {t : T} (h : ht t ≤ 37) (l m : List PW) : rs (rs t l) m = rs t (l ++ m) := by
  rw [rs_eq, rs_eq t l, nrm_of 2 _ (isN_pow (by decide) (isN_3 h)), pow_pow (d := 3) (by decide) (isN_3 h), rs_eq]
theorem rs_nil (t : T) : rs t [] = nrm 2 t := by rw [rs_eq, pow_nil (d := 2) (by decide) (isN_nrm 2 t)]
theorem nrm_12 {t : T} (h : ht t ≤ 37) : nrm 1 (nrm 2 t) = nrm 1 t := by
  rw [nrm_of 1 _ (isN_down 1 _ (isN_nrm 2 t)), nrm_shift 2 1 t (by omega) (by omega)]
theorem same_none {t : T} (h : ht t ≤ 37) : nrm 1 (rs t []) = nrm 1 t := by rw [rs_nil, nrm_12 h]
theorem same_ab {t : T} (h : ht t ≤ 37) (p q : PW) : nrm 1 (rs t [p, q]) = nrm 1 (rs (rs t [q]) [p]) := by rw [rs_rs h, rs_swap]; rfl
theorem same_back {t : T} (h : ht t ≤ 37) (a n : Int) : nrm 1 (rs (rs t [(a, n)]) [(a, IntKind.i64.wrap (0 - n))]) = nrm 1 t := by
  rw [rs_rs h, ← same_none h, rs_eq, rs_eq]
  congr 1
  refine pow_congr _ fun b => ?_
  show IntKind.i64.wrap ((if a = b then n else 0) + ((if a = b then IntKind.i64.wrap (0 - n) else 0) + 0)) = IntKind.i64.wrap 0
  split
  · rw [wi64, wi64, wi64]; omega
  · rfl
theorem nrm_hash (s : ByteArray) (t : T) (i : Int) : nrm 1 (.mk 3 0 s [t, atom i] []) = .mk 3 0 s [nrm 2 t, nrm 2 (atom i)] [] := by
  rw [nrm, if_neg (by decide), if_neg (by decide), if_neg (by decide), if_pos rfl]; rfl
theorem ht_2 : ht (rs (word (⟨#[120]⟩ : ByteArray)) [(1, 1)]) = 2 := by
  have h1 : (1, 1) ∈ prod [(1, 1)] := prod_mem.2 ⟨by decide, by decide⟩
  rw [rs_eq]
  show ht (pow (word _) [(1, 1)]) = 2
  unfold pow
  rw [if_neg (by decide), if_neg (fun h => by rw [h] at h1; cases h1)]
  rfl
theorem okn_mk {k i : Int} {s : ByteArray} {xs : List T} {ps : List PW} : okn (.mk k i s xs ps) ↔ ((IntKind.i64.min ≤ k ∧ k ≤ IntKind.i64.max) ∧ (0 ≤ i ∧ i ≤ 4294967295) ∧ (∀ p ∈ ps, (0 ≤ p.1 ∧ p.1 ≤ 4294967295) ∧ IntKind.i64.min ≤ p.2 ∧ p.2 ≤ IntKind.i64.max) ∧ oknL xs) := Iff.rfl
mutual
theorem okn_good : ∀ (t : T), good t → okn t
  | .mk k i s xs ps => by
    intro h
    obtain ⟨h1, h2, h3, h4⟩ := h
    refine ⟨?_, h1, fun p hp => ⟨(h2 p hp).1, (h2 p hp).2⟩, oknL_good xs h4⟩
    have e1 : IntKind.i64.min = -9223372036854775808 := by decide
    have e2 : IntKind.i64.max = 9223372036854775807 := by decide
    rcases h3 with rfl | rfl | rfl | ⟨rfl, _⟩ <;> omega
theorem oknL_good : ∀ (l : List T), goodL l → oknL l
  | [], _ => trivial
  | a :: l, h => ⟨okn_good a h.1, oknL_good l h.2⟩
end
theorem okn_nrm (d : Nat) {t : T} (h : okn t) : okn (nrm d t) := okn_good _ (good_nrm d t h)
def pwR (l : List PW) : Prop := ∀ p ∈ l, (0 ≤ p.1 ∧ p.1 ≤ 4294967295) ∧ IntKind.i64.min ≤ p.2 ∧ p.2 ≤ IntKind.i64.max
theorem okn_rs {t : T} {l : List PW} (h : okn t) (hl : pwR l) : okn (rs t l) := okn_nrm 1 ⟨by decide, by decide, hl, h, trivial⟩
theorem wt_rs {t : T} {l : List PW} {n : Nat} (h : t.wt ≤ n) : (rs t l).wt ≤ n + 301 + 60 * l.length :=
  Nat.le_trans (wt_nrm 1 _) (by show 300 + 2 * 0 + 60 * l.length + (t.wt + 1 + 0) ≤ _; omega)
theorem pwR_1 {a n : Int} (h : 0 ≤ a ∧ a ≤ 4294967295) (h' : IntKind.i64.min ≤ n ∧ n ≤ IntKind.i64.max) : pwR [(a, n)] := fun p hp => by
  rcases List.mem_singleton.1 hp with rfl; exact ⟨h, h'⟩
theorem pwR_2 {a n b m : Int} (h : 0 ≤ a ∧ a ≤ 4294967295) (h' : IntKind.i64.min ≤ n ∧ n ≤ IntKind.i64.max) (k : 0 ≤ b ∧ b ≤ 4294967295) (k' : IntKind.i64.min ≤ m ∧ m ≤ IntKind.i64.max) : pwR [(a, n), (b, m)] := fun p hp => by
  rcases List.mem_cons.1 hp with rfl | hp
  · exact ⟨h, h'⟩
  · rcases List.mem_singleton.1 hp with rfl; exact ⟨k, k'⟩
theorem neg_r {n : Int} : IntKind.i64.min ≤ IntKind.i64.wrap (0 - n) ∧ IntKind.i64.wrap (0 - n) ≤ IntKind.i64.max := by
  have e1 : IntKind.i64.min = -9223372036854775808 := by decide
  have e2 : IntKind.i64.max = 9223372036854775807 := by decide
  rw [e1, e2, wi64]; omega
theorem txt_5 : txt (nrm 1 (atom 5)) = (⟨#[35, 53]⟩ : ByteArray) := by
  rw [show nrm 1 (atom 5) = atom 5 from nrm_of 1 _ (by unfold atom; rw [isN, if_neg (by decide)]; exact .inl ⟨rfl, rfl, rfl, rfl⟩)]
  unfold atom; rw [txt, if_pos rfl]; kernel_rfl
end T
theorem L.range_getD (l : List PW) : ((List.range l.length).map fun j => l.getD j (0, 0)) = l := by
  apply List.ext_getElem (by simp)
  intro i h1 h2
  simp [List.getElem?_eq_getElem h2]
theorem pows_cells {G : RO} {a : Nat} {l : List PW} (h : G.cells a 0 (powR l)) : ∀ j, j < l.length → some (⟨a, 0, none⟩ : Addr) = some ⟨a, 0, none⟩ ∧ G.cells a (0 + j * 2) [.int .u32 (l.getD j (0, 0)).1, .int .i64 (l.getD j (0, 0)).2] := fun j hj =>
  ⟨rfl, RO.cells_sub (i := j * 2) h (by show List.take 2 _ = _; rw [powR_at hj]; simp [List.getElem?_eq_getElem hj])⟩
theorem raise2 (y : L) (a : Nat) (l : List PW) (R : RO) (hy : y.ok R) (hw : y.t.wt + 400 + 60 * l.length ≤ 1000000) :
    Does Tryd.prog 10 [y.v, .slice (some ⟨a, 0, none⟩) l.length l.length] R [some (a, .row (powR l) 25 (l.length * 2))] (fun r G B => ∃ z : L, (z.ok G ∧ z.t = T.rs y.t l) ∧ r = .ret z.v ∧ B = [none]) :=
  (Does.give fun S hS hc => raise_ok y (some ⟨a, 0, none⟩) l.length l.length a 0 (fun j => l.getD j (0, 0)) S (L.ok_mono hS _ hy) hw ⟨Nat.le_refl _, by simp only [maxLen]; omega⟩ (pows_cells hc)).mono (by
    rintro o G B hle ⟨B', rfl, z, ⟨h1, h2⟩, rfl, rfl⟩
    rw [L.range_getD] at h2
    exact ⟨z, ⟨h1, h2⟩, rfl, rfl⟩)
theorem raise2v {z : L} {t : T} (y : L) (a : Nat) (l : List PW) (R : RO) (hy : y.ok R) (hw : y.t.wt + 400 + 60 * l.length ≤ 1000000) :
    Does Tryd.prog 10 [y.v, .slice (some ⟨a, 0, none⟩) l.length l.length] R [some (a, .row (powR l) 25 (l.length * 2))] (fun r G B => ∃ z : L, (z.ok G ∧ ∃ t, IsV G y.v t ∧ z.t = T.rs t l) ∧ r = .ret z.v ∧ B = [none]) :=
  (raise2 y a l R hy hw).mono (by
    rintro o G B hle ⟨z, ⟨h1, h2⟩, h3⟩
    exact ⟨z, ⟨h1, y.t, ⟨y, rfl, L.ok_mono hle _ hy, rfl⟩, h2⟩, h3⟩)
theorem rs_det {G : RO} {y z : L} {l : List PW} (h : ∃ t, IsV G y.v t ∧ z.t = T.rs t l) (hy : y.ok G) : z.t = T.rs y.t l := by
  obtain ⟨t, h1, h2⟩ := h
  rw [h2, h1.det hy]
theorem rsv_mono {R S : RO} (h : R.le S) {x : Value} {z : L} {l : List PW} (hi : ∃ t, IsV R x t ∧ z.t = T.rs t l) : ∃ t, IsV S x t ∧ z.t = T.rs t l := hi.elim fun t ht => ⟨t, ht.1.mono h, ht.2⟩
theorem raise0 (y : L) (R : RO) (hy : y.ok R) (hw : y.t.wt + 400 ≤ 1000000) :
    Does Tryd.prog 10 [y.v, .slice none 0 0] R [] (fun r G B => ∃ z : L, (z.ok G ∧ z.t = T.rs y.t []) ∧ r = .ret z.v ∧ B = []) :=
  raise_ok y none 0 0 0 0 (fun _ => (0, 0)) R hy (by omega) ⟨Nat.le_refl _, by simp only [maxLen]; omega⟩ (fun j hj => by omega)
theorem same_true (y z : L) (R : RO) (hy : y.ok R) (hw : y.t.wt ≤ 1000000) (ho : y.t.okn) (hy' : z.ok R) (hw' : z.t.wt ≤ 1000000) (ho' : z.t.okn) (hT : TabR R) (e : T.nrm 1 y.t = T.nrm 1 z.t) : Gives Tryd.prog 12 [y.v, z.v] R [] (.ret (.bool true)) [] := by
  have h := same_ok y z R hy hw ho hy' hw' ho' hT
  rw [e] at h
  rwa [show ((T.txt (T.nrm 1 z.t)).toList == (T.txt (T.nrm 1 z.t)).toList) = true from beq_self_eq_true _] at h
def nd2 (A n : Nat) (f : Nat → PW) : ND := ⟨0, 0, .empty, none, 0, 0, 0, 0, fun _ => 0, some ⟨A, 0, none⟩, n, n, A, 0, f⟩
theorem nd2_ok {A : Nat} {l : List PW} {R : RO} (hl : T.pwR l) (hn : l.length ≤ 1048576) (hc : R.cells A 0 (powR l)) : (nd2 A l.length fun j => l.getD j (0, 0)).Ok R :=
  ⟨show IntKind.i64.min ≤ 0 by decide, show 0 ≤ IntKind.i64.max by decide, Int.le_refl 0, show (0 : Int) ≤ 4294967295 by decide, Nat.zero_le _, ⟨Nat.le_refl _, Nat.zero_le _⟩, ⟨Nat.le_refl _, hn⟩, fun i hi => absurd hi (Nat.not_lt_zero _), fun i hi => by
    have hi : i < l.length := hi
    have h2 := hl l[i] (List.getElem_mem ..)
    have e : l.getD i (0, 0) = l[i] := by simp [List.getElem?_eq_getElem hi]
    rw [← e] at h2
    exact ⟨rfl, (pows_cells hc i hi).2, h2⟩⟩
theorem small2 (A B : Nat) (l : List PW) (R : RO) (hl : T.pwR l) (hn : l.length ≤ 1048576) :
    Does Tryd.prog 9 [.slice (some ⟨B, 0, none⟩) 1 1] R [some (B, .row [.int .i64 0, .int .u32 0, .string .empty, .slice none 0 0, .slice (some ⟨A, 0, none⟩) l.length l.length] 36 5), some (A, .row (powR l) 25 (l.length * 2))]
      (fun r G B => ∃ x : Bool, True ∧ r = .ret (.bool x) ∧ B = [none, none]) :=
  (Does.give (Q := fun r G B => ∃ x : Bool, r = .ret (.bool x) ∧ B = [none]) fun S hS hc => (Does.give (Q := fun r G B => ∃ x : Bool, r = .ret (.bool x) ∧ B = []) fun S' hS' hc' =>
    (small_ok (some ⟨B, 0, none⟩) 1 1 B 0 (fun _ => nd2 A l.length fun j => l.getD j (0, 0)) S' (by omega) (fun j hj => by
      have : j = 0 := by omega
      subst this
      exact ⟨rfl, RO.cells_mono hS' hc, nd2_ok hl hn hc'⟩)).mono (by rintro o G B hle ⟨-, x, rfl, rfl⟩; exact ⟨x, rfl, rfl⟩)).mono (by rintro o G B hle ⟨B', rfl, x, rfl, rfl⟩; exact ⟨x, rfl, rfl⟩)).mono (by
    rintro o G B hle ⟨B', rfl, x, rfl, rfl⟩
    exact ⟨x, trivial, rfl, rfl⟩)

set_option maxRecDepth 100000 in
set_option maxHeartbeats 4000000 in
theorem hash_own (y : L) (R : RO) (hv : y.v = .agg #[.int .i64 3, .int .u32 0, .string y.s, .slice y.aa y.n y.ac, .slice none 0 0]) (hy : y.ok R) (hw : y.t.wt ≤ 1000000) : Does Tryd.prog 13 [.string y.s, .slice y.aa y.n y.ac] R [] (fun (r : Out) (G : RO) (B : Hp) => ∃ x : L, (x.ok G ∧ x.t = T.nrm 1 y.t) ∧ r = .ret (.agg #[.int .i64 x.k, .int .u32 x.id, .string x.s, .slice x.aa x.n x.ac, .slice x.pa x.m x.pc]) ∧ B = []) :=
  Does.of_wp_eq (VC := (∀ a0 : Nat, (Does Tryd.prog 18 [.agg #[.int .i64 3, .int .u32 0, .string y.s, .slice y.aa y.n y.ac, .slice none 0 0]] R [] (fun r G B => ∃ z1 : L, (z1.ok G ∧ z1.t = T.nrm 1 y.t) ∧ r = .ret (.agg #[.int .i64 z1.k, .int .u32 z1.id, .string z1.s, .slice z1.aa z1.n z1.ac, .slice z1.pa z1.m z1.pc]) ∧ B = [])) ∧ ∀ (z1 : L) (G2 : RO), R.le G2 → (z1.ok G2 ∧ z1.t = T.nrm 1 y.t) → (a0 = a0) ∧ (a0 = a0) ∧ (fun (r : Out) (G : RO) (B : Hp) => ∃ x : L, (x.ok G ∧ x.t = T.nrm 1 y.t) ∧ r = .ret (.agg #[.int .i64 x.k, .int .u32 x.id, .string x.s, .slice x.aa x.n x.ac, .slice x.pa x.m x.pc]) ∧ B = []) (.ret (.agg #[.int .i64 z1.k, .int .u32 z1.id, .string z1.s, .slice z1.aa z1.n z1.ac, .slice z1.pa z1.m z1.pc])) G2 [])) (.opn 0 (fun a0 => (ops [.d, .d, .d] (.opg [] [] (L) (fun z1 G => z1.ok G ∧ z1.t = T.nrm 1 y.t) (fun z1 => (.agg #[.int .i64 z1.k, .int .u32 z1.id, .string z1.s, .slice z1.aa z1.n z1.ac, .slice z1.pa z1.m z1.pc], [])) (fun z1 => (ops [.p 0] (.fin [] [(0, none)]))))))) Tryd.func13 (by kernel_rfl) (by kernel_rfl)
    (fun a0 => ⟨(hv ▸ norm_ok y R hy hw), fun z1 G2 hG2 qz1 => (have hy := L.ok_mono hG2 _ hy; ⟨rfl, ⟨rfl, ⟨z1, qz1, (by rfl), (by rfl)⟩⟩⟩)⟩)


theorem hash2 (s : ByteArray) (a : Nat) (y z : L) (R : RO) (hy : y.ok R) (hz : z.ok R) (hw : 302 + 2 * s.size + y.t.wt + z.t.wt ≤ 1000000) :
    Does Tryd.prog 13 [.string s, .slice (some ⟨a, 0, none⟩) 2 2] R [some (a, .row (y.row ++ z.row) 30 10)] (fun r G B => ∃ x : L, (x.ok G ∧ x.t = T.nrm 1 (.mk 3 0 s [y.t, z.t] [])) ∧ r = .ret x.v ∧ B = [none]) :=
  (Does.give fun S hS hc => hash_own (hsL (some a) 2 s [y, z]) S rfl
    (hsL_ok (fun x hx => by
      rcases List.mem_cons.1 hx with rfl | hx
      · exact L.ok_mono hS _ hy
      · rcases List.mem_singleton.1 hx with rfl; exact L.ok_mono hS _ hz) (Nat.le_refl _) (by simp [maxLen]) (fun h => by cases h) (fun b hb => by cases hb; rw [show rowsL [y, z] = y.row ++ z.row by simp [rowsL]]; exact hc))
    (by rw [hsL_t]; show 300 + 2 * s.size + 60 * 0 + (y.t.wt + 1 + (z.t.wt + 1 + 0)) ≤ _; omega)).mono (by
    rintro o G B hle ⟨B', rfl, x, ⟨h1, h2⟩, rfl, rfl⟩
    rw [hsL_t] at h2
    exact ⟨x, ⟨h1, h2⟩, rfl, rfl⟩)


theorem T.same_aw : T.nrm 1 (T.rs (T.word (⟨#[97]⟩ : ByteArray)) [(3, 1), (3, (-1))]) = T.nrm 1 (T.word (⟨#[97]⟩ : ByteArray)) := by
  rw [T.rs_eq, show T.pow (T.nrm 2 (T.word (⟨#[97]⟩ : ByteArray))) [(3, 1), (3, (-1))] = T.pow (T.nrm 2 (T.word (⟨#[97]⟩ : ByteArray))) [] from T.pow_congr _ fun b => by
    show IntKind.i64.wrap ((if (3 : Int) = b then 1 else 0) + ((if (3 : Int) = b then -1 else 0) + 0)) = IntKind.i64.wrap 0
    split <;> rfl, T.pow_nil (d := 2) (by decide) (T.isN_nrm 2 _), T.nrm_12 (by decide)]

set_option maxRecDepth 100000 in
set_option maxHeartbeats 4000000 in
theorem awake_own  (R : RO) (hT : TabR R) : Does Tryd.prog 7 [] R [] (fun (r : Out) (G : RO) (B : Hp) => ∃ x : Unit, (True) ∧ r = .ret (.bool true) ∧ B = []) :=
  Does.of_wp_eq (VC := (let z1 : Array Value := #[.int .i64 1, .int .u32 5, .string ByteArray.empty, .slice none 0 0, .slice none 0 0]; let z0 : Array Value := #[.int .i64 2, .int .u32 0, .string (⟨#[97]⟩ : ByteArray), .slice none 0 0, .slice none 0 0]; (Gives Tryd.prog 15 [.string (⟨#[97]⟩ : ByteArray)] R [] (.ret (.agg z0)) []) ∧ ∀ a0 : Nat, (a0 = a0) ∧ (a0 = a0) ∧ ∀ a1 : Nat, (Does Tryd.prog 10 [.agg z0, .slice (some ⟨a1, 0, none⟩) 2 2] R [some (a1, .row [.int .u32 3, .int .i64 1, .int .u32 3, .int .i64 (-1)] 25 4)] (fun r G B => ∃ z2 : L, (z2.ok G ∧ z2.t = T.rs (L.word (⟨#[97]⟩ : ByteArray)).t [(3, 1), (3, (-1))]) ∧ r = .ret (.agg #[.int .i64 z2.k, .int .u32 z2.id, .string z2.s, .slice z2.aa z2.n z2.ac, .slice z2.pa z2.m z2.pc]) ∧ B = [none])) ∧ ∀ (z2 : L) (G3 : RO), R.le G3 → (z2.ok G3 ∧ z2.t = T.rs (L.word (⟨#[97]⟩ : ByteArray)).t [(3, 1), (3, (-1))]) → (a0 = a0) ∧ (Gives Tryd.prog 12 [.agg #[.int .i64 z2.k, .int .u32 z2.id, .string z2.s, .slice z2.aa z2.n z2.ac, .slice z2.pa z2.m z2.pc], .agg z0] G3 [] (.ret (.bool true)) []) ∧ (Gives Tryd.prog 14 [.int .u32 5] G3 [] (.ret (.agg z1)) []) ∧ (Gives Tryd.prog 19 [.agg z1] G3 [] (.ret (.string (⟨#[35, 53]⟩ : ByteArray))) []) ∧ (fun (r : Out) (G : RO) (B : Hp) => ∃ x : Unit, (True) ∧ r = .ret (.bool true) ∧ B = []) (.ret (.bool ((⟨#[35, 53]⟩ : ByteArray).toList == (⟨#[35, 53]⟩ : ByteArray).toList))) G3 [])) (ops [.d, .call0 [] [] (fun e v => .ret (.agg #[.int .i64 2, .int .u32 0, .string (⟨#[97]⟩ : ByteArray), .slice none 0 0, .slice none 0 0])) (fun e v => [])] (.opn 0 (fun a0 => (ops [.p 0] (.dr [some (.p 0), some (.d), some (.d), some (.n 1), some (.callG [1] [] (L) (fun e v z2 G => z2.ok G ∧ z2.t = T.rs (L.word (⟨#[97]⟩ : ByteArray)).t [(3, 1), (3, (-1))]) (fun e v z2 => (.agg #[.int .i64 z2.k, .int .u32 z2.id, .string z2.s, .slice z2.aa z2.n z2.ac, .slice z2.pa z2.m z2.pc], [none]))), some (.p 0), some (.call0 [] [] (fun e v => .ret (.bool true)) (fun e v => [])), some (.d), some (.call0 [] [] (fun e v => .ret (.agg #[.int .i64 1, .int .u32 5, .string ByteArray.empty, .slice none 0 0, .slice none 0 0])) (fun e v => [])), some (.call0 [] [] (fun e v => .ret (.string (⟨#[35, 53]⟩ : ByteArray))) (fun e v => [])), some (.d), some (.d), some (.d)] (.fin [] [])))))) Tryd.func7 (by kernel_rfl) (by kernel_rfl)
    (⟨(word_ok (⟨#[97]⟩ : ByteArray) R), fun a0 => ⟨rfl, ⟨rfl, fun a1 => ⟨(raise2 (L.word (⟨#[97]⟩ : ByteArray)) _ [(3, 1), (3, (-1))] R (L.word_ok _ _) (by rw [(L.word_t _)]; exact Nat.le_trans (Nat.add_le_add_right (Nat.add_le_add_right (show T.wt (T.word (⟨#[97]⟩ : ByteArray)) ≤ 302 from Nat.le_refl _) _) _) (by (try simp only [List.length_cons, List.length_nil]); omega))), fun z2 G3 hG3 qz2 => (have hT := tab_mono hG3 hT; ⟨rfl, ⟨(same_true z2 (L.word (⟨#[97]⟩ : ByteArray)) G3 qz2.1 (by rw [(qz2.2.trans (congrArg (T.rs · [(3, 1), (3, (-1))]) (L.word_t _)))]; exact Nat.le_trans (T.wt_rs (l := [(3, 1), (3, (-1))]) (show T.wt (T.word (⟨#[97]⟩ : ByteArray)) ≤ 302 from Nat.le_refl _)) (by (try simp only [List.length_cons, List.length_nil]); omega)) (by rw [(qz2.2.trans (congrArg (T.rs · [(3, 1), (3, (-1))]) (L.word_t _)))]; exact (T.okn_rs (show T.okn (T.word (⟨#[97]⟩ : ByteArray)) from ⟨by decide, by decide, fun p hp => (by cases hp), trivial⟩) (T.pwR_2 (by decide) (by decide) (by decide) (by decide)))) (L.word_ok _ _) (by rw [(L.word_t _)]; exact Nat.le_trans (show T.wt (T.word (⟨#[97]⟩ : ByteArray)) ≤ 302 from Nat.le_refl _) (by (try simp only [List.length_cons, List.length_nil]); omega)) (by rw [(L.word_t _)]; exact (show T.okn (T.word (⟨#[97]⟩ : ByteArray)) from ⟨by decide, by decide, fun p hp => (by cases hp), trivial⟩)) hT (by rw [(qz2.2.trans (congrArg (T.rs · [(3, 1), (3, (-1))]) (L.word_t _))), (L.word_t _)]; exact T.same_aw)), ⟨(atom_ok 5 G3), ⟨(by have h9 := texu_ok (L.atom 5) G3 (L.atom_ok 5 G3) (by rw [L.atom_t]; decide) (by rw [L.atom_t]; exact ⟨by decide, by decide, fun p hp => (by cases hp), trivial⟩) hT; rw [L.atom_t, T.txt_5] at h9; exact h9), ⟨(), trivial, (by exact congrArg (fun z => Out.ret (.bool z)) (beq_self_eq_true _)), (by rfl)⟩⟩⟩⟩⟩)⟩⟩⟩⟩)


theorem awake_ok (R : RO) (hT : TabR R) : Gives Tryd.prog 7 [] R [] (.ret (.bool true)) [] :=
  Does.forget ((awake_own R hT).mono (by rintro o G B hle ⟨-, -, rfl, rfl⟩; exact ⟨rfl, rfl⟩))
end Go.Proofs.YtejpoojgbnppoaaDoor
