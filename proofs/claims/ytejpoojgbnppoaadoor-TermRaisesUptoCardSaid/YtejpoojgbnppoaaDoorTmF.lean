import Derived.Test.YtejpoojgbnppoaaDoorTmE
namespace Go.Proofs.YtejpoojgbnppoaaDoor
open Vc Go
set_option linter.unusedVariables false
set_option linter.unusedSimpArgs false

def L.word (s : ByteArray) : L := ⟨2, 0, s, none, 0, 0, 0, 0, fun j => j.elim0, none, 0, 0, 0, 0, fun _ => (0, 0)⟩
def L.atom (i : Int) : L := ⟨1, i, .empty, none, 0, 0, 0, 0, fun j => j.elim0, none, 0, 0, 0, 0, fun _ => (0, 0)⟩
theorem L.ok_none {y : L} {R : RO} (h1 : y.n = 0) (h2 : y.m = 0) (h3 : y.ac ≤ maxLen) (h4 : y.pc ≤ maxLen) : y.ok R := by
  rw [L.ok_eq]
  exact ⟨⟨by omega, h3, by omega, h4⟩, fun j hj => by omega, fun j hj => by omega⟩
theorem L.word_ok (s : ByteArray) (R : RO) : (L.word s).ok R := L.ok_none rfl rfl (by simp [L.word, maxLen]) (by simp [L.word, maxLen])
theorem L.atom_ok (i : Int) (R : RO) : (L.atom i).ok R := L.ok_none rfl rfl (by simp [L.atom, maxLen]) (by simp [L.atom, maxLen])
theorem L.word_t (s : ByteArray) : (L.word s).t = T.word s := rfl
theorem L.atom_t (i : Int) : (L.atom i).t = T.atom i := rfl
namespace T
theorem prod_len (l : List PW) : (prod l).length ≤ l.length := prodL_len _ _
theorem wt_300 (t : T) : 300 ≤ wt t := by cases t; simp only [wt]; omega
theorem wt_pow (t : T) (l : List PW) : wt (pow t l) ≤ wt t + 301 + 60 * l.length := by
  obtain ⟨k, i, s, xs, ps⟩ := t
  have e : pow (mk k i s xs ps) l = if k = 4 then (if prod (ps ++ l) = [] then xs.headD (word .empty) else .mk 4 0 .empty [xs.headD (word .empty)] (prod (ps ++ l)))
    else (if prod l = [] then mk k i s xs ps else .mk 4 0 .empty [mk k i s xs ps] (prod l)) := rfl
  rw [e]
  have h1 : wt (xs.headD (word .empty)) ≤ wtL xs + 300 := by
    cases xs with
    | nil => exact Nat.le_add_left _ _
    | cons a l => show wt a ≤ wt a + 1 + wtL l + 300; omega
  have h2 := prod_len (ps ++ l)
  have h3 := prod_len l
  rw [List.length_append] at h2
  have h4 : wt (mk k i s xs ps) = 300 + 2 * s.size + 60 * ps.length + wtL xs := rfl
  by_cases hk : k = 4
  · rw [if_pos hk]
    by_cases hp : prod (ps ++ l) = []
    · rw [if_pos hp]; omega
    · rw [if_neg hp]
      have h5 : wt (mk 4 0 .empty [xs.headD (word .empty)] (prod (ps ++ l))) = 300 + 2 * 0 + 60 * (prod (ps ++ l)).length + (wt (xs.headD (word .empty)) + 1 + 0) := rfl
      cases xs with
      | nil => have : wt (List.headD [] (word .empty)) = 300 := rfl; omega
      | cons a l' =>
        have h6 : List.headD (a :: l') (word .empty) = a := rfl
        have h7 : wtL (a :: l') = wt a + 1 + wtL l' := rfl
        rw [h6] at h5 ⊢
        omega
  · rw [if_neg hk]
    by_cases hp : prod l = []
    · rw [if_pos hp]; omega
    · rw [if_neg hp]
      have h5 : wt (mk 4 0 .empty [mk k i s xs ps] (prod l)) = 300 + 2 * 0 + 60 * (prod l).length + (wt (mk k i s xs ps) + 1 + 0) := rfl
      omega
mutual
theorem wt_nrm : ∀ (d : Nat) (t : T), wt (nrm d t) ≤ wt t
  | d, .mk k i s xs ps => by
    have h := wt_nrmL (d + 1) xs
    have h0 : wt (mk k i s xs ps) = 300 + 2 * s.size + 60 * ps.length + wtL xs := rfl
    have hw : ∀ s, wt (word s) = 300 + 2 * s.size := fun s => by simp [word, wt, wtL]
    have he : wt (word .empty) = 300 := rfl
    have ha : wt (atom i) = 300 := rfl
    rw [nrm]
    split
    · omega
    · split
      · omega
      · split
        · have := hw s; omega
        · split
          · have : wt (mk 3 0 s (nrmL (d + 1) xs) []) = 300 + 2 * s.size + 60 * 0 + wtL (nrmL (d + 1) xs) := rfl
            omega
          · split
            · split
              · rename_i a e
                have h1 := wt_pow a ps
                rw [e] at h
                have : wtL [a] = wt a + 1 + 0 := rfl
                omega
              · omega
            · omega
theorem wt_nrmL : ∀ (d : Nat) (l : List T), wtL (nrmL d l) ≤ wtL l
  | d, [] => Nat.le_refl _
  | d, a :: l => by
    have := wt_nrm d a
    have := wt_nrmL d l
    simp only [nrmL, wtL]; omega
end
/-- A power has what it is raised from. -/
def okp (t : T) : Prop := t.k = 4 → t.xs ≠ []
theorem okp_pow (t : T) (l : List PW) (h : ∀ x ∈ t.xs, x.k ≠ 4) : okp (pow t l) := by
  unfold pow okp
  split
  · split
    · rename_i h4 _
      cases hx : t.xs with
      | nil => intro h0; cases h0
      | cons a l' => intro h0; exact absurd h0 (h a (by rw [hx]; exact List.mem_cons_self ..))
    · intro _ h0; cases h0
  · split
    · rename_i h1 _; exact fun h0 => absurd h0 h1
    · intro _ h0; cases h0
/-- What is within a power told normally is none. -/
def nop (t : T) : Prop := t.k = 4 → ∀ x ∈ t.xs, x.k ≠ 4
theorem nop_pow (t : T) (l : List PW) (h : nop t) : nop (pow t l) := by
  unfold pow nop
  split
  · rename_i h4
    split
    · cases hx : t.xs with
      | nil => intro h0; cases h0
      | cons a l' => intro h0; exact absurd h0 (h h4 a (by rw [hx]; exact List.mem_cons_self ..))
    · intro _ x hx'
      rcases List.mem_singleton.1 hx' with rfl
      cases hx : t.xs with
      | nil => intro h0; cases h0
      | cons a l' => exact h h4 a (by rw [hx]; exact List.mem_cons_self ..)
  · rename_i h4
    split
    · exact fun h0 => absurd h0 h4
    · intro _ x hx'
      rcases List.mem_singleton.1 hx' with rfl
      exact h4
theorem nop_nrm : ∀ (d : Nat) (t : T), nop (nrm d t)
  | d, .mk k i s xs ps => by
    rw [nrm]
    split
    · intro h; cases h
    · split
      · intro h; cases h
      · split
        · intro h; cases h
        · split
          · intro h; cases h
          · split
            · rw [nrmL_map]
              cases xs with
              | nil => intro h; cases h
              | cons a l => cases l with
                | nil => exact nop_pow _ _ (nop_nrm (d + 1) a)
                | cons b l => intro h; cases h
            · intro h; cases h
theorem okp_nrm (d : Nat) (t : T) : okp (nrm d t) := by
  cases t with
  | mk k i s xs ps =>
    rw [nrm]
    split
    · intro h; cases h
    · split
      · intro h; cases h
      · split
        · intro h; cases h
        · split
          · intro h; cases h
          · split
            · rw [nrmL_map]
              cases xs with
              | nil => intro h; cases h
              | cons a l => cases l with
                | nil =>
                  by_cases h4 : (nrm (d + 1) a).k = 4
                  · exact okp_pow _ _ (nop_nrm (d + 1) a h4)
                  · show okp (pow (nrm (d + 1) a) ps)
                    unfold pow okp
                    rw [if_neg h4]
                    split
                    · exact fun h0 => absurd h0 h4
                    · intro _ h0; cases h0
                | cons b l => intro h; cases h
            · intro h; cases h
end T
theorem L.t_k (y : L) : y.t.k = y.k := by rw [L.t_eq]; rfl
theorem L.t_s (y : L) : y.t.s = y.s := by rw [L.t_eq]; rfl
theorem L.t_id (y : L) : y.t.id = y.id := by rw [L.t_eq]; rfl
theorem L.t_ps (y : L) : y.t.ps = y.pl := by rw [L.t_eq]; rfl
theorem L.t_xs (y : L) : y.t.xs = (List.range y.n).map fun j => (y.kid j).t := by rw [L.t_eq]; rfl
theorem L.t_xl (y : L) : y.t.xs.length = y.n := by rw [L.t_xs]; simp
theorem L.wt_eq (y : L) : y.t.wt = 300 + 2 * y.s.size + 60 * y.m + T.wtL ((List.range y.n).map fun j => (y.kid j).t) := by
  have : y.pl.length = y.m := pl_len y
  rw [L.t_eq]; show _ + 60 * y.pl.length + _ = _; rw [this]
theorem L.wt_kid (y : L) {j : Nat} (h : j < y.n) : (y.kid j).t.wt + 60 * y.m + 300 < y.t.wt := by
  rw [L.wt_eq y]
  have := T.wtL_le (l := (List.range y.n).map fun j => (y.kid j).t) (t := (y.kid j).t) (List.mem_map.2 ⟨j, List.mem_range.2 h, rfl⟩)
  omega
theorem L.wt_m (y : L) : 60 * y.m + 300 ≤ y.t.wt := by rw [L.wt_eq]; omega
/-- What normal hands back. -/
inductive NR where
  | done (z : L)
  | hash (b : Option Nat) (cap : Nat) (s : ByteArray) (zs : List L)
def rowsL (zs : List L) : List Value := zs.flatMap L.row
theorem rowsL_len (zs : List L) : (rowsL zs).length = zs.length * 5 := by
  induction zs with
  | nil => rfl
  | cons x l ih =>
    show (x.row ++ rowsL l).length = _
    rw [List.length_append, ih, List.length_cons]
    show 5 + _ = _; omega
theorem rowsL_snoc (zs : List L) (z : L) : rowsL (zs ++ [z]) = rowsL zs ++ z.row := by simp [rowsL]
theorem rowsL_drop : ∀ (l : List L) (j : Nat), (rowsL l).drop (j * 5) = rowsL (l.drop j)
  | l, 0 => by simp
  | [], j + 1 => by simp [rowsL]
  | p :: l, j + 1 => by
    rw [show (j + 1) * 5 = j * 5 + 5 by omega, Nat.add_comm, ← List.drop_drop]
    exact rowsL_drop l j
theorem rowsL_at {l : List L} {j : Nat} (h : j < l.length) : ((rowsL l).drop (j * 5)).take 5 = l[j].row := by
  rw [rowsL_drop, List.drop_eq_getElem_cons h]
  rfl
namespace NR
def b : NR → Option Nat | .done _ => none | .hash b _ _ _ => b
def cap : NR → Nat | .done _ => 0 | .hash _ c _ _ => c
def rows : NR → List Value | .done _ => [] | .hash _ _ _ zs => rowsL zs
def v : NR → Value | .done z => z.v | .hash b c s zs => .agg #[.int .i64 3, .int .u32 0, .string s, gsv b zs.length c, .slice none 0 0]
noncomputable def t : NR → T | .done z => z.t | .hash _ _ s zs => .mk 3 0 s (zs.map L.t) []
def ok (G : RO) : NR → Prop | .done z => z.ok G | .hash b c _ zs => (∀ z ∈ zs, z.ok G) ∧ zs.length ≤ c ∧ c ≤ maxLen ∧ (b = none → c = 0)
end NR
/-- What a row of terms is, left to all. -/
def hsL (b : Option Nat) (cap : Nat) (s : ByteArray) (zs : List L) : L := ⟨3, 0, s, b.map fun a => ⟨a, 0, none⟩, zs.length, cap, b.getD 0, 0, fun j => zs[j], none, 0, 0, 0, 0, fun _ => (0, 0)⟩
theorem hsL_t (b : Option Nat) (cap : Nat) (s : ByteArray) (zs : List L) : (hsL b cap s zs).t = .mk 3 0 s (zs.map L.t) [] := by
  rw [L.t_eq]
  have : ((List.range (hsL b cap s zs).n).map fun j => ((hsL b cap s zs).kid j).t) = zs.map L.t := by
    apply List.ext_getElem (by simp [hsL])
    intro i h1 h2
    simp only [List.length_map] at h2
    simp only [List.getElem_map, List.getElem_range]
    rw [L.kid_pos (y := hsL b cap s zs) h2]
    rfl
  rw [this]; rfl
theorem hsL_ok {G : RO} {b : Option Nat} {cap : Nat} {s : ByteArray} {zs : List L} (hz : ∀ z ∈ zs, z.ok G) (h : zs.length ≤ cap) (hc : cap ≤ maxLen) (hb : b = none → cap = 0) (hcell : ∀ a, b = some a → G.cells a 0 (rowsL zs)) : (hsL b cap s zs).ok G := by
  rw [L.ok_eq]
  refine ⟨⟨h, hc, Nat.le_refl 0, by simp [hsL, maxLen]⟩, fun j hj => ?_, fun j hj => absurd hj (by simp [hsL])⟩
  rw [L.kid_pos hj]
  have hj' : j < zs.length := hj
  cases b with
  | none => have := hb rfl; omega
  | some a =>
    refine ⟨rfl, ?_, hz _ (List.getElem_mem ..)⟩
    exact RO.cells_sub (i := j * 5) (hcell a rfl) (l := zs[j].row) (rowsL_at hj')
theorem nrm_hash {y : L} {d : Nat} {zs : List L} (hd : d ≤ 40) (hk : y.k = 3) (h : zs.map L.t = (List.range y.n).map fun j => T.nrm (d + 1) (y.kid j).t) : T.nrm d y.t = (.mk 3 0 y.s (zs.map L.t) [] : T) := by
  rw [L.t_eq, T.nrm, if_neg (by omega), if_neg (by omega), if_neg (by omega), if_pos hk, T.nrmL_map, List.map_map, h]; rfl
theorem nrm_pow {y : L} {d : Nat} (hd : d ≤ 40) (hk : y.k = 4) (hn : y.n = 1) : T.nrm d y.t = T.pow (T.nrm (d + 1) (y.kid 0).t) y.pl := by
  rw [L.t_eq, T.nrm, if_neg (by omega), if_neg (by omega), if_neg (by omega), if_neg (by omega), if_pos hk, hn]; rfl
theorem nrm_word {y : L} {d : Nat} (hd : d ≤ 40) (hk : y.k = 2) : T.nrm d y.t = T.word y.s := by
  rw [L.t_eq, T.nrm, if_neg (by omega), if_neg (by omega), if_pos hk]
theorem nrm_atom {y : L} {d : Nat} (hd : d ≤ 40) (hk : y.k = 1) : T.nrm d y.t = T.atom y.id := by
  rw [L.t_eq, T.nrm, if_neg (by omega), if_pos hk]
theorem nrm_deep {y : L} {d : Nat} (hd : 40 < d) : T.nrm d y.t = T.word .empty := by
  rw [L.t_eq, T.nrm, if_pos hd]
theorem nrm_else {y : L} {d : Nat} (h1 : y.k ≠ 1) (h2 : y.k ≠ 2) (h3 : y.k ≠ 3) (h4 : y.k = 4 → y.n ≠ 1) : T.nrm d y.t = T.word .empty := by
  rw [L.t_eq, T.nrm]
  by_cases hd : 40 < d
  · rw [if_pos hd]
  · rw [if_neg hd, if_neg h1, if_neg h2, if_neg h3]
    by_cases hk : y.k = 4
    · rw [if_pos hk]
      have hn := h4 hk
      rw [T.nrmL_map]
      have hl : (((List.range y.n).map fun j => (y.kid j).t).map (T.nrm (d + 1))).length ≠ 1 := by simpa using hn
      split
      · rename_i a e; rw [e] at hl; exact (hl rfl).elim
      · rfl
    · rw [if_neg hk]
end Go.Proofs.YtejpoojgbnppoaaDoor
