import Derived.Test.YtkkkdccaphldaaaFns
import Derived.Test.YtkkkdccaphldaaaVcN
namespace Go.Proofs.Ytkkkdccaphldaaa
open Vc Go
set_option linter.unusedVariables false
set_option linter.unusedSimpArgs false

theorem later_eq {t n : Int} (ht : 0 ≤ t) (ht' : t ≤ 18446744073709551615) (hn : 0 ≤ n) (hn' : n ≤ 18446744073709551615) : later t n = if n > 18446744073709551615 - t then 18446744073709551615 else t + n := by
  unfold later
  rw [wrapU (by omega) (by omega)]
  split
  · rfl
  · rw [wrapU (by omega) (by omega)]
theorem later_bd {t n : Int} (ht : 0 ≤ t) (ht' : t ≤ 18446744073709551615) (hn : 0 ≤ n) (hn' : n ≤ 18446744073709551615) : t ≤ later t n ∧ later t n ≤ 18446744073709551615 := by
  rw [later_eq ht ht' hn hn']; split <;> omega
theorem win_eq {p : Pol} {t : Int} (hp : 1 ≤ p.every) (ht : 0 ≤ t) (ht' : t ≤ 18446744073709551615) : p.win t = t / p.every := by
  unfold Pol.win
  rw [if_neg (by omega), Int.tdiv_eq_ediv_of_nonneg ht]
  have h1 : t / p.every ≤ t := Int.ediv_le_self _ ht
  have h2 : 0 ≤ t / p.every := Int.ediv_nonneg ht (by omega)
  exact wrapU h2 (by omega)
theorem win_mono {p : Pol} {t u : Int} (hp : 1 ≤ p.every) (ht : 0 ≤ t) (htu : t ≤ u) (hu : u ≤ 18446744073709551615) : p.win t ≤ p.win u := by
  rw [win_eq hp ht (by omega), win_eq hp (by omega) hu]
  exact Int.ediv_le_ediv (by omega) htu
theorem check_zero {p : Pol} (h : (check p != 0) = false) : 1 ≤ p.most ∧ p.most ≤ 1000 ∧ 1 ≤ p.every ∧ 0 ≤ p.back ∧ p.back ≤ p.most := by
  unfold check at h
  split at h
  · simp at h
  · omega
theorem at_win {p : Pol} {b : Bud} {t : Int} : (atB p b t).win ≥ p.win t ∧ (atB p b t).win ≥ b.win ∧ (atB p b t).left ≥ b.left := by
  unfold atB
  split
  · exact ⟨by assumption, by omega, by omega⟩
  · refine ⟨?_, ?_, ?_⟩ <;> simp only <;> first | omega | (split <;> omega)
theorem at_fix {p : Pol} {c : Bud} {t : Int} (h : c.win ≥ p.win t) : atB p c t = c ∧ atT p c t = false := by
  unfold atB atT
  exact ⟨if_pos h, if_pos h⟩
theorem at_again {p : Pol} {b : Bud} {t : Int} : atB p (atB p b t) t = atB p b t ∧ atT p (atB p b t) t = false := at_fix at_win.1
structure LaterIn (p : Pol) (t n m : Int) : Prop where
  t0 : 0 ≤ t
  t1 : t ≤ 18446744073709551615
  n0 : 0 ≤ n
  n1 : n ≤ 18446744073709551615
  m0 : 0 ≤ m
  m1 : m ≤ 18446744073709551615
theorem q1 {p : Pol} {t n m : Int} (h : LaterIn p t n m) : decide ((later t n) ≥ t) = true := by have := later_bd h.t0 h.t1 h.n0 h.n1; simp; omega
theorem q2 {p : Pol} {t n m : Int} (h : LaterIn p t n m) : decide ((later (later t n) m) ≥ (later t n)) = true := by
  have h1 := later_bd h.t0 h.t1 h.n0 h.n1
  have := later_bd (t := later t n) (by have := h.t0; omega) h1.2 h.m0 h.m1; simp; omega
theorem q3 {p : Pol} {t n m : Int} (h : LaterIn p t n m) : ((later 18446744073709551615 n) == 18446744073709551615) = true := by
  have := later_bd (t := 18446744073709551615) (by omega) (by omega) h.n0 h.n1; simp; omega
theorem q4 {p : Pol} {t n m : Int} (h : LaterIn p t n m) : ((later t 0) == t) = true := by
  have h1 := h.t0
  have h2 := h.t1
  rw [later_eq h1 h2 (by omega) (by omega)]; simp; intro; omega
theorem q5 {p : Pol} {t n m : Int} (h : LaterIn p t n m) (hc : (check p != 0) = false) : decide ((Pol.win p (later (later t n) m)) ≥ (Pol.win p (later t n))) = true := by
  have h1 := later_bd h.t0 h.t1 h.n0 h.n1
  have h0 := h.t0
  have h2 := later_bd (t := later t n) (by omega) h1.2 h.m0 h.m1
  have := win_mono (p := p) (check_zero hc).2.2.1 (show 0 ≤ later t n by omega) h2.1 h2.2
  simpa using this
end Go.Proofs.Ytkkkdccaphldaaa
