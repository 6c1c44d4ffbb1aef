/- Parts of the proof: what the texts behind this one need. -/
import Derived.Sort.AssemblyPlain
import Derived.Test.YtehbmooelcjfoaaDoorPb4
set_option maxRecDepth 100000
set_option maxHeartbeats 4000000
namespace Go.Proofs.YtehbmooelcjfoaaDoor
open Vc Go
set_option linter.unusedVariables false
set_option linter.unusedSimpArgs false
def L.nil : L := ⟨0, 0, .empty, none, 0, 0, 0, 0, fun j => j.elim0, none, 0, 0, 0, 0, fun _ => (0, 0)⟩
def zat (zs : List L) (k : Nat) : L := zs.getD k L.nil
def kat (ks : List Nat) (k : Nat) : Nat := ks.getD k 0
def intsN (ks : List Nat) : List Value := ks.map fun k => .int .i64 ((k : Nat) : Int)
theorem zat_get {zs : List L} {k : Nat} (h : k < zs.length) : zat zs k = zs[k] := by simp [zat, List.getElem?_eq_getElem h]
theorem zat_snoc {zs : List L} {z : L} {k : Nat} : zat (zs ++ [z]) k = if k < zs.length then zat zs k else if k = zs.length then z else L.nil := by
  unfold zat
  rw [List.getD_eq_getElem?_getD, List.getD_eq_getElem?_getD, List.getElem?_append]
  split
  · rfl
  · split
    · rename_i h;subst h;simp
    · rw [List.getElem?_eq_none (by simp;omega)];rfl
theorem kat_snoc {ks : List Nat} {z k : Nat} : kat (ks ++ [z]) k = if k < ks.length then kat ks k else if k = ks.length then z else 0 := by
  unfold kat
  rw [List.getD_eq_getElem?_getD, List.getD_eq_getElem?_getD, List.getElem?_append]
  split
  · rfl
  · split
    · rename_i h;subst h;simp
    · rw [List.getElem?_eq_none (by simp;omega)];rfl
theorem intsN_len (ks : List Nat) : (intsN ks).length = ks.length * 1 := by simp [intsN]
theorem rd_L {zs : List L} {Lr : List Value} {k : Nat} (hr : Lr = rowsL zs) (h : k < zs.length) : readVar Tryd.prog 29 Lr (0 + k * 5) = some (zat zs k).v := by
  subst hr
  have h1 : tinfo Tryd.prog 29 = some (true, 5) := by kernel_rfl
  have h2 := rowsL_at h
  have h3 : 5 ≤ ((rowsL zs).drop (k * 5)).length := by rw [List.length_drop, rowsL_len];omega
  unfold readVar
  rw [h1, Nat.zero_add]
  show (match takeL 5 ((rowsL zs).drop (k * 5)) with | some l => some (Value.agg l.toArray) | none => none) = _
  rw [takeL_of h3, h2, zat_get h]
  rfl
theorem rd_K {ks : List Nat} {Ls : List Value} {k : Nat} (hr : Ls = intsN ks) (h : k < ks.length) : readVar Tryd.prog 3 Ls (0 + k * 1) = some (vi ((kat ks k : Nat) : Int)) := by
  subst hr
  rw [readVar_one (n := 1) (by kernel_rfl), show 0 + k * 1 = k by omega]
  simp [intsN, kat, List.getElem?_eq_getElem h]
structure MI (G : RO) (j : Nat) (b : Option Nat) (cap : Nat) (Lr : List Value) (zs : List L) (b2 : Option Nat) (cap2 : Nat) (Ls : List Value) (ks : List Nat) : Prop where
  zl : zs.length = j
  kl : ks.length = j
  b0 : b = none → cap = 0
  jc : j ≤ cap
  cm : cap ≤ maxLen
  c0 : b2 = none → cap2 = 0
  jd : j ≤ cap2
  dm : cap2 ≤ maxLen
  rows : Lr = rowsL zs
  ints : Ls = intsN ks
  all : ∀ i, i < j → (zat zs i).ok G∧(zat zs i).t.okn∧(1 ≤ kat ks i∧kat ks i ≤ 300)∧(zat zs i).t.wt + 1 ≤ 1621 * kat ks i
theorem MI.mono {R S : RO} (h : R.le S) {j : Nat} {b : Option Nat} {cap : Nat} {Lr : List Value} {zs : List L} {b2 : Option Nat} {cap2 : Nat} {Ls : List Value} {ks : List Nat} (m : MI R j b cap Lr zs b2 cap2 Ls ks) : MI S j b cap Lr zs b2 cap2 Ls ks :=
  ⟨m.zl, m.kl, m.b0, m.jc, m.cm, m.c0, m.jd, m.dm, m.rows, m.ints, fun i hi => ⟨L.ok_mono h _ (m.all i hi).1, (m.all i hi).2⟩⟩
structure WI (G : RO) (bn i k n : Nat) (cb : Option Nat) (cc : Nat) (Lw : List Value) (ws : List L) : Prop where
  ib : i ≤ bn
  wl : ws.length = n
  ni : n ≤ i
  c0 : cb = none → cc = 0
  nc : n ≤ cc
  cm : cc ≤ maxLen
  rows : Lw = rowsL ws
  k1 : 1 ≤ k
  kb : k ≤ 1 + 300 * i
  all : ∀ z ∈ ws, z.ok G∧z.t.okn
  sum : T.wtL (ws.map L.t) + 1621 ≤ 1621 * k
theorem WI.mono {R S : RO} (h : R.le S) {bn i k n : Nat} {cb : Option Nat} {cc : Nat} {Lw : List Value} {ws : List L} (m : WI R bn i k n cb cc Lw ws) : WI S bn i k n cb cc Lw ws :=
  ⟨m.ib, m.wl, m.ni, m.c0, m.nc, m.cm, m.rows, m.k1, m.kb, fun z hz => ⟨L.ok_mono h _ (m.all z hz).1, (m.all z hz).2⟩, m.sum⟩
theorem WI.begin (G : RO) (bn : Nat) : WI G bn 0 1 0 none 0 [] [] :=
  ⟨Nat.zero_le _, rfl, Nat.le_refl _, fun _ => rfl, Nat.le_refl _, Nat.zero_le _, rfl, Nat.le_refl _, Nat.le_refl _, fun z hz => (by cases hz), Nat.le_refl _⟩
theorem WI.skip {G : RO} {bn i k n : Nat} {cb : Option Nat} {cc : Nat} {Lw : List Value} {ws : List L} (m : WI G bn i k n cb cc Lw ws) (h : i < bn) : WI G bn (i + 1) k n cb cc Lw ws :=
  ⟨h, m.wl, by have := m.ni;omega, m.c0, m.nc, m.cm, m.rows, m.k1, by have := m.kb;omega, m.all, m.sum⟩
theorem T.wtL_snoc (l : List T) (a : T) : T.wtL (l ++ [a]) = T.wtL l + a.wt + 1 := by
  induction l with
  | nil => show a.wt + 1 + 0 = 0 + a.wt + 1;omega
  | cons x l ih => show x.wt + 1 + T.wtL (l ++ [a]) = x.wt + 1 + T.wtL l + a.wt + 1;rw [ih];omega
theorem WI.step {G : RO} {bn i k n j m : Nat} {cb : Option Nat} {cc a c : Nat} {Lw : List Value} {ws : List L} {b : Option Nat} {cap : Nat} {Lr : List Value} {zs : List L} {b2 : Option Nat} {cap2 : Nat} {Ls : List Value} {ks : List Nat}
    (w : WI G bn i k n cb cc Lw ws) (M : MI G j b cap Lr zs b2 cap2 Ls ks) (h : i < bn) (hm : m < j) (h1 : n + 1 ≤ c) (h2 : c ≤ maxLen) :
    WI G bn (i + 1) (k + kat ks m) (n + 1) (some a) c (Lw ++ (zat zs m).row) (ws ++ [zat zs m]) := by
  obtain ⟨a1, a2, a3, a4⟩ := M.all m hm
  refine ⟨h, by rw [List.length_append, w.wl];rfl, by have := w.ni;omega, fun h => (by cases h), h1, h2, by rw [rowsL_snoc, w.rows], by have := w.k1;omega, by have := w.kb;omega, fun z hz => ?_, ?_⟩
  · rcases List.mem_append.1 hz with hz | hz
    · exact w.all z hz
    · rcases List.mem_singleton.1 hz with rfl;exact ⟨a1, a2⟩
  · rw [List.map_append, List.map_singleton, T.wtL_snoc];have := w.sum;rw [Nat.mul_add];omega
def mdL (x : ND) (n : Nat) (cb : Option Nat) (cc : Nat) (ws : List L) : L := ⟨x.k, x.i, x.s, cb.map fun a => ⟨a, 0, none⟩, n, cc, cb.getD 0, 0, fun i => zat ws i, x.pa, x.pm, x.pc, x.PB, x.PO, x.pw⟩
theorem mdL_t {x : ND} {n : Nat} {cb : Option Nat} {cc : Nat} {ws : List L} (h : ws.length = n) : (mdL x n cb cc ws).t = .mk x.k x.i x.s (ws.map L.t) ((List.range x.pm).map x.pw) := by
  rw [L.t_eq]
  have : ((List.range (mdL x n cb cc ws).n).map fun j => ((mdL x n cb cc ws).kid j).t) = ws.map L.t := by
    apply List.ext_getElem (by simp [mdL, h])
    intro i h1 h2
    simp only [List.length_map] at h2
    simp only [List.getElem_map, List.getElem_range]
    rw [L.kid_pos (y := mdL x n cb cc ws) (show i < n by omega)]
    exact congrArg L.t (zat_get h2)
  rw [this];rfl
theorem mdL_ok {G : RO} {x : ND} {bn i k n : Nat} {cb : Option Nat} {cc : Nat} {Lw : List Value} {ws : List L} (w : WI G bn i k n cb cc Lw ws) (hx : x.Ok G) (hc : ∀ a, cb = some a → G.cells a 0 Lw) : (mdL x n cb cc ws).ok G := by
  have h1 := hx.pl
  rw [L.ok_eq]
  refine ⟨⟨w.nc, w.cm, h1.1, by show x.pc ≤ maxLen;simp only [maxLen];omega⟩, fun j hj => ?_, fun j hj => ⟨(hx.pp j hj).1, (hx.pp j hj).2.1⟩⟩
  have hj' : j < n := hj
  have hj2 : j < ws.length := by rw [w.wl];exact hj'
  rw [L.kid_pos hj]
  cases cb with
  | none => have := w.c0 rfl;have := w.nc;omega
  | some a =>
    have e : (mdL x n (some a) cc ws).kd ⟨j, hj⟩ = ws[j] := zat_get hj2
    rw [e]
    refine ⟨rfl, ?_, (w.all _ (List.getElem_mem ..)).1⟩
    have h2 := hc a rfl
    rw [w.rows] at h2
    exact RO.cells_sub (i := j * 5) h2 (l := ws[j].row) (rowsL_at hj2)
theorem mdL_okn {G : RO} {x : ND} {bn i k n : Nat} {cb : Option Nat} {cc : Nat} {Lw : List Value} {ws : List L} (w : WI G bn i k n cb cc Lw ws) (hx : x.Ok G) : (mdL x n cb cc ws).t.okn := by
  rw [mdL_t w.wl]
  refine ⟨⟨hx.k0, hx.k1⟩, ⟨hx.i0, hx.i1⟩, fun p hp => ?_, (T.oknL_iff _).2 fun t ht => ?_⟩
  · obtain ⟨j, hj, rfl⟩ := List.mem_map.1 hp
    exact (hx.pp j (List.mem_range.1 hj)).2.2
  · obtain ⟨z, hz, rfl⟩ := List.mem_map.1 ht
    exact (w.all z hz).2
theorem mdL_wt {G : RO} {x : ND} {bn i k n : Nat} {cb : Option Nat} {cc : Nat} {Lw : List Value} {ws : List L} (w : WI G bn i k n cb cc Lw ws) (h1 : x.s.size ≤ 60) (h2 : x.pm ≤ 20) : (mdL x n cb cc ws).t.wt + 1 ≤ 1621 * k := by
  rw [mdL_t w.wl]
  have h3 : ((List.range x.pm).map x.pw).length = x.pm := by simp
  have := w.sum
  show 300 + 2 * x.s.size + 60 * ((List.range x.pm).map x.pw).length + T.wtL (ws.map L.t) + 1 ≤ _
  rw [h3];omega
theorem MI.begin (G : RO) : MI G 0 none 0 [] [] none 0 [] [] :=
  ⟨rfl, rfl, fun _ => rfl, Nat.le_refl _, Nat.zero_le _, fun _ => rfl, Nat.le_refl _, Nat.zero_le _, rfl, rfl, fun i hi => by omega⟩
theorem MI.step {G : RO} {x : ND} {bn i k n j : Nat} {cb : Option Nat} {cc a c a' c' : Nat} {Lw : List Value} {ws : List L} {b : Option Nat} {cap : Nat} {Lr : List Value} {zs : List L} {b2 : Option Nat} {cap2 : Nat} {Ls : List Value} {ks : List Nat}
    (M : MI G j b cap Lr zs b2 cap2 Ls ks) (w : WI G bn i k n cb cc Lw ws) (hx : x.Ok G) (hc : ∀ a, cb = some a → G.cells a 0 Lw) (hk : k ≤ 300) (h1 : x.s.size ≤ 60) (h2 : x.pm ≤ 20) (c1 : j + 1 ≤ c) (c2 : c ≤ maxLen) (d1 : j + 1 ≤ c') (d2 : c' ≤ maxLen) :
    MI G (j + 1) (some a) c (Lr ++ (mdL x n cb cc ws).row) (zs ++ [mdL x n cb cc ws]) (some a') c' (Ls ++ [vi (k : Int)]) (ks ++ [k]) := by
  refine ⟨by rw [List.length_append, M.zl];rfl, by rw [List.length_append, M.kl];rfl, fun h => (by cases h), c1, c2, fun h => (by cases h), d1, d2, by rw [rowsL_snoc, M.rows], by rw [M.ints];simp [intsN], fun i hi => ?_⟩
  rw [zat_snoc, kat_snoc, M.zl, M.kl]
  by_cases h : i < j
  · rw [if_pos h, if_pos h];exact M.all i h
  · rw [if_neg h, if_neg h, if_pos (show i = j by omega), if_pos (show i = j by omega)]
    exact ⟨mdL_ok w hx hc, mdL_okn w hx, ⟨w.k1, hk⟩, mdL_wt w h1 h2⟩
theorem hnd_mono {R S : RO} (h : R.le S) {lv : Option Addr} {ln LB LO : Nat} {nd : Nat → ND} (hnd : ∀ j, j < ln → lv = some ⟨LB, LO, none⟩∧R.cells LB (LO + j * 5) (nd j).row∧(nd j).Ok R) :
    ∀ j, j < ln → lv = some ⟨LB, LO, none⟩∧S.cells LB (LO + j * 5) (nd j).row∧(nd j).Ok S := fun j hj => ⟨(hnd j hj).1, RO.cells_mono h (hnd j hj).2.1, (hnd j hj).2.2.mono h⟩
theorem made_end {G : RO} {j : Nat} {b : Option Nat} {cap : Nat} {Lr : List Value} {zs : List L} {b2 : Option Nat} {cap2 : Nat} {Ls : List Value} {ks : List Nat} (M : MI G j b cap Lr zs b2 cap2 Ls ks) {i : Nat} (h : i < j) :
    (zat zs i).ok G∧(zat zs i).t.okn∧(zat zs i).t.wt ≤ 490000 := by
  obtain ⟨h1, h2, h3, h4⟩ := M.all i h
  exact ⟨h1, h2, by omega⟩
noncomputable def made_ok_L9_inv (lv : Option Addr) (ln lc LB LO : Nat) (nd : Nat → ND) (a0 : Nat) (j : Nat) (b : Option Nat) (cap : Nat) (Lr : List Value) (b2 : Option Nat) (cap2 : Nat) (Ls : List Value) (u1 : Nat → Value) (a53 : Nat) (a54 : Nat) (zs : List L) (ks : List Nat) : Nat×Nat×Nat×Option Nat×Nat×List Value×List L×NV → St := fun zx => ⟨(.slice lv ln lc::undef::ptA a0::(u1 3)::gsv b j cap::gsv b2 j cap2::vi (j : Int)::ptA a53::ptA a54::vi ((zx.2.1 : Nat) : Int)::undef::(zx.2.2.2.2.2.2.2 11)::(zx.2.2.2.2.2.2.2 12)::.slice lv ln lc::vi (ln : Int)::vi (j : Int)::.bool true::vi (j : Int)::(ptO LB (LO + Int.toNat (j : Int) * 5))::.agg #[vi ((nd j).k), vu ((nd j).i), .string ((nd j).s), .slice (nd j).ba ((nd j).bn) ((nd j).bc), .slice (nd j).pa ((nd j).pm) ((nd j).pc)]::ptA a53::vi ((nd j).k)::(ptO a53 (1))::vu ((nd j).i)::(ptO a53 (2))::.string ((nd j).s)::(ptO a53 (4))::.slice (nd j).pa ((nd j).pm) ((nd j).pc)::.agg #[vi ((nd j).k), vu ((nd j).i), .string ((nd j).s), .slice none 0 0, .slice (nd j).pa ((nd j).pm) ((nd j).pc)]::(ptO a53 (3))::.slice (nd j).ba ((nd j).bn) ((nd j).bc)::vi (((nd j).bn : Nat) : Int)::vi ((zx.1 : Nat) : Int)::urun zx.2.2.2.2.2.2.2 33 26 (urun u1 59 30 (uns 10 []))), [], [some (a0, .row [vi 0, vu 0, .string ByteArray.empty, .slice none 0 0, .slice none 0 0] 29 5), gsb b Lr 29 (cap * 5), gsb b2 Ls 3 (cap2 * 1), some (a53, .row [vi ((nd j).k), vu ((nd j).i), .string ((nd j).s), .slice (nd j).ba ((nd j).bn) ((nd j).bc), .slice (nd j).pa ((nd j).pm) ((nd j).pc)] 56 5), some (a54, .row [vi ((nd j).k), vu ((nd j).i), .string ((nd j).s), gsv zx.2.2.2.1 zx.2.2.1 zx.2.2.2.2.1, .slice (nd j).pa ((nd j).pm) ((nd j).pc)] 29 5), gsb zx.2.2.2.1 zx.2.2.2.2.2.1 29 (zx.2.2.2.2.1 * 5)]⟩
def made_ok_L9_I (lv : Option Addr) (ln lc LB LO : Nat) (nd : Nat → ND) (a0 : Nat) (j : Nat) (b : Option Nat) (cap : Nat) (Lr : List Value) (b2 : Option Nat) (cap2 : Nat) (Ls : List Value) (u1 : Nat → Value) (a53 : Nat) (a54 : Nat) (zs : List L) (ks : List Nat) (R : RO) : Nat×Nat×Nat×Option Nat×Nat×List Value×List L×NV → RO → Prop := fun zx G => G = R∧(WI R (nd j).bn zx.1 zx.2.1 zx.2.2.1 zx.2.2.2.1 zx.2.2.2.2.1 zx.2.2.2.2.2.1 zx.2.2.2.2.2.2.1)
def made_ok_L9_mu (lv : Option Addr) (ln lc LB LO : Nat) (nd : Nat → ND) (a0 : Nat) (j : Nat) (b : Option Nat) (cap : Nat) (Lr : List Value) (b2 : Option Nat) (cap2 : Nat) (Ls : List Value) (u1 : Nat → Value) (a53 : Nat) (a54 : Nat) (zs : List L) (ks : List Nat) : Nat×Nat×Nat×Option Nat×Nat×List Value×List L×NV → Nat := fun zx => (nd j).bn - zx.1
noncomputable def made_ok_L9_K (lv : Option Addr) (ln lc LB LO : Nat) (nd : Nat → ND) (a0 : Nat) (j : Nat) (b : Option Nat) (cap : Nat) (Lr : List Value) (b2 : Option Nat) (cap2 : Nat) (Ls : List Value) (u1 : Nat → Value) (a53 : Nat) (a54 : Nat) (zs : List L) (ks : List Nat) (R : RO) : Exit' → St → RO → Prop := altPost R (.alt (Nat×Nat×Nat×Option Nat×Nat×List Value×List L×NV) (fun zx => zx.1 = (nd j).bn∧WI R (nd j).bn zx.1 zx.2.1 zx.2.2.1 zx.2.2.2.1 zx.2.2.2.2.1 zx.2.2.2.2.2.1 zx.2.2.2.2.2.2.1) (fun zx => (.exit 2, ((made_ok_L9_inv lv ln lc LB LO nd a0 j b cap Lr b2 cap2 Ls u1 a53 a54 zs ks zx).up [] [some (a0, .row [vi 0, vu 0, .string ByteArray.empty, .slice none 0 0, .slice none 0 0] 29 5), gsb b Lr 29 (cap * 5), gsb b2 Ls 3 (cap2 * 1), some (a53, .row [vi ((nd j).k), vu ((nd j).i), .string ((nd j).s), .slice (nd j).ba ((nd j).bn) ((nd j).bc), .slice (nd j).pa ((nd j).pm) ((nd j).pc)] 56 5), some (a54, .row [vi ((nd j).k), vu ((nd j).i), .string ((nd j).s), gsv zx.2.2.2.1 zx.2.2.1 zx.2.2.2.2.1, .slice (nd j).pa ((nd j).pm) ((nd j).pc)] 29 5), gsb zx.2.2.2.1 zx.2.2.2.2.2.1 29 (zx.2.2.2.2.1 * 5)]))) (fun _ => .altn) .altn)
theorem made_ok_L9_body (lv : Option Addr) (ln lc LB LO : Nat) (nd : Nat → ND) (a0 : Nat) (j : Nat) (b : Option Nat) (cap : Nat) (Lr : List Value) (b2 : Option Nat) (cap2 : Nat) (Ls : List Value) (u1 : Nat → Value) (a53 : Nat) (a54 : Nat) (zs : List L) (ks : List Nat) (R : RO) (hln : ln ≤ 1048576) (hnd : ∀ j, j < ln → lv = some ⟨LB, LO, none⟩∧R.cells LB (LO + j * 5) (nd j).row∧(nd j).Ok R) (hj : j < ln) (hM : MI R j b cap Lr zs b2 cap2 Ls ks) (i : Nat) (k : Nat) (n : Nat) (cb : Option Nat) (cc : Nat) (Lw : List Value) (ws : List L) (u55 : Nat → Value) (hI : WI R (nd j).bn i k n cb cc Lw ws) : CT Tryd.prog (sub (bodyOf Tryd.f24) [1, 1, 1, 0, 1, 0, 0, 1, 1, 0, 0, 1, 1, 1, 0, 1, 0, 0]) (made_ok_L9_inv lv ln lc LB LO nd a0 j b cap Lr b2 cap2 Ls u1 a53 a54 zs ks (i, k, n, cb, cc, Lw, ws, u55)) R (LK (made_ok_L9_inv lv ln lc LB LO nd a0 j b cap Lr b2 cap2 Ls u1 a53 a54 zs ks) (made_ok_L9_I lv ln lc LB LO nd a0 j b cap Lr b2 cap2 Ls u1 a53 a54 zs ks R) (made_ok_L9_mu lv ln lc LB LO nd a0 j b cap Lr b2 cap2 Ls u1 a53 a54 zs ks) (made_ok_L9_K lv ln lc LB LO nd a0 j b cap Lr b2 cap2 Ls u1 a53 a54 zs ks R) (i, k, n, cb, cc, Lw, ws, u55)) :=
  CT.of_wp_eq (VC := (let z21 := ((i : Int) + 1);let z20 := (made_ok_L9_inv lv ln lc LB LO nd a0 j b cap Lr b2 cap2 Ls u1 a53 a54 zs ks (i, k, n, cb, cc, Lw, ws, u55));let z19 := ((j : Int) - 1);let z18 := (((nd j).bn : Nat) : Int);let z16 : Option Addr := (some ⟨LB, LO + Int.toNat (j : Int) * 5, none⟩);let z15 := (made_ok_L9_mu lv ln lc LB LO nd a0 j b cap Lr b2 cap2 Ls u1 a53 a54 zs ks);let z14 := (made_ok_L9_K lv ln lc LB LO nd a0 j b cap Lr b2 cap2 Ls u1 a53 a54 zs ks R);let z13 := (made_ok_L9_I lv ln lc LB LO nd a0 j b cap Lr b2 cap2 Ls u1 a53 a54 zs ks R);let z12 := (made_ok_L9_inv lv ln lc LB LO nd a0 j b cap Lr b2 cap2 Ls u1 a53 a54 zs ks);let z11 : List Value := [vi ((nd j).k), vu ((nd j).i), .string ((nd j).s), gsv cb n cc, .slice (nd j).pa ((nd j).pm) ((nd j).pc)];let z10 : List Value := [vi 0, vu 0, .string ByteArray.empty, .slice none 0 0, .slice none 0 0];let z9 : Option Addr := (some ⟨(nd j).BB, (nd j).BO + Int.toNat (i : Int) * 1, none⟩);let z8 : Array Value := #[vi ((nd j).k), vu ((nd j).i), .string ((nd j).s), .slice none 0 0, .slice (nd j).pa ((nd j).pm) ((nd j).pc)];let z5 : Array Value := #[vi ((nd j).k), vu ((nd j).i), .string ((nd j).s), .slice (nd j).ba ((nd j).bn) ((nd j).bc), .slice (nd j).pa ((nd j).pm) ((nd j).pc)];let z4 : List Value := [vi ((nd j).k), vu ((nd j).i), .string ((nd j).s), .slice (nd j).ba ((nd j).bn) ((nd j).bc), .slice (nd j).pa ((nd j).pm) ((nd j).pc)];let z3 : Hp := [some (a0, .row z10 29 5), gsb b Lr 29 (cap * 5), gsb b2 Ls 3 (cap2 * 1), some (a53, .row z4 56 5), some (a54, .row z11 29 5), gsb cb Lw 29 (cc * 5)];let z2 := (z19 - ((nd j).bk i));let z17 := ((kat ks z2.toNat : Nat) : Int);let z0 := (zat zs z2.toNat);let z22 : Array Value := #[vi (z0.k), vu (z0.id), .string (z0.s), .slice z0.aa (z0.n) (z0.ac), .slice z0.pa (z0.m) (z0.pc)];let z6 : List Value := [vi (z0.k), vu (z0.id), .string (z0.s), .slice z0.aa (z0.n) (z0.ac), .slice z0.pa (z0.m) (z0.pc)];((decide ((i : Int) < z18)) = true → ((nd j).ba = some ⟨(nd j).BB, (nd j).BO, none⟩∧(0 : Int) ≤ (i : Int)∧((i : Int) : Int) < z18)∧(R.cells (nd j).BB ((nd j).BO + Int.toNat (i : Int) * 1) [.int .u8 ((nd j).bk i)])∧(NW .i64 z19)∧(IntKind.i64.wrap ((nd j).bk i) = ((nd j).bk i))∧(NW .i64 z2)∧((decide (z2 ≥ 0)) = true → (∃ a108 : Nat, b = some a108)∧∀ a108 : Nat, let z7 : Hp := [some (a0, .row z10 29 5), gsb (some a108) Lr 29 (cap * 5), gsb b2 Ls 3 (cap2 * 1), some (a53, .row z4 56 5), some (a54, .row z11 29 5), gsb cb Lw 29 (cc * 5)];let z1 : List Value := (.slice lv ln lc::undef::ptA a0::(u1 3)::gsv (some a108) j cap::gsv b2 j cap2::vi (j : Int)::ptA a53::ptA a54::vi (k : Int)::undef::.int .u8 ((nd j).bk i)::vi z2::.slice lv ln lc::vi (ln : Int)::vi (j : Int)::.bool true::vi (j : Int)::.pointer z16::.agg z5::ptA a53::vi ((nd j).k)::(ptO a53 (1))::vu ((nd j).i)::(ptO a53 (2))::.string ((nd j).s)::(ptO a53 (4))::.slice (nd j).pa ((nd j).pm) ((nd j).pc)::.agg z8::(ptO a53 (3))::.slice (nd j).ba ((nd j).bn) ((nd j).bc)::vi z18::vi (i : Int)::.bool true::.pointer z9::.int .u8 ((nd j).bk i)::vi (j : Int)::vi z19::.int .u8 ((nd j).bk i)::vi ((nd j).bk i)::vi z2::vi z2::.bool true::urun u55 43 16 (urun u1 59 30 (uns 10 [])));b = some a108 → ((⟨(.slice lv ln lc::undef::ptA a0::(u1 3)::gsv b j cap::gsv b2 j cap2::vi (j : Int)::ptA a53::ptA a54::vi (k : Int)::undef::.int .u8 ((nd j).bk i)::vi z2::.slice lv ln lc::vi (ln : Int)::vi (j : Int)::.bool true::vi (j : Int)::.pointer z16::.agg z5::ptA a53::vi ((nd j).k)::(ptO a53 (1))::vu ((nd j).i)::(ptO a53 (2))::.string ((nd j).s)::(ptO a53 (4))::.slice (nd j).pa ((nd j).pm) ((nd j).pc)::.agg z8::(ptO a53 (3))::.slice (nd j).ba ((nd j).bn) ((nd j).bc)::vi z18::vi (i : Int)::.bool true::.pointer z9::.int .u8 ((nd j).bk i)::vi (j : Int)::vi z19::.int .u8 ((nd j).bk i)::vi ((nd j).bk i)::vi z2::vi z2::.bool true::urun u55 43 16 (urun u1 59 30 (uns 10 []))), [], z3⟩ : St) = ⟨z1, [], z7⟩∧(∃ a109 : Nat, b2 = some a109)∧∀ a109 : Nat, b2 = some a109 → ((⟨z1, [], z7⟩ : St) = ⟨(.slice lv ln lc::undef::ptA a0::(u1 3)::gsv (some a108) j cap::gsv (some a109) j cap2::vi (j : Int)::ptA a53::ptA a54::vi (k : Int)::undef::.int .u8 ((nd j).bk i)::vi z2::.slice lv ln lc::vi (ln : Int)::vi (j : Int)::.bool true::vi (j : Int)::.pointer z16::.agg z5::ptA a53::vi ((nd j).k)::(ptO a53 (1))::vu ((nd j).i)::(ptO a53 (2))::.string ((nd j).s)::(ptO a53 (4))::.slice (nd j).pa ((nd j).pm) ((nd j).pc)::.agg z8::(ptO a53 (3))::.slice (nd j).ba ((nd j).bn) ((nd j).bc)::vi z18::vi (i : Int)::.bool true::.pointer z9::.int .u8 ((nd j).bk i)::vi (j : Int)::vi z19::.int .u8 ((nd j).bk i)::vi ((nd j).bk i)::vi z2::vi z2::.bool true::urun u55 43 16 (urun u1 59 30 (uns 10 []))), [], [some (a0, .row z10 29 5), gsb (some a108) Lr 29 (cap * 5), gsb (some a109) Ls 3 (cap2 * 1), some (a53, .row z4 56 5), some (a54, .row z11 29 5), gsb cb Lw 29 (cc * 5)]⟩∧(a54 = a54)∧(IB z2 (j : Nat))∧(a108 = a108∧readVar Tryd.prog 29 Lr (0 + Int.toNat z2 * 5) = some (.agg z22))∧∀ a110 : Nat, (PrimOK Tryd.prog (.app 25 25 25 (gsv cb n cc) (slA a110 1 1)) R [gsb cb Lw 29 (cc * 5), some (a110, .row z6 29 5)] (Nat×Nat) (fun y111 => n + 1 ≤ y111.2∧y111.2 ≤ maxLen) (fun y111 => (.slice (some ⟨y111.1, 0, none⟩) (n + 1) y111.2, [some (y111.1, .row (Lw ++ (z6 : List Value)) 29 (y111.2 * 5)), some (a110, .row z6 29 5)])))∧∀ (y111 : Nat×Nat) (qy111 : n + 1 ≤ y111.2∧y111.2 ≤ maxLen), (a54 = a54)∧(IB z2 (j : Nat))∧(a109 = a109∧readVar Tryd.prog 3 Ls (0 + Int.toNat z2 * 1) = some (vi z17))∧(NW .i64 ((k : Int) + z17))∧(NW .i64 z21)∧LK z12 z13 z15 z14 (i, k, n, cb, cc, Lw, ws, u55) .normal ⟨(.slice lv ln lc::undef::ptA a0::(u1 3)::gsv (some a108) j cap::gsv (some a109) j cap2::vi (j : Int)::ptA a53::ptA a54::vi ((k : Int) + z17)::undef::.int .u8 ((nd j).bk i)::vi z2::.slice lv ln lc::vi (ln : Int)::vi (j : Int)::.bool true::vi (j : Int)::.pointer z16::.agg z5::ptA a53::vi ((nd j).k)::(ptO a53 (1))::vu ((nd j).i)::(ptO a53 (2))::.string ((nd j).s)::(ptO a53 (4))::.slice (nd j).pa ((nd j).pm) ((nd j).pc)::.agg z8::(ptO a53 (3))::.slice (nd j).ba ((nd j).bn) ((nd j).bc)::vi z18::vi z21::.bool true::.pointer z9::.int .u8 ((nd j).bk i)::vi (j : Int)::vi z19::.int .u8 ((nd j).bk i)::vi ((nd j).bk i)::vi z2::vi z2::.bool true::(ptO a54 (3))::gsv cb n cc::gsv (some a108) j cap::vi z2::(ptO a108 (0 + Int.toNat z2 * 5))::.agg z22::slA a110 1 1::.slice (some ⟨y111.1, 0, none⟩) (n + 1) y111.2::(ptO a54 (3))::vi (k : Int)::gsv (some a109) j cap2::vi z2::(ptO a109 (0 + Int.toNat z2 * 1))::vi z17::vi ((k : Int) + z17)::vi z21::urun u1 59 30 (uns 10 [])), [], [some (a0, .row z10 29 5), gsb (some a108) Lr 29 (cap * 5), gsb (some a109) Ls 3 (cap2 * 1), some (a53, .row z4 56 5), some (a54, .row [vi ((nd j).k), vu ((nd j).i), .string ((nd j).s), .slice (some ⟨y111.1, 0, none⟩) (n + 1) y111.2, .slice (nd j).pa ((nd j).pm) ((nd j).pc)] 29 5), some (y111.1, .row (Lw ++ (z6 : List Value)) 29 (y111.2 * 5)), some (a110, .row z6 29 5)]⟩ R)))∧((decide (z2 ≥ 0)) = false → (NW .i64 z21)∧LK z12 z13 z15 z14 (i, k, n, cb, cc, Lw, ws, u55) .normal (z20.up [(11, .int .u8 ((nd j).bk i)), (12, vi z2), (32, vi z21), (33, .bool true), (34, .pointer z9), (35, .int .u8 ((nd j).bk i)), (36, vi (j : Int)), (37, vi z19), (38, .int .u8 ((nd j).bk i)), (39, vi ((nd j).bk i)), (40, vi z2), (41, vi z2), (42, .bool false), (58, vi z21)] z3) R))∧((decide ((i : Int) < z18)) = false → LK z12 z13 z15 z14 (i, k, n, cb, cc, Lw, ws, u55) (.exit 2) (z20.up [(33, .bool false)] z3) R))) (let y_7 : List Value := [vi 0, vu 0, .string ByteArray.empty, .slice none 0 0, .slice none 0 0];let y_6 : List Value := [vi ((nd j).k), vu ((nd j).i), .string ((nd j).s), gsv cb n cc, .slice (nd j).pa ((nd j).pm) ((nd j).pc)];let y_4 : Array Value := #[vi ((nd j).k), vu ((nd j).i), .string ((nd j).s), .slice none 0 0, .slice (nd j).pa ((nd j).pm) ((nd j).pc)];let y_3 : List Value := [vi ((nd j).k), vu ((nd j).i), .string ((nd j).s), .slice (nd j).ba ((nd j).bn) ((nd j).bc), .slice (nd j).pa ((nd j).pm) ((nd j).pc)];let y_2 : Array Value := #[vi ((nd j).k), vu ((nd j).i), .string ((nd j).s), .slice (nd j).ba ((nd j).bn) ((nd j).bc), .slice (nd j).pa ((nd j).pm) ((nd j).pc)];let y_1 := (((j : Int) - 1) - ((nd j).bk i));let y_0 := (zat zs y_1.toNat);let y_5 : List Value := [vi (y_0.k), vu (y_0.id), .string (y_0.s), .slice y_0.aa (y_0.n) (y_0.ac), .slice y_0.pa (y_0.m) (y_0.pc)];ops [.d] (.sp 33 (ops [.ib (nd j).BB (nd j).BO, .ro (fun v => [.int .u8 ((nd j).bk i)]), .d, .d, .nw, .d, .nw, .nw, .d, .d, .d] (.sp 42 (.ex Nat (fun a108 => b = some a108) (fun a108 => .rw (⟨(.slice lv ln lc::undef::ptA a0::(u1 3)::gsv (some a108) j cap::gsv b2 j cap2::vi (j : Int)::ptA a53::ptA a54::vi (k : Int)::undef::.int .u8 ((nd j).bk i)::vi y_1::.slice lv ln lc::vi (ln : Int)::vi (j : Int)::.bool true::vi (j : Int)::(ptO LB (LO + Int.toNat (j : Int) * 5))::.agg y_2::ptA a53::vi ((nd j).k)::(ptO a53 (1))::vu ((nd j).i)::(ptO a53 (2))::.string ((nd j).s)::(ptO a53 (4))::.slice (nd j).pa ((nd j).pm) ((nd j).pc)::.agg y_4::(ptO a53 (3))::.slice (nd j).ba ((nd j).bn) ((nd j).bc)::vi (((nd j).bn : Nat) : Int)::vi (i : Int)::.bool true::.pointer (some ⟨(nd j).BB, (nd j).BO + Int.toNat (i : Int) * 1, none⟩)::.int .u8 ((nd j).bk i)::vi (j : Int)::vi ((j : Int) - 1)::.int .u8 ((nd j).bk i)::vi ((nd j).bk i)::vi y_1::vi y_1::.bool true::urun u55 43 16 (urun u1 59 30 (uns 10 []))), [], [some (a0, .row y_7 29 5), gsb (some a108) Lr 29 (cap * 5), gsb b2 Ls 3 (cap2 * 1), some (a53, .row y_3 56 5), some (a54, .row y_6 29 5), gsb cb Lw 29 (cc * 5)]⟩) (.ex Nat (fun a109 => b2 = some a109) (fun a109 => .rw (⟨(.slice lv ln lc::undef::ptA a0::(u1 3)::gsv (some a108) j cap::gsv (some a109) j cap2::vi (j : Int)::ptA a53::ptA a54::vi (k : Int)::undef::.int .u8 ((nd j).bk i)::vi y_1::.slice lv ln lc::vi (ln : Int)::vi (j : Int)::.bool true::vi (j : Int)::(ptO LB (LO + Int.toNat (j : Int) * 5))::.agg y_2::ptA a53::vi ((nd j).k)::(ptO a53 (1))::vu ((nd j).i)::(ptO a53 (2))::.string ((nd j).s)::(ptO a53 (4))::.slice (nd j).pa ((nd j).pm) ((nd j).pc)::.agg y_4::(ptO a53 (3))::.slice (nd j).ba ((nd j).bn) ((nd j).bc)::vi (((nd j).bn : Nat) : Int)::vi (i : Int)::.bool true::.pointer (some ⟨(nd j).BB, (nd j).BO + Int.toNat (i : Int) * 1, none⟩)::.int .u8 ((nd j).bk i)::vi (j : Int)::vi ((j : Int) - 1)::.int .u8 ((nd j).bk i)::vi ((nd j).bk i)::vi y_1::vi y_1::.bool true::urun u55 43 16 (urun u1 59 30 (uns 10 []))), [], [some (a0, .row y_7 29 5), gsb (some a108) Lr 29 (cap * 5), gsb (some a109) Ls 3 (cap2 * 1), some (a53, .row y_3 56 5), some (a54, .row y_6 29 5), gsb cb Lw 29 (cc * 5)]⟩) (.dr [some (.d), some (.p 4), some (.d), some (.d), some (.ia), some (.q 1 (fun e v => .agg #[vi (y_0.k), vu (y_0.id), .string (y_0.s), .slice y_0.aa (y_0.n) (y_0.ac), .slice y_0.pa (y_0.m) (y_0.pc)])), some (.n 6), some (.pr [5, 6] [] (Nat×Nat) (fun e v y111 => n + 1 ≤ y111.2∧y111.2 ≤ maxLen) (fun e v y111 => (.slice (some ⟨y111.1, 0, none⟩) (n + 1) y111.2, [some (y111.1, .row (Lw ++ (y_5 : List Value)) 29 (y111.2 * 5)), some ((adr e 1), .row y_5 29 5)]))), some (.d), some (.p 4)] (ops [.d, .d, .d, .ia, .q 2 (fun e v => .int .i64 ((kat ks y_1.toNat : Nat) : Int)), .nw, .d, .nw, .d] (.fin [] []))))))) (ops [.nw, .d] (.fin [] [])))) (.fin [] []))) (by kernel_rfl)
    (⟨fun h106 => (have := of_decide_eq_true h106;⟨⟨((hnd j (by omega)).2.2.bb i (by omega)).1, by omega, by omega⟩, ⟨((hnd j (by omega)).2.2.bb i (by omega)).2.1, ⟨(nwI (by have h9 := (hnd j (by omega)).2.2.bl;have h8 := ((hnd j (by omega)).2.2.bb i (by omega)).2.2;have h7 := hI.kb;have h6 := hI.ni;have h5 := hI.k1;omega) (by have h9 := (hnd j (by omega)).2.2.bl;have h8 := ((hnd j (by omega)).2.2.bb i (by omega)).2.2;have h7 := hI.kb;have h6 := hI.ni;have h5 := hI.k1;omega)), ⟨(wrapI (by have h9 := (hnd j (by omega)).2.2.bl;have h8 := ((hnd j (by omega)).2.2.bb i (by omega)).2.2;have h7 := hI.kb;have h6 := hI.ni;have h5 := hI.k1;omega) (by have h9 := (hnd j (by omega)).2.2.bl;have h8 := ((hnd j (by omega)).2.2.bb i (by omega)).2.2;have h7 := hI.kb;have h6 := hI.ni;have h5 := hI.k1;omega)), ⟨(nwI (by have h9 := (hnd j (by omega)).2.2.bl;have h8 := ((hnd j (by omega)).2.2.bb i (by omega)).2.2;have h7 := hI.kb;have h6 := hI.ni;have h5 := hI.k1;omega) (by have h9 := (hnd j (by omega)).2.2.bl;have h8 := ((hnd j (by omega)).2.2.bb i (by omega)).2.2;have h7 := hI.kb;have h6 := hI.ni;have h5 := hI.k1;omega)), ⟨fun h107 => (have := of_decide_eq_true h107;⟨(by cases h9 : b with | none => exact absurd (hM.b0 h9) (by have h8 := hM.jc;have h7 := ((hnd j (by omega)).2.2.bb i (by omega)).2.2;omega) | some a => exact ⟨a, rfl⟩), fun a108 hxa108 => ⟨(by rw [hxa108]), ⟨(by cases h9 : b2 with | none => exact absurd (hM.c0 h9) (by have h8 := hM.jd;have h7 := ((hnd j (by omega)).2.2.bb i (by omega)).2.2;omega) | some a => exact ⟨a, rfl⟩), fun a109 hxa109 => ⟨(by rw [hxa109]), ⟨rfl, ⟨⟨by omega, by have h9 := (hnd j (by omega)).2.2.bl;have h8 := ((hnd j (by omega)).2.2.bb i (by omega)).2.2;have h7 := hI.kb;have h6 := hI.ni;have h5 := hI.k1;omega⟩, ⟨⟨rfl, (rd_L hM.rows (by have h3 := hM.zl;have h9 := (hnd j (by omega)).2.2.bl;have h8 := ((hnd j (by omega)).2.2.bb i (by omega)).2.2;have h7 := hI.kb;have h6 := hI.ni;have h5 := hI.k1;omega))⟩, fun a110 => ⟨(app1_ok (e := 29) (e' := 29) (z := 5) (by' := 80) (zc := [vi 0, vu 0, .string ByteArray.empty, .slice none 0 0, .slice none 0 0]) (b := cb) (len := n) (cap := cc) (n := 1) (cs := Lw) (new := [vi ((zat zs (((j : Int) - 1) - ((nd j).bk i)).toNat).k), vu ((zat zs (((j : Int) - 1) - ((nd j).bk i)).toNat).id), .string ((zat zs (((j : Int) - 1) - ((nd j).bk i)).toNat).s), .slice (zat zs (((j : Int) - 1) - ((nd j).bk i)).toNat).aa ((zat zs (((j : Int) - 1) - ((nd j).bk i)).toNat).n) ((zat zs (((j : Int) - 1) - ((nd j).bk i)).toNat).ac), .slice (zat zs (((j : Int) - 1) - ((nd j).bk i)).toNat).pa ((zat zs (((j : Int) - 1) - ((nd j).bk i)).toNat).m) ((zat zs (((j : Int) - 1) - ((nd j).bk i)).toNat).pc)]) (by kernel_rfl) (.inl (by kernel_rfl)) (by kernel_rfl) rfl (by rw [hI.rows, rowsL_len, hI.wl]) hI.nc hI.cm hI.c0 ⟨rfl, .inr (.inr ⟨_, _, _, rfl, .inl ⟨1, _, _, _, rfl, rfl⟩⟩)⟩ (ones_spec rfl) (by have h9 := (hnd j (by omega)).2.2.bl;have h8 := ((hnd j (by omega)).2.2.bb i (by omega)).2.2;have h7 := hI.kb;have h6 := hI.ni;have h5 := hI.k1;omega) (by have h9 := (hnd j (by omega)).2.2.bl;have h8 := ((hnd j (by omega)).2.2.bb i (by omega)).2.2;have h7 := hI.kb;have h6 := hI.ni;have h5 := hI.k1;simp only [maxLen];omega) (by omega)), fun y111 qy111 => ⟨rfl, ⟨⟨by omega, by have h9 := (hnd j (by omega)).2.2.bl;have h8 := ((hnd j (by omega)).2.2.bb i (by omega)).2.2;have h7 := hI.kb;have h6 := hI.ni;have h5 := hI.k1;omega⟩, ⟨⟨rfl, (rd_K hM.ints (by have h3 := hM.kl;have h9 := (hnd j (by omega)).2.2.bl;have h8 := ((hnd j (by omega)).2.2.bb i (by omega)).2.2;have h7 := hI.kb;have h6 := hI.ni;have h5 := hI.k1;omega))⟩, ⟨(nwI (by have h9 := (hnd j (by omega)).2.2.bl;have h8 := ((hnd j (by omega)).2.2.bb i (by omega)).2.2;have h7 := hI.kb;have h6 := hI.ni;have h5 := hI.k1;have h4 := (hM.all ((j : Int) - 1 - ((nd j).bk i)).toNat (by omega)).2.2.1;omega) (by have h9 := (hnd j (by omega)).2.2.bl;have h8 := ((hnd j (by omega)).2.2.bb i (by omega)).2.2;have h7 := hI.kb;have h6 := hI.ni;have h5 := hI.k1;have h4 := (hM.all ((j : Int) - 1 - ((nd j).bk i)).toNat (by omega)).2.2.1;omega)), ⟨(nwI (by have h9 := (hnd j (by omega)).2.2.bl;have h8 := ((hnd j (by omega)).2.2.bb i (by omega)).2.2;have h7 := hI.kb;have h6 := hI.ni;have h5 := hI.k1;omega) (by have h9 := (hnd j (by omega)).2.2.bl;have h8 := ((hnd j (by omega)).2.2.bb i (by omega)).2.2;have h7 := hI.kb;have h6 := hI.ni;have h5 := hI.k1;omega)), LKn (fun zw => ((i + 1), (k + kat ks ((j : Int) - 1 - ((nd j).bk i)).toNat), (n + 1), (some y111.1), y111.2, (Lw ++ ([vi ((zat zs (((j : Int) - 1) - ((nd j).bk i)).toNat).k), vu ((zat zs (((j : Int) - 1) - ((nd j).bk i)).toNat).id), .string ((zat zs (((j : Int) - 1) - ((nd j).bk i)).toNat).s), .slice (zat zs (((j : Int) - 1) - ((nd j).bk i)).toNat).aa ((zat zs (((j : Int) - 1) - ((nd j).bk i)).toNat).n) ((zat zs (((j : Int) - 1) - ((nd j).bk i)).toNat).ac), .slice (zat zs (((j : Int) - 1) - ((nd j).bk i)).toNat).pa ((zat zs (((j : Int) - 1) - ((nd j).bk i)).toNat).m) ((zat zs (((j : Int) - 1) - ((nd j).bk i)).toNat).pc)] : List Value)), (ws ++ [zat zs ((j : Int) - 1 - ((nd j).bk i)).toNat]), zw)) ⟨⟨rfl, (show WI R (nd j).bn (i + 1) (k + kat ks ((j : Int) - 1 - ((nd j).bk i)).toNat) (n + 1) (some y111.1) y111.2 (Lw ++ ([vi ((zat zs (((j : Int) - 1) - ((nd j).bk i)).toNat).k), vu ((zat zs (((j : Int) - 1) - ((nd j).bk i)).toNat).id), .string ((zat zs (((j : Int) - 1) - ((nd j).bk i)).toNat).s), .slice (zat zs (((j : Int) - 1) - ((nd j).bk i)).toNat).aa ((zat zs (((j : Int) - 1) - ((nd j).bk i)).toNat).n) ((zat zs (((j : Int) - 1) - ((nd j).bk i)).toNat).ac), .slice (zat zs (((j : Int) - 1) - ((nd j).bk i)).toNat).pa ((zat zs (((j : Int) - 1) - ((nd j).bk i)).toNat).m) ((zat zs (((j : Int) - 1) - ((nd j).bk i)).toNat).pc)] : List Value)) (ws ++ [zat zs ((j : Int) - 1 - ((nd j).bk i)).toNat]) from (hI.step hM (by omega) (by have h9 := (hnd j (by omega)).2.2.bl;have h8 := ((hnd j (by omega)).2.2.bb i (by omega)).2.2;have h7 := hI.kb;have h6 := hI.ni;have h5 := hI.k1;omega) qy111.1 qy111.2))⟩, (show (nd j).bn - (i + 1) < (nd j).bn - i from (by omega)), ⟨(by subst hxa108;subst hxa109;rfl), rfl, (by subst hxa108;subst hxa109;rfl)⟩⟩⟩⟩⟩⟩⟩⟩⟩⟩⟩⟩⟩⟩⟩), fun h107 => (have := of_decide_eq_false h107;⟨(nwI (by have h9 := (hnd j (by omega)).2.2.bl;have h8 := ((hnd j (by omega)).2.2.bb i (by omega)).2.2;have h7 := hI.kb;have h6 := hI.ni;have h5 := hI.k1;omega) (by have h9 := (hnd j (by omega)).2.2.bl;have h8 := ((hnd j (by omega)).2.2.bb i (by omega)).2.2;have h7 := hI.kb;have h6 := hI.ni;have h5 := hI.k1;omega)), LKn (fun zw => ((i + 1), k, n, cb, cc, Lw, ws, zw)) ⟨⟨rfl, (show WI R (nd j).bn (i + 1) k n cb cc Lw ws from (hI.skip (by omega)))⟩, (show (nd j).bn - (i + 1) < (nd j).bn - i from (by omega)), ⟨(by show _ = _;kernel_rfl), rfl, rfl⟩⟩⟩)⟩⟩⟩⟩⟩⟩), fun h106 => (have := of_decide_eq_false h106;altA (fun zw => (i, k, n, cb, cc, Lw, ws, zw)) ⟨(show i = (nd j).bn∧WI R (nd j).bn i k n cb cc Lw ws from ⟨by have h9 := hI.ib;omega, hI⟩), (by show _ = _;kernel_rfl), ⟨(by show _ = _;kernel_rfl), (by show _ = _;kernel_rfl), (by show _ = _;kernel_rfl)⟩⟩)⟩)
theorem made_ok_L9_ct (lv : Option Addr) (ln lc LB LO : Nat) (nd : Nat → ND) (a0 : Nat) (j : Nat) (b : Option Nat) (cap : Nat) (Lr : List Value) (b2 : Option Nat) (cap2 : Nat) (Ls : List Value) (u1 : Nat → Value) (a53 : Nat) (a54 : Nat) (zs : List L) (ks : List Nat) (R : RO) (hln : ln ≤ 1048576) (hnd : ∀ j, j < ln → lv = some ⟨LB, LO, none⟩∧R.cells LB (LO + j * 5) (nd j).row∧(nd j).Ok R) (hj : j < ln) (hM : MI R j b cap Lr zs b2 cap2 Ls ks)  : CT Tryd.prog (sub (bodyOf Tryd.f24) [1, 1, 1, 0, 1, 0, 0, 1, 1, 0, 0, 1, 1, 1, 0, 1, 0]) ⟨(.slice lv ln lc::undef::ptA a0::(u1 3)::gsv b j cap::gsv b2 j cap2::vi (j : Int)::ptA a53::ptA a54::vi 1::undef::(u1 11)::(u1 12)::.slice lv ln lc::vi (ln : Int)::vi (j : Int)::.bool true::vi (j : Int)::(ptO LB (LO + Int.toNat (j : Int) * 5))::.agg #[vi ((nd j).k), vu ((nd j).i), .string ((nd j).s), .slice (nd j).ba ((nd j).bn) ((nd j).bc), .slice (nd j).pa ((nd j).pm) ((nd j).pc)]::ptA a53::vi ((nd j).k)::(ptO a53 (1))::vu ((nd j).i)::(ptO a53 (2))::.string ((nd j).s)::(ptO a53 (4))::.slice (nd j).pa ((nd j).pm) ((nd j).pc)::.agg #[vi ((nd j).k), vu ((nd j).i), .string ((nd j).s), .slice none 0 0, .slice (nd j).pa ((nd j).pm) ((nd j).pc)]::(ptO a53 (3))::.slice (nd j).ba ((nd j).bn) ((nd j).bc)::vi (((nd j).bn : Nat) : Int)::vi 0::urun u1 33 56 (uns 10 [])), [], [some (a0, .row [vi 0, vu 0, .string ByteArray.empty, .slice none 0 0, .slice none 0 0] 29 5), gsb b Lr 29 (cap * 5), gsb b2 Ls 3 (cap2 * 1), some (a53, .row [vi ((nd j).k), vu ((nd j).i), .string ((nd j).s), .slice (nd j).ba ((nd j).bn) ((nd j).bc), .slice (nd j).pa ((nd j).pm) ((nd j).pc)] 56 5), some (a54, .row [vi ((nd j).k), vu ((nd j).i), .string ((nd j).s), .slice none 0 0, .slice (nd j).pa ((nd j).pm) ((nd j).pc)] 29 5)]⟩ R (made_ok_L9_K lv ln lc LB LO nd a0 j b cap Lr b2 cap2 Ls u1 a53 a54 zs ks R) :=
  CT.pad 1 <| CT.loop_eqs (made_ok_L9_inv lv ln lc LB LO nd a0 j b cap Lr b2 cap2 Ls u1 a53 a54 zs ks) (made_ok_L9_I lv ln lc LB LO nd a0 j b cap Lr b2 cap2 Ls u1 a53 a54 zs ks R) (made_ok_L9_mu lv ln lc LB LO nd a0 j b cap Lr b2 cap2 Ls u1 a53 a54 zs ks) (fun zw => (0, 1, 0, (none : Option Nat), 0, ([] : List Value), ([] : List L), zw)) (by kernel_rfl) (by kernel_rfl) ⟨rfl, (show WI R (nd j).bn 0 1 0 (none : Option Nat) 0 ([] : List Value) ([] : List L) from (WI.begin R _))⟩
    (by
      rintro ⟨i, k, n, cb, cc, Lw, ws, u55⟩ G hG ⟨rfl, hI⟩
      exact made_ok_L9_body lv ln lc LB LO nd a0 j b cap Lr b2 cap2 Ls u1 a53 a54 zs ks _ hln hnd hj hM i k n cb cc Lw ws u55 hI)
noncomputable def made_ok_L4_inv (lv : Option Addr) (ln lc LB LO : Nat) (nd : Nat → ND) (a0 : Nat)  : Nat×Option Nat×Nat×List Value×List L×Option Nat×Nat×List Value×(List Nat)×NV → St := fun zx => ⟨(.slice lv ln lc::undef::ptA a0::(zx.2.2.2.2.2.2.2.2.2 3)::gsv zx.2.1 zx.1 zx.2.2.1::gsv zx.2.2.2.2.2.1 zx.1 zx.2.2.2.2.2.2.1::urun zx.2.2.2.2.2.2.2.2.2 6 4 (undef::(zx.2.2.2.2.2.2.2.2.2 11)::(zx.2.2.2.2.2.2.2.2.2 12)::.slice lv ln lc::vi (ln : Int)::vi ((zx.1 : Nat) : Int)::urun zx.2.2.2.2.2.2.2.2.2 16 73 (uns 10 []))), [], [some (a0, .row [vi 0, vu 0, .string ByteArray.empty, .slice none 0 0, .slice none 0 0] 29 5), gsb zx.2.1 zx.2.2.2.1 29 (zx.2.2.1 * 5), gsb zx.2.2.2.2.2.1 zx.2.2.2.2.2.2.2.1 3 (zx.2.2.2.2.2.2.1 * 1)]⟩
def made_ok_L4_I (lv : Option Addr) (ln lc LB LO : Nat) (nd : Nat → ND) (a0 : Nat)  (R : RO) : Nat×Option Nat×Nat×List Value×List L×Option Nat×Nat×List Value×(List Nat)×NV → RO → Prop := fun zx G => R.le G∧(zx.1 ≤ ln∧MI G zx.1 zx.2.1 zx.2.2.1 zx.2.2.2.1 zx.2.2.2.2.1 zx.2.2.2.2.2.1 zx.2.2.2.2.2.2.1 zx.2.2.2.2.2.2.2.1 zx.2.2.2.2.2.2.2.2.1)
def made_ok_L4_mu (lv : Option Addr) (ln lc LB LO : Nat) (nd : Nat → ND) (a0 : Nat)  : Nat×Option Nat×Nat×List Value×List L×Option Nat×Nat×List Value×(List Nat)×NV → Nat := fun zx => ln - zx.1
noncomputable def made_ok_L4_K (lv : Option Addr) (ln lc LB LO : Nat) (nd : Nat → ND) (a0 : Nat)  (R : RO) : Exit' → St → RO → Prop := altPost R (.altG (Nat×Option Nat×Nat×List Value×List L×Option Nat×Nat×List Value×(List Nat)×NV) (fun zx G => zx.1 = ln∧MI G zx.1 zx.2.1 zx.2.2.1 zx.2.2.2.1 zx.2.2.2.2.1 zx.2.2.2.2.2.1 zx.2.2.2.2.2.2.1 zx.2.2.2.2.2.2.2.1 zx.2.2.2.2.2.2.2.2.1) (fun zx => (.exit 0, ((made_ok_L4_inv lv ln lc LB LO nd a0 zx).up [] [some (a0, .row [vi 0, vu 0, .string ByteArray.empty, .slice none 0 0, .slice none 0 0] 29 5), gsb zx.2.1 zx.2.2.2.1 29 (zx.2.2.1 * 5), gsb zx.2.2.2.2.2.1 zx.2.2.2.2.2.2.2.1 3 (zx.2.2.2.2.2.2.1 * 1)]))) (fun _ => .altn) (.altG (Nat×Option Nat×Nat×List Value×List L×Option Nat×Nat×List Value×(List Nat)×NV) (fun zx G => True) (fun zx => (.ret, ((made_ok_L4_inv lv ln lc LB LO nd a0 zx).up [(3, .bool false)] [some (a0, .row [vi 0, vu 0, .string ByteArray.empty, .slice none 0 0, .slice none 0 0] 29 5), gsb zx.2.1 zx.2.2.2.1 29 (zx.2.2.1 * 5), gsb zx.2.2.2.2.2.1 zx.2.2.2.2.2.2.2.1 3 (zx.2.2.2.2.2.2.1 * 1)]))) (fun _ => .altn) .altn))
theorem made_ok_L4_body (lv : Option Addr) (ln lc LB LO : Nat) (nd : Nat → ND) (a0 : Nat)  (R0 R : RO) (hle : R0.le R) (hln : ln ≤ 1048576) (hnd : ∀ j, j < ln → lv = some ⟨LB, LO, none⟩∧R.cells LB (LO + j * 5) (nd j).row∧(nd j).Ok R) (j : Nat) (b : Option Nat) (cap : Nat) (Lr : List Value) (zs : List L) (b2 : Option Nat) (cap2 : Nat) (Ls : List Value) (ks : List Nat) (u1 : Nat → Value) (hI : j ≤ ln∧MI R j b cap Lr zs b2 cap2 Ls ks) : CT Tryd.prog (sub (bodyOf Tryd.f24) [1, 1, 1, 0, 1, 0, 0]) (made_ok_L4_inv lv ln lc LB LO nd a0 (j, b, cap, Lr, zs, b2, cap2, Ls, ks, u1)) R (LK (made_ok_L4_inv lv ln lc LB LO nd a0) (made_ok_L4_I lv ln lc LB LO nd a0 R0) (made_ok_L4_mu lv ln lc LB LO nd a0) (made_ok_L4_K lv ln lc LB LO nd a0 R0) (j, b, cap, Lr, zs, b2, cap2, Ls, ks, u1)) :=
  CT.of_wp_eq (VC := (let z12 := (made_ok_L4_mu lv ln lc LB LO nd a0);let z11 := (made_ok_L4_inv lv ln lc LB LO nd a0);let z10 := (made_ok_L4_K lv ln lc LB LO nd a0 R0);let z9 := (made_ok_L4_I lv ln lc LB LO nd a0 R0);let z8 := (((nd j).bn : Nat) : Int);let z5 : Option Addr := (some ⟨LB, LO + Int.toNat (j : Int) * 5, none⟩);let z4 : List Value := [vi 0, vu 0, .string ByteArray.empty, .slice none 0 0, .slice none 0 0];let z3 : Array Value := #[vi ((nd j).k), vu ((nd j).i), .string ((nd j).s), .slice none 0 0, .slice (nd j).pa ((nd j).pm) ((nd j).pc)];let z2 : Array Value := #[vi ((nd j).k), vu ((nd j).i), .string ((nd j).s), .slice (nd j).ba ((nd j).bn) ((nd j).bc), .slice (nd j).pa ((nd j).pm) ((nd j).pc)];let z1 : List Value := [vi ((nd j).k), vu ((nd j).i), .string ((nd j).s), .slice (nd j).ba ((nd j).bn) ((nd j).bc), .slice (nd j).pa ((nd j).pm) ((nd j).pc)];((decide ((j : Int) < (ln : Int))) = true → (lv = some ⟨LB, LO, none⟩∧(0 : Int) ≤ (j : Int)∧((j : Int) : Int) < (ln : Int))∧(R.cells LB (LO + Int.toNat (j : Int) * 5) z1)∧∀ a53 : Nat, (a53 = a53)∧(a53 = a53)∧(a53 = a53)∧(a53 = a53)∧(a53 = a53)∧∀ a54 : Nat, (a54 = a54)∧(a53 = a53)∧(CT Tryd.prog (sub (bodyOf Tryd.f24) [1, 1, 1, 0, 1, 0, 0, 1, 1, 0, 0, 1, 1, 1, 0, 1, 0]) ⟨(.slice lv ln lc::undef::ptA a0::(u1 3)::gsv b j cap::gsv b2 j cap2::vi (j : Int)::ptA a53::ptA a54::vi 1::undef::(u1 11)::(u1 12)::.slice lv ln lc::vi (ln : Int)::vi (j : Int)::.bool true::vi (j : Int)::.pointer z5::.agg z2::ptA a53::vi ((nd j).k)::(ptO a53 (1))::vu ((nd j).i)::(ptO a53 (2))::.string ((nd j).s)::(ptO a53 (4))::.slice (nd j).pa ((nd j).pm) ((nd j).pc)::.agg z3::(ptO a53 (3))::.slice (nd j).ba ((nd j).bn) ((nd j).bc)::vi z8::vi 0::urun u1 33 56 (uns 10 [])), [], [some (a0, .row z4 29 5), gsb b Lr 29 (cap * 5), gsb b2 Ls 3 (cap2 * 1), some (a53, .row z1 56 5), some (a54, .row [vi ((nd j).k), vu ((nd j).i), .string ((nd j).s), .slice none 0 0, .slice (nd j).pa ((nd j).pm) ((nd j).pc)] 29 5)]⟩ R (made_ok_L9_K lv ln lc LB LO nd a0 j b cap Lr b2 cap2 Ls u1 a53 a54 zs ks R))∧(∀ x56 : Nat×Nat×Nat×Option Nat×Nat×List Value×List L×NV, let z6 := (x56.2.1 : Int);let z0 : List Value := [vi ((nd j).k), vu ((nd j).i), .string ((nd j).s), gsv x56.2.2.2.1 x56.2.2.1 x56.2.2.2.2.1, .slice (nd j).pa ((nd j).pm) ((nd j).pc)];let z7 : Hp := [some (a0, .row z4 29 5), gsb b Lr 29 (cap * 5), gsb b2 Ls 3 (cap2 * 1), some (a53, .row z1 56 5), some (a54, .row z0 29 5), none];(x56.1 = (nd j).bn∧WI R (nd j).bn x56.1 x56.2.1 x56.2.2.1 x56.2.2.2.1 x56.2.2.2.2.1 x56.2.2.2.2.2.1 x56.2.2.2.2.2.2.1) → (CT Tryd.prog (sub (bodyOf Tryd.f24) [1, 1, 1, 0, 1, 0, 0, 1, 1, 0, 0, 1, 1, 1, 1, 0, 0]) ⟨(.slice lv ln lc::undef::ptA a0::(u1 3)::gsv b j cap::gsv b2 j cap2::vi (j : Int)::ptA a53::ptA a54::vi z6::undef::(x56.2.2.2.2.2.2.2 11)::(x56.2.2.2.2.2.2.2 12)::.slice lv ln lc::vi (ln : Int)::vi (j : Int)::.bool true::vi (j : Int)::.pointer z5::.agg z2::ptA a53::vi ((nd j).k)::(ptO a53 (1))::vu ((nd j).i)::(ptO a53 (2))::.string ((nd j).s)::(ptO a53 (4))::.slice (nd j).pa ((nd j).pm) ((nd j).pc)::.agg z3::(ptO a53 (3))::.slice (nd j).ba ((nd j).bn) ((nd j).bc)::vi z8::vi (x56.1 : Int)::urun x56.2.2.2.2.2.2.2 33 26 (urun u1 59 30 (uns 10 []))), [], [some (a0, .row z4 29 5), gsb b Lr 29 (cap * 5), gsb b2 Ls 3 (cap2 * 1), some (a53, .row z1 56 5), some (a54, .row z0 29 5), gsb x56.2.2.2.1 x56.2.2.2.2.2.1 29 (x56.2.2.2.2.1 * 5)]⟩ R (altPost R (.altG (Bool×NV) (fun zx G => (zx.1 = false → x56.2.1 ≤ 300∧(nd j).s.size ≤ 60∧(nd j).pm ≤ 20∧(nd j).bn ≤ 20)∧∀ a, x56.2.2.2.1 = some a → G.cells a 0 x56.2.2.2.2.2.1) (fun zx => (.normal, ⟨(.slice lv ln lc::undef::ptA a0::(u1 3)::gsv b j cap::gsv b2 j cap2::vi (j : Int)::ptA a53::ptA a54::vi z6::undef::(x56.2.2.2.2.2.2.2 11)::(x56.2.2.2.2.2.2.2 12)::.slice lv ln lc::vi (ln : Int)::vi (j : Int)::.bool true::vi (j : Int)::.pointer z5::.agg z2::ptA a53::vi ((nd j).k)::(ptO a53 (1))::vu ((nd j).i)::(ptO a53 (2))::.string ((nd j).s)::(ptO a53 (4))::.slice (nd j).pa ((nd j).pm) ((nd j).pc)::.agg z3::(ptO a53 (3))::.slice (nd j).ba ((nd j).bn) ((nd j).bc)::vi z8::vi (x56.1 : Int)::urun x56.2.2.2.2.2.2.2 33 26 (urun zx.2 59 19 (.bool zx.1::urun u1 79 10 (uns 10 [])))), [], z7⟩)) (fun _ => .altn) .altn)))∧(∀ (x62 : Bool×NV) (G63 : RO), R.le G63 → ((x62.1 = false → x56.2.1 ≤ 300∧(nd j).s.size ≤ 60∧(nd j).pm ≤ 20∧(nd j).bn ≤ 20)∧∀ a, x56.2.2.2.1 = some a → G63.cells a 0 x56.2.2.2.2.2.1) → ((x62.1) = true → (a0 = a0)∧LK z11 z9 z12 z10 (j, b, cap, Lr, zs, b2, cap2, Ls, ks, u1) (.ret) ⟨(.slice lv ln lc::undef::ptA a0::.bool false::gsv b j cap::gsv b2 j cap2::vi (j : Int)::ptA a53::ptA a54::vi z6::undef::(x56.2.2.2.2.2.2.2 11)::(x56.2.2.2.2.2.2.2 12)::.slice lv ln lc::vi (ln : Int)::vi (j : Int)::.bool true::vi (j : Int)::.pointer z5::.agg z2::ptA a53::vi ((nd j).k)::(ptO a53 (1))::vu ((nd j).i)::(ptO a53 (2))::.string ((nd j).s)::(ptO a53 (4))::.slice (nd j).pa ((nd j).pm) ((nd j).pc)::.agg z3::(ptO a53 (3))::.slice (nd j).ba ((nd j).bn) ((nd j).bc)::vi z8::vi (x56.1 : Int)::urun x56.2.2.2.2.2.2.2 33 26 (urun x62.2 59 19 (.bool true::.agg #[vi 0, vu 0, .string ByteArray.empty, .slice none 0 0, .slice none 0 0]::urun u1 80 9 (uns 10 [])))), [], z7⟩ G63)∧((x62.1) = false → (a54 = a54)∧∀ a95 : Nat, (PrimOK Tryd.prog (.app 25 25 25 (gsv b j cap) (slA a95 1 1)) G63 [gsb b Lr 29 (cap * 5), some (a95, .row z0 29 5)] (Nat×Nat) (fun y96 => j + 1 ≤ y96.2∧y96.2 ≤ maxLen) (fun y96 => (.slice (some ⟨y96.1, 0, none⟩) (j + 1) y96.2, [some (y96.1, .row (Lr ++ (z0 : List Value)) 29 (y96.2 * 5)), some (a95, .row z0 29 5)])))∧∀ y96 : Nat×Nat, (j + 1 ≤ y96.2∧y96.2 ≤ maxLen) → ∀ a97 : Nat, (PrimOK Tryd.prog (.app 38 38 38 (gsv b2 j cap2) (slA a97 1 1)) G63 [gsb b2 Ls 3 (cap2 * 1), some (a97, .row [vi z6] 3 1)] (Nat×Nat) (fun y98 => j + 1 ≤ y98.2∧y98.2 ≤ maxLen) (fun y98 => (.slice (some ⟨y98.1, 0, none⟩) (j + 1) y98.2, [some (y98.1, .row (Ls ++ ([vi z6] : List Value)) 3 (y98.2 * 1)), some (a97, .row [vi z6] 3 1)])))∧∀ y98 : Nat×Nat, (j + 1 ≤ y98.2∧y98.2 ≤ maxLen) → (NW .i64 ((j : Int) + 1))∧LK z11 z9 z12 z10 (j, b, cap, Lr, zs, b2, cap2, Ls, ks, u1) .normal ⟨(.slice lv ln lc::undef::ptA a0::(u1 3)::.slice (some ⟨y96.1, 0, none⟩) (j + 1) y96.2::.slice (some ⟨y98.1, 0, none⟩) (j + 1) y98.2::vi (j : Int)::ptA a53::ptA a54::vi z6::undef::(x56.2.2.2.2.2.2.2 11)::(x56.2.2.2.2.2.2.2 12)::.slice lv ln lc::vi (ln : Int)::vi ((j : Int) + 1)::.bool true::vi (j : Int)::.pointer z5::.agg z2::ptA a53::vi ((nd j).k)::(ptO a53 (1))::vu ((nd j).i)::(ptO a53 (2))::.string ((nd j).s)::(ptO a53 (4))::.slice (nd j).pa ((nd j).pm) ((nd j).pc)::.agg z3::(ptO a53 (3))::.slice (nd j).ba ((nd j).bn) ((nd j).bc)::vi z8::vi (x56.1 : Int)::urun x56.2.2.2.2.2.2.2 33 26 (urun x62.2 59 19 (.bool false::(u1 79)::gsv b j cap::.agg #[vi ((nd j).k), vu ((nd j).i), .string ((nd j).s), gsv x56.2.2.2.1 x56.2.2.1 x56.2.2.2.2.1, .slice (nd j).pa ((nd j).pm) ((nd j).pc)]::slA a95 1 1::.slice (some ⟨y96.1, 0, none⟩) (j + 1) y96.2::gsv b2 j cap2::vi z6::slA a97 1 1::.slice (some ⟨y98.1, 0, none⟩) (j + 1) y98.2::vi ((j : Int) + 1)::uns 10 []))), [], [some (a0, .row z4 29 5), some (y96.1, .row (Lr ++ (z0 : List Value)) 29 (y96.2 * 5)), some (y98.1, .row (Ls ++ ([vi z6] : List Value)) 3 (y98.2 * 1)), some (a53, .row z1 56 5), some (a54, .row z0 29 5), none, some (a95, .row z0 29 5), some (a97, .row [vi z6] 3 1)]⟩ G63))∧True)∧True)∧((decide ((j : Int) < (ln : Int))) = false → LK z11 z9 z12 z10 (j, b, cap, Lr, zs, b2, cap2, Ls, ks, u1) (.exit 0) ((made_ok_L4_inv lv ln lc LB LO nd a0 (j, b, cap, Lr, zs, b2, cap2, Ls, ks, u1)).up [(16, .bool false)] [some (a0, .row z4 29 5), gsb b Lr 29 (cap * 5), gsb b2 Ls 3 (cap2 * 1)]) R))) (let y_2 : List Value := [vi 0, vu 0, .string ByteArray.empty, .slice none 0 0, .slice none 0 0];let y_0 : List Value := [vi ((nd j).k), vu ((nd j).i), .string ((nd j).s), .slice (nd j).ba ((nd j).bn) ((nd j).bc), .slice (nd j).pa ((nd j).pm) ((nd j).pc)];ops [.d] (.sp 16 (ops [.d, .ib LB LO, .ro (fun v => y_0)] (.opn 3 (fun a53 => (ops [.d, .p 3, .d, .p 3, .d, .p 3, .d, .p 3, .d, .p 3, .d] (.opn 4 (fun a54 => (ops [.p 4, .d, .d, .p 3, .d, .d] (.alt (Nat×Nat×Nat×Option Nat×Nat×List Value×List L×NV) (fun zx => zx.1 = (nd j).bn∧WI R (nd j).bn zx.1 zx.2.1 zx.2.2.1 zx.2.2.2.1 zx.2.2.2.2.1 zx.2.2.2.2.2.1 zx.2.2.2.2.2.2.1) (fun zx => (.exit 2, ((made_ok_L9_inv lv ln lc LB LO nd a0 j b cap Lr b2 cap2 Ls u1 a53 a54 zs ks zx).up [] [some (a0, .row y_2 29 5), gsb b Lr 29 (cap * 5), gsb b2 Ls 3 (cap2 * 1), some (a53, .row y_0 56 5), some (a54, .row [vi ((nd j).k), vu ((nd j).i), .string ((nd j).s), gsv zx.2.2.2.1 zx.2.2.1 zx.2.2.2.2.1, .slice (nd j).pa ((nd j).pm) ((nd j).pc)] 29 5), gsb zx.2.2.2.1 zx.2.2.2.2.2.1 29 (zx.2.2.2.2.1 * 5)]))) (fun x56 => let y_1 : List Value := [vi ((nd j).k), vu ((nd j).i), .string ((nd j).s), gsv x56.2.2.2.1 x56.2.2.1 x56.2.2.2.2.1, .slice (nd j).pa ((nd j).pm) ((nd j).pc)];(.altG (Bool×NV) (fun zx G => (zx.1 = false → x56.2.1 ≤ 300∧(nd j).s.size ≤ 60∧(nd j).pm ≤ 20∧(nd j).bn ≤ 20)∧∀ a, x56.2.2.2.1 = some a → G.cells a 0 x56.2.2.2.2.2.1) (fun zx => (.normal, ⟨(.slice lv ln lc::undef::ptA a0::(u1 3)::gsv b j cap::gsv b2 j cap2::vi (j : Int)::ptA a53::ptA a54::vi ((x56.2.1 : Nat) : Int)::undef::(x56.2.2.2.2.2.2.2 11)::(x56.2.2.2.2.2.2.2 12)::.slice lv ln lc::vi (ln : Int)::vi (j : Int)::.bool true::vi (j : Int)::(ptO LB (LO + Int.toNat (j : Int) * 5))::.agg #[vi ((nd j).k), vu ((nd j).i), .string ((nd j).s), .slice (nd j).ba ((nd j).bn) ((nd j).bc), .slice (nd j).pa ((nd j).pm) ((nd j).pc)]::ptA a53::vi ((nd j).k)::(ptO a53 (1))::vu ((nd j).i)::(ptO a53 (2))::.string ((nd j).s)::(ptO a53 (4))::.slice (nd j).pa ((nd j).pm) ((nd j).pc)::.agg #[vi ((nd j).k), vu ((nd j).i), .string ((nd j).s), .slice none 0 0, .slice (nd j).pa ((nd j).pm) ((nd j).pc)]::(ptO a53 (3))::.slice (nd j).ba ((nd j).bn) ((nd j).bc)::vi (((nd j).bn : Nat) : Int)::vi ((x56.1 : Nat) : Int)::urun x56.2.2.2.2.2.2.2 33 26 (urun zx.2 59 19 (.bool zx.1::urun u1 79 10 (uns 10 [])))), [], [some (a0, .row y_2 29 5), gsb b Lr 29 (cap * 5), gsb b2 Ls 3 (cap2 * 1), some (a53, .row y_0 56 5), some (a54, .row y_1 29 5), none]⟩)) (fun x62 => (.sp 78 (ops [.d, .p 0, .d] (.fin [] [])) (ops [.d, .p 4] (.opn 6 (fun a95 => (.opp [1, 6] [] (Nat×Nat) (fun y96 => j + 1 ≤ y96.2∧y96.2 ≤ maxLen) (fun y96 => (.slice (some ⟨y96.1, 0, none⟩) (j + 1) y96.2, [some (y96.1, .row (Lr ++ (y_1 : List Value)) 29 (y96.2 * 5)), some (a95, .row y_1 29 5)])) (fun y96 => (ops [.d, .d] (.opn 7 (fun a97 => (.opp [2, 7] [] (Nat×Nat) (fun y98 => j + 1 ≤ y98.2∧y98.2 ≤ maxLen) (fun y98 => (.slice (some ⟨y98.1, 0, none⟩) (j + 1) y98.2, [some (y98.1, .row (Ls ++ ([vi ((x56.2.1 : Nat) : Int)] : List Value)) 3 (y98.2 * 1)), some (a97, .row [vi ((x56.2.1 : Nat) : Int)] 3 1)])) (fun y98 => (ops [.d, .d, .nw, .d] (.fin [] [])))))))))))))) .altn)) .altn)))))))) (.fin [] []))) (by kernel_rfl)
    (⟨fun h52 => (have := of_decide_eq_true h52;⟨⟨(hnd j (by omega)).1, by omega, by omega⟩, ⟨(hnd j (by omega)).2.1, fun a53 => ⟨rfl, ⟨rfl, ⟨rfl, ⟨rfl, ⟨rfl, fun a54 => ⟨rfl, ⟨rfl, ⟨made_ok_L9_ct lv ln lc LB LO nd a0 j b cap Lr b2 cap2 Ls u1 a53 a54 zs ks R hln hnd (by omega) hI.2, ⟨fun x56 qx56 => ⟨CT.frz 5 rfl (fun S hS hc => (have hle := RO.le_trans hle hS;have hnd := hnd_mono hS hnd;have hI := And.intro hI.1 (MI.mono hS hI.2);have qx56 := And.intro qx56.1 (qx56.2.mono hS); show CT Tryd.prog (sub (bodyOf Tryd.f24) [1, 1, 1, 0, 1, 0, 0, 1, 1, 0, 0, 1, 1, 1, 1, 0, 0]) ⟨(.slice lv ln lc::undef::ptA a0::(u1 3)::gsv b j cap::gsv b2 j cap2::vi (j : Int)::ptA a53::ptA a54::vi ((x56.2.1 : Nat) : Int)::undef::(x56.2.2.2.2.2.2.2 11)::(x56.2.2.2.2.2.2.2 12)::.slice lv ln lc::vi (ln : Int)::vi (j : Int)::.bool true::vi (j : Int)::(ptO LB (LO + Int.toNat (j : Int) * 5))::.agg #[vi ((nd j).k), vu ((nd j).i), .string ((nd j).s), .slice (nd j).ba ((nd j).bn) ((nd j).bc), .slice (nd j).pa ((nd j).pm) ((nd j).pc)]::ptA a53::vi ((nd j).k)::(ptO a53 (1))::vu ((nd j).i)::(ptO a53 (2))::.string ((nd j).s)::(ptO a53 (4))::.slice (nd j).pa ((nd j).pm) ((nd j).pc)::.agg #[vi ((nd j).k), vu ((nd j).i), .string ((nd j).s), .slice none 0 0, .slice (nd j).pa ((nd j).pm) ((nd j).pc)]::(ptO a53 (3))::.slice (nd j).ba ((nd j).bn) ((nd j).bc)::vi (((nd j).bn : Nat) : Int)::vi ((x56.1 : Nat) : Int)::urun x56.2.2.2.2.2.2.2 33 26 (urun u1 59 30 (uns 10 []))), [], [some (a0, .row [vi 0, vu 0, .string ByteArray.empty, .slice none 0 0, .slice none 0 0] 29 5), gsb b Lr 29 (cap * 5), gsb b2 Ls 3 (cap2 * 1), some (a53, .row [vi ((nd j).k), vu ((nd j).i), .string ((nd j).s), .slice (nd j).ba ((nd j).bn) ((nd j).bc), .slice (nd j).pa ((nd j).pm) ((nd j).pc)] 56 5), some (a54, .row [vi ((nd j).k), vu ((nd j).i), .string ((nd j).s), gsv x56.2.2.2.1 x56.2.2.1 x56.2.2.2.2.1, .slice (nd j).pa ((nd j).pm) ((nd j).pc)] 29 5), none]⟩ S (altPost R (.altG (Bool×NV) (fun zx G => (zx.1 = false → x56.2.1 ≤ 300∧(nd j).s.size ≤ 60∧(nd j).pm ≤ 20∧(nd j).bn ≤ 20)∧∀ a, x56.2.2.2.1 = some a → G.cells a 0 x56.2.2.2.2.2.1) (fun zx => (.normal, ⟨(.slice lv ln lc::undef::ptA a0::(u1 3)::gsv b j cap::gsv b2 j cap2::vi (j : Int)::ptA a53::ptA a54::vi ((x56.2.1 : Nat) : Int)::undef::(x56.2.2.2.2.2.2.2 11)::(x56.2.2.2.2.2.2.2 12)::.slice lv ln lc::vi (ln : Int)::vi (j : Int)::.bool true::vi (j : Int)::(ptO LB (LO + Int.toNat (j : Int) * 5))::.agg #[vi ((nd j).k), vu ((nd j).i), .string ((nd j).s), .slice (nd j).ba ((nd j).bn) ((nd j).bc), .slice (nd j).pa ((nd j).pm) ((nd j).pc)]::ptA a53::vi ((nd j).k)::(ptO a53 (1))::vu ((nd j).i)::(ptO a53 (2))::.string ((nd j).s)::(ptO a53 (4))::.slice (nd j).pa ((nd j).pm) ((nd j).pc)::.agg #[vi ((nd j).k), vu ((nd j).i), .string ((nd j).s), .slice none 0 0, .slice (nd j).pa ((nd j).pm) ((nd j).pc)]::(ptO a53 (3))::.slice (nd j).ba ((nd j).bn) ((nd j).bc)::vi (((nd j).bn : Nat) : Int)::vi ((x56.1 : Nat) : Int)::urun x56.2.2.2.2.2.2.2 33 26 (urun zx.2 59 19 (.bool zx.1::urun u1 79 10 (uns 10 [])))), [], [some (a0, .row [vi 0, vu 0, .string ByteArray.empty, .slice none 0 0, .slice none 0 0] 29 5), gsb b Lr 29 (cap * 5), gsb b2 Ls 3 (cap2 * 1), some (a53, .row [vi ((nd j).k), vu ((nd j).i), .string ((nd j).s), .slice (nd j).ba ((nd j).bn) ((nd j).bc), .slice (nd j).pa ((nd j).pm) ((nd j).pc)] 56 5), some (a54, .row [vi ((nd j).k), vu ((nd j).i), .string ((nd j).s), gsv x56.2.2.2.1 x56.2.2.1 x56.2.2.2.2.1, .slice (nd j).pa ((nd j).pm) ((nd j).pc)] 29 5), none]⟩)) (fun _ => .altn) .altn)) from CT.of_wp_eq (VC := (let z12 := (((nd j).s).size : Int);let z11 : List Value := (.bool true::urun u1 79 10 (uns 10 []));let z10 := (x56.2.2.2.2.2.2.2 12);let z9 := (x56.2.2.2.2.2.2.2 11);let z8 := (((nd j).bn : Nat) : Int);let z7 := (decide ((((nd j).pm : Nat) : Int) > 20));let z6 : Option Addr := (some ⟨LB, LO + Int.toNat (j : Int) * 5, none⟩);let z5 := (decide (z12 > 60));let z4 := ((x56.2.1 : Nat) : Int);let z3 : Array Value := #[vi ((nd j).k), vu ((nd j).i), .string ((nd j).s), .slice none 0 0, .slice (nd j).pa ((nd j).pm) ((nd j).pc)];let z2 : Array Value := #[vi ((nd j).k), vu ((nd j).i), .string ((nd j).s), .slice (nd j).ba ((nd j).bn) ((nd j).bc), .slice (nd j).pa ((nd j).pm) ((nd j).pc)];let z1 : Hp := [some (a0, .row [vi 0, vu 0, .string ByteArray.empty, .slice none 0 0, .slice none 0 0] 29 5), gsb b Lr 29 (cap * 5), gsb b2 Ls 3 (cap2 * 1), some (a53, .row [vi ((nd j).k), vu ((nd j).i), .string ((nd j).s), .slice (nd j).ba ((nd j).bn) ((nd j).bc), .slice (nd j).pa ((nd j).pm) ((nd j).pc)] 56 5), some (a54, .row [vi ((nd j).k), vu ((nd j).i), .string ((nd j).s), gsv x56.2.2.2.1 x56.2.2.1 x56.2.2.2.2.1, .slice (nd j).pa ((nd j).pm) ((nd j).pc)] 29 5), none];let z0 : Sc := (.altG (Bool×NV) (fun zx G => (zx.1 = false → x56.2.1 ≤ 300∧(nd j).s.size ≤ 60∧(nd j).pm ≤ 20∧(nd j).bn ≤ 20)∧∀ a, x56.2.2.2.1 = some a → G.cells a 0 x56.2.2.2.2.2.1) (fun zx => (.normal, ⟨(.slice lv ln lc::undef::ptA a0::(u1 3)::gsv b j cap::gsv b2 j cap2::vi (j : Int)::ptA a53::ptA a54::vi z4::undef::z9::z10::.slice lv ln lc::vi (ln : Int)::vi (j : Int)::.bool true::vi (j : Int)::.pointer z6::.agg z2::ptA a53::vi ((nd j).k)::(ptO a53 (1))::vu ((nd j).i)::(ptO a53 (2))::.string ((nd j).s)::(ptO a53 (4))::.slice (nd j).pa ((nd j).pm) ((nd j).pc)::.agg z3::(ptO a53 (3))::.slice (nd j).ba ((nd j).bn) ((nd j).bc)::vi z8::vi ((x56.1 : Nat) : Int)::urun x56.2.2.2.2.2.2.2 33 26 (urun zx.2 59 19 (.bool zx.1::urun u1 79 10 (uns 10 [])))), [], z1⟩)) (fun _ => .altn) .altn);((decide (z4 > 300)) = true → altPost R z0 .normal ⟨(.slice lv ln lc::undef::ptA a0::(u1 3)::gsv b j cap::gsv b2 j cap2::vi (j : Int)::ptA a53::ptA a54::vi z4::undef::z9::z10::.slice lv ln lc::vi (ln : Int)::vi (j : Int)::.bool true::vi (j : Int)::.pointer z6::.agg z2::ptA a53::vi ((nd j).k)::(ptO a53 (1))::vu ((nd j).i)::(ptO a53 (2))::.string ((nd j).s)::(ptO a53 (4))::.slice (nd j).pa ((nd j).pm) ((nd j).pc)::.agg z3::(ptO a53 (3))::.slice (nd j).ba ((nd j).bn) ((nd j).bc)::vi z8::vi ((x56.1 : Nat) : Int)::urun x56.2.2.2.2.2.2.2 33 26 (vi z4::.bool (decide (z4 > 300))::.bool true::uns 4 (.bool true::.bool true::uns 4 (.bool true::.bool true::uns 4 z11)))), [], z1⟩ S)∧((decide (z4 > 300)) = false → (a53 = a53)∧(z5 = true → altPost R z0 .normal ⟨(.slice lv ln lc::undef::ptA a0::(u1 3)::gsv b j cap::gsv b2 j cap2::vi (j : Int)::ptA a53::ptA a54::vi z4::undef::z9::z10::.slice lv ln lc::vi (ln : Int)::vi (j : Int)::.bool true::vi (j : Int)::.pointer z6::.agg z2::ptA a53::vi ((nd j).k)::(ptO a53 (1))::vu ((nd j).i)::(ptO a53 (2))::.string ((nd j).s)::(ptO a53 (4))::.slice (nd j).pa ((nd j).pm) ((nd j).pc)::.agg z3::(ptO a53 (3))::.slice (nd j).ba ((nd j).bn) ((nd j).bc)::vi z8::vi ((x56.1 : Nat) : Int)::urun x56.2.2.2.2.2.2.2 33 26 (vi z4::.bool (decide (z4 > 300))::.bool false::(ptO a53 (2))::.string ((nd j).s)::vi z12::.bool z5::.bool z5::.bool true::uns 4 (.bool true::.bool true::uns 4 z11))), [], z1⟩ S)∧(z5 = false → (a53 = a53)∧(z7 = true → altPost R z0 .normal ⟨(.slice lv ln lc::undef::ptA a0::(u1 3)::gsv b j cap::gsv b2 j cap2::vi (j : Int)::ptA a53::ptA a54::vi z4::undef::z9::z10::.slice lv ln lc::vi (ln : Int)::vi (j : Int)::.bool true::vi (j : Int)::.pointer z6::.agg z2::ptA a53::vi ((nd j).k)::(ptO a53 (1))::vu ((nd j).i)::(ptO a53 (2))::.string ((nd j).s)::(ptO a53 (4))::.slice (nd j).pa ((nd j).pm) ((nd j).pc)::.agg z3::(ptO a53 (3))::.slice (nd j).ba ((nd j).bn) ((nd j).bc)::vi z8::vi ((x56.1 : Nat) : Int)::urun x56.2.2.2.2.2.2.2 33 26 (vi z4::.bool (decide (z4 > 300))::.bool false::(ptO a53 (2))::.string ((nd j).s)::vi z12::.bool z5::.bool z5::.bool false::(ptO a53 (4))::.slice (nd j).pa ((nd j).pm) ((nd j).pc)::vi (((nd j).pm : Nat) : Int)::.bool z7::.bool z7::.bool true::uns 4 z11)), [], z1⟩ S)∧(z7 = false → (a53 = a53)∧altPost R z0 .normal ⟨(.slice lv ln lc::undef::ptA a0::(u1 3)::gsv b j cap::gsv b2 j cap2::vi (j : Int)::ptA a53::ptA a54::vi z4::undef::z9::z10::.slice lv ln lc::vi (ln : Int)::vi (j : Int)::.bool true::vi (j : Int)::.pointer z6::.agg z2::ptA a53::vi ((nd j).k)::(ptO a53 (1))::vu ((nd j).i)::(ptO a53 (2))::.string ((nd j).s)::(ptO a53 (4))::.slice (nd j).pa ((nd j).pm) ((nd j).pc)::.agg z3::(ptO a53 (3))::.slice (nd j).ba ((nd j).bn) ((nd j).bc)::vi z8::vi ((x56.1 : Nat) : Int)::urun x56.2.2.2.2.2.2.2 33 26 (vi z4::.bool (decide (z4 > 300))::.bool false::(ptO a53 (2))::.string ((nd j).s)::vi z12::.bool z5::.bool z5::.bool false::(ptO a53 (4))::.slice (nd j).pa ((nd j).pm) ((nd j).pc)::vi (((nd j).pm : Nat) : Int)::.bool z7::.bool z7::.bool false::(ptO a53 (3))::.slice (nd j).ba ((nd j).bn) ((nd j).bc)::vi z8::.bool (decide (z8 > 20))::.bool (decide (z8 > 20))::urun u1 79 10 (uns 10 []))), [], z1⟩ S))))) (ops [.d, .d, .d] (.sp 61 (ops [.d, .d, .d, .d, .d] (.fin [] [])) (ops [.d, .p 3, .d, .d, .d, .d] (.sp 67 (ops [.d, .d, .d] (.fin [] [])) (ops [.d, .p 3, .d, .d, .d, .d] (.sp 73 (ops [.d] (.fin [] [])) (ops [.d, .p 3, .d, .d, .d] (.fin [] [])))))))) (by kernel_rfl) (⟨fun h62 => (have := of_decide_eq_true h62;altGA (fun zw => (true, zw)) ⟨(show (true = false → x56.2.1 ≤ 300∧(nd j).s.size ≤ 60∧(nd j).pm ≤ 20∧(nd j).bn ≤ 20)∧∀ a, x56.2.2.2.1 = some a → S.cells a 0 x56.2.2.2.2.2.1 from ⟨fun h9 => (by first | (exact absurd h9 (by decide)) | (have := of_decide_eq_false h9;exact ⟨by omega, by omega, by omega, by omega⟩)), hc⟩), rfl, ⟨rfl, rfl, rfl⟩⟩), fun h62 => (have := of_decide_eq_false h62;⟨rfl, ⟨fun h63 => (have := of_decide_eq_true h63;altGA (fun zw => (true, zw)) ⟨(show (true = false → x56.2.1 ≤ 300∧(nd j).s.size ≤ 60∧(nd j).pm ≤ 20∧(nd j).bn ≤ 20)∧∀ a, x56.2.2.2.1 = some a → S.cells a 0 x56.2.2.2.2.2.1 from ⟨fun h9 => (by first | (exact absurd h9 (by decide)) | (have := of_decide_eq_false h9;exact ⟨by omega, by omega, by omega, by omega⟩)), hc⟩), rfl, ⟨rfl, rfl, rfl⟩⟩), fun h63 => (have := of_decide_eq_false h63;⟨rfl, ⟨fun h64 => (have := of_decide_eq_true h64;altGA (fun zw => (true, zw)) ⟨(show (true = false → x56.2.1 ≤ 300∧(nd j).s.size ≤ 60∧(nd j).pm ≤ 20∧(nd j).bn ≤ 20)∧∀ a, x56.2.2.2.1 = some a → S.cells a 0 x56.2.2.2.2.2.1 from ⟨fun h9 => (by first | (exact absurd h9 (by decide)) | (have := of_decide_eq_false h9;exact ⟨by omega, by omega, by omega, by omega⟩)), hc⟩), rfl, ⟨rfl, rfl, rfl⟩⟩), fun h64 => (have := of_decide_eq_false h64;⟨rfl, altGA (fun zw => (decide ((((nd j).bn : Nat) : Int) > 20), zw)) ⟨(show ((decide ((((nd j).bn : Nat) : Int) > 20)) = false → x56.2.1 ≤ 300∧(nd j).s.size ≤ 60∧(nd j).pm ≤ 20∧(nd j).bn ≤ 20)∧∀ a, x56.2.2.2.1 = some a → S.cells a 0 x56.2.2.2.2.2.1 from ⟨fun h9 => (by first | (exact absurd h9 (by decide)) | (have := of_decide_eq_false h9;exact ⟨by omega, by omega, by omega, by omega⟩)), hc⟩), rfl, ⟨rfl, rfl, rfl⟩⟩⟩)⟩⟩)⟩⟩)⟩))), ⟨fun x62 G63 hG63 qx62 => (have hle := RO.le_trans hle hG63;have hnd := hnd_mono hG63 hnd;have hI := And.intro hI.1 (MI.mono hG63 hI.2);have qx56 := And.intro qx56.1 (qx56.2.mono hG63);⟨fun h94 => ⟨rfl, LKr (Or.inr (altGA (G := G63) (fun zw => (j, b, cap, Lr, zs, b2, cap2, Ls, ks, zw)) ⟨(show True from trivial), (by show _ = _;kernel_rfl), ⟨(by show _ = _;kernel_rfl), (by show _ = _;kernel_rfl), (by show _ = _;kernel_rfl)⟩⟩))⟩, fun h94 => ⟨rfl, fun a95 => ⟨(app1_ok (e := 29) (e' := 29) (z := 5) (by' := 80) (zc := [vi 0, vu 0, .string ByteArray.empty, .slice none 0 0, .slice none 0 0]) (b := b) (len := j) (cap := cap) (n := 1) (cs := Lr) (new := [vi ((nd j).k), vu ((nd j).i), .string ((nd j).s), gsv x56.2.2.2.1 x56.2.2.1 x56.2.2.2.2.1, .slice (nd j).pa ((nd j).pm) ((nd j).pc)]) (by kernel_rfl) (.inl (by kernel_rfl)) (by kernel_rfl) rfl (by rw [hI.2.rows, rowsL_len, hI.2.zl]) hI.2.jc hI.2.cm hI.2.b0 ⟨rfl, .inr (.inr ⟨_, _, _, rfl, .inl ⟨1, _, _, _, rfl, rfl⟩⟩)⟩ (ones_spec rfl) (by omega) (by simp only [maxLen];omega) (by omega)), fun y96 qy96 => fun a97 => ⟨(app1_ok (e := 3) (e' := 3) (z := 1) (by' := 8) (zc := [vi 0]) (b := b2) (len := j) (cap := cap2) (n := 1) (cs := Ls) (new := [vi ((x56.2.1 : Nat) : Int)]) (by kernel_rfl) (.inl (by kernel_rfl)) (by kernel_rfl) rfl (by rw [hI.2.ints, intsN_len, hI.2.kl]) hI.2.jd hI.2.dm hI.2.c0 ⟨rfl, .inr (.inr ⟨_, _, _, rfl, .inl ⟨1, _, _, _, rfl, rfl⟩⟩)⟩ (ones_spec rfl) (by omega) (by simp only [maxLen];omega) (by omega)), fun y98 qy98 => ⟨(nwI (by omega) (by omega)), LKn (fun zw => ((j + 1), (some y96.1), y96.2, (Lr ++ ([vi ((nd j).k), vu ((nd j).i), .string ((nd j).s), gsv x56.2.2.2.1 x56.2.2.1 x56.2.2.2.2.1, .slice (nd j).pa ((nd j).pm) ((nd j).pc)] : List Value)), (zs ++ [mdL (nd j) x56.2.2.1 x56.2.2.2.1 x56.2.2.2.2.1 x56.2.2.2.2.2.2.1]), (some y98.1), y98.2, (Ls ++ ([vi ((x56.2.1 : Nat) : Int)] : List Value)), (ks ++ [x56.2.1]), zw)) ⟨⟨hle, (show (j + 1) ≤ ln∧MI G63 (j + 1) (some y96.1) y96.2 (Lr ++ ([vi ((nd j).k), vu ((nd j).i), .string ((nd j).s), gsv x56.2.2.2.1 x56.2.2.1 x56.2.2.2.2.1, .slice (nd j).pa ((nd j).pm) ((nd j).pc)] : List Value)) (zs ++ [mdL (nd j) x56.2.2.1 x56.2.2.2.1 x56.2.2.2.2.1 x56.2.2.2.2.2.2.1]) (some y98.1) y98.2 (Ls ++ ([vi ((x56.2.1 : Nat) : Int)] : List Value)) (ks ++ [x56.2.1]) from ⟨by omega, (hI.2.step qx56.2 (hnd j (by omega)).2.2 qx62.2 (qx62.1 h94).1 (qx62.1 h94).2.1 (qx62.1 h94).2.2.1 qy96.1 qy96.2 qy98.1 qy98.2)⟩)⟩, (show ln - (j + 1) < ln - j from (by omega)), ⟨rfl, rfl, rfl⟩⟩⟩⟩⟩⟩⟩), trivial⟩⟩, trivial⟩⟩⟩⟩⟩⟩⟩⟩⟩⟩⟩), fun h52 => (have := of_decide_eq_false h52;LKe (altGA (G := R) (fun zw => (j, b, cap, Lr, zs, b2, cap2, Ls, ks, zw)) ⟨(show j = ln∧MI R j b cap Lr zs b2 cap2 Ls ks from ⟨by have h9 := hI.1;omega, hI.2⟩), (by show _ = _;kernel_rfl), ⟨(by show _ = _;kernel_rfl), (by show _ = _;kernel_rfl), (by show _ = _;kernel_rfl)⟩⟩))⟩)
theorem made_ok_L4_ct (lv : Option Addr) (ln lc LB LO : Nat) (nd : Nat → ND) (a0 : Nat)  (R : RO) (hln : ln ≤ 1048576) (hnd : ∀ j, j < ln → lv = some ⟨LB, LO, none⟩∧R.cells LB (LO + j * 5) (nd j).row∧(nd j).Ok R)  : CT Tryd.prog (sub (bodyOf Tryd.f24) [1, 1, 1, 0, 1, 0]) ⟨(.slice lv ln lc::undef::ptA a0::.bool false::.slice none 0 0::.slice none 0 0::uns 7 (.slice lv ln lc::vi (ln : Int)::vi 0::uns 83 [])), [], [some (a0, .row [vi 0, vu 0, .string ByteArray.empty, .slice none 0 0, .slice none 0 0] 29 5)]⟩ R (made_ok_L4_K lv ln lc LB LO nd a0 R) :=
  CT.pad 2 <| CT.loop_eqs (made_ok_L4_inv lv ln lc LB LO nd a0) (made_ok_L4_I lv ln lc LB LO nd a0 R) (made_ok_L4_mu lv ln lc LB LO nd a0) (fun zw => (0, (none : Option Nat), 0, ([] : List Value), ([] : List L), (none : Option Nat), 0, ([] : List Value), ([] : List Nat), zw)) (by kernel_rfl) (by kernel_rfl) ⟨RO.le_refl R, (show 0 ≤ ln∧MI R 0 (none : Option Nat) 0 ([] : List Value) ([] : List L) (none : Option Nat) 0 ([] : List Value) ([] : List Nat) from ⟨Nat.zero_le _, MI.begin R⟩)⟩
    (by
      rintro ⟨j, b, cap, Lr, zs, b2, cap2, Ls, ks, u1⟩ G hG ⟨hle, hI⟩
      have hnd := hnd_mono hle hnd
      exact made_ok_L4_body lv ln lc LB LO nd a0 R G hle hln hnd j b cap Lr zs b2 cap2 Ls ks u1 hI)
theorem made_ok (lv : Option Addr) (ln lc LB LO : Nat) (nd : Nat → ND) (R : RO) (hln : ln ≤ 1048576) (hnd : ∀ j, j < ln → lv = some ⟨LB, LO, none⟩∧R.cells LB (LO + j * 5) (nd j).row∧(nd j).Ok R) : Does Tryd.prog 24 [.slice lv ln lc] R [] (fun (r : Out) (G : RO) (B : Hp) => ∃ x : Bool×L, (x.1 = true → x.2.ok G∧x.2.t.okn∧x.2.t.wt ≤ 490000)∧r = .ret (.tuple #[.agg x.2.row.toArray, .bool x.1])∧B = []) :=
  Does.of_wp_eq (VC := (let z4 : Array Value := #[.agg #[vi 0, vu 0, .string ByteArray.empty, .slice none 0 0, .slice none 0 0], .bool false];let z2 : List Value := [vi 0, vu 0, .string ByteArray.empty, .slice none 0 0, .slice none 0 0];∀ a0 : Nat, (CT Tryd.prog (sub (bodyOf Tryd.f24) [1, 1, 1, 0, 1, 0]) ⟨(.slice lv ln lc::undef::ptA a0::.bool false::.slice none 0 0::.slice none 0 0::uns 7 (.slice lv ln lc::vi (ln : Int)::vi 0::uns 83 [])), [], [some (a0, .row z2 29 5)]⟩ R (made_ok_L4_K lv ln lc LB LO nd a0 R))∧(∀ (x2 : Nat×Option Nat×Nat×List Value×List L×Option Nat×Nat×List Value×(List Nat)×NV) (G3 : RO), let z5 := ((x2.1 : Int) - 1);let z1 : List Value := (undef::(x2.2.2.2.2.2.2.2.2.2 11)::(x2.2.2.2.2.2.2.2.2.2 12)::.slice lv ln lc::vi (ln : Int)::vi (x2.1 : Int)::urun x2.2.2.2.2.2.2.2.2.2 16 73 (gsv x2.2.1 x2.1 x2.2.2.1::vi (x2.1 : Int)::.bool false::uns 7 []));let z0 := (zat x2.2.2.2.2.1 z5.toNat);let z3 : Array Value := #[vi (z0.k), vu (z0.id), .string (z0.s), .slice z0.aa (z0.n) (z0.ac), .slice z0.pa (z0.m) (z0.pc)];R.le G3 → (x2.1 = ln∧MI G3 x2.1 x2.2.1 x2.2.2.1 x2.2.2.2.1 x2.2.2.2.2.1 x2.2.2.2.2.2.1 x2.2.2.2.2.2.2.1 x2.2.2.2.2.2.2.2.1 x2.2.2.2.2.2.2.2.2.1) → (((x2.1 : Int) == 0) = true → (a0 = a0)∧(a0 = a0)∧(fun (r : Out) (G : RO) (B : Hp) => ∃ x : Bool×L, (x.1 = true → x.2.ok G∧x.2.t.okn∧x.2.t.wt ≤ 490000)∧r = .ret (.tuple #[.agg x.2.row.toArray, .bool x.1])∧B = []) (.ret (.tuple z4)) G3 [])∧(((x2.1 : Int) == 0) = false → (∃ a9 : Nat, x2.2.1 = some a9)∧∀ a9 : Nat, x2.2.1 = some a9 → ((⟨(.slice lv ln lc::undef::ptA a0::(x2.2.2.2.2.2.2.2.2.2 3)::gsv x2.2.1 x2.1 x2.2.2.1::gsv x2.2.2.2.2.2.1 x2.1 x2.2.2.2.2.2.2.1::urun x2.2.2.2.2.2.2.2.2.2 6 4 z1), [], [some (a0, .row z2 29 5), gsb x2.2.1 x2.2.2.2.1 29 (x2.2.2.1 * 5), gsb x2.2.2.2.2.2.1 x2.2.2.2.2.2.2.2.1 3 (x2.2.2.2.2.2.2.1 * 1)]⟩ : St) = ⟨(.slice lv ln lc::undef::ptA a0::(x2.2.2.2.2.2.2.2.2.2 3)::gsv (some a9) x2.1 x2.2.2.1::gsv x2.2.2.2.2.2.1 x2.1 x2.2.2.2.2.2.2.1::urun x2.2.2.2.2.2.2.2.2.2 6 4 z1), [], [some (a0, .row z2 29 5), gsb (some a9) x2.2.2.2.1 29 (x2.2.2.1 * 5), gsb x2.2.2.2.2.2.1 x2.2.2.2.2.2.2.2.1 3 (x2.2.2.2.2.2.2.1 * 1)]⟩∧(NW .i64 z5)∧(IB z5 (x2.1 : Nat))∧(a9 = a9∧readVar Tryd.prog 29 x2.2.2.2.1 (0 + Int.toNat z5 * 5) = some (.agg z3))∧(a0 = a0)∧(a0 = a0)∧(fun (r : Out) (G : RO) (B : Hp) => ∃ x : Bool×L, (x.1 = true → x.2.ok G∧x.2.t.okn∧x.2.t.wt ≤ 490000)∧r = .ret (.tuple #[.agg x.2.row.toArray, .bool x.1])∧B = []) (.ret (.tuple #[.agg z3, .bool true])) G3 [])))∧((∀ (x4 : Nat×Option Nat×Nat×List Value×List L×Option Nat×Nat×List Value×(List Nat)×NV) (G5 : RO), R.le G5 → (True) → (a0 = a0)∧(fun (r : Out) (G : RO) (B : Hp) => ∃ x : Bool×L, (x.1 = true → x.2.ok G∧x.2.t.okn∧x.2.t.wt ≤ 490000)∧r = .ret (.tuple #[.agg x.2.row.toArray, .bool x.1])∧B = []) (.ret (.tuple z4)) G5 [])∧True))) (let y_1 : List Value := [vi 0, vu 0, .string ByteArray.empty, .slice none 0 0, .slice none 0 0];.opn 0 (fun a0 => (ops [.d, .d, .d, .d, .d, .d] (.altG (Nat×Option Nat×Nat×List Value×List L×Option Nat×Nat×List Value×(List Nat)×NV) (fun zx G => zx.1 = ln∧MI G zx.1 zx.2.1 zx.2.2.1 zx.2.2.2.1 zx.2.2.2.2.1 zx.2.2.2.2.2.1 zx.2.2.2.2.2.2.1 zx.2.2.2.2.2.2.2.1 zx.2.2.2.2.2.2.2.2.1) (fun zx => (.exit 0, ((made_ok_L4_inv lv ln lc LB LO nd a0 zx).up [] [some (a0, .row y_1 29 5), gsb zx.2.1 zx.2.2.2.1 29 (zx.2.2.1 * 5), gsb zx.2.2.2.2.2.1 zx.2.2.2.2.2.2.2.1 3 (zx.2.2.2.2.2.2.1 * 1)]))) (fun x2 => let y_0 := (zat x2.2.2.2.2.1 (((x2.1 : Nat) : Int) - 1).toNat);(ops [.d, .d, .d] (.sp 91 (ops [.d, .p 0, .d] (.fin [] [(0, none)])) (.ex Nat (fun a9 => x2.2.1 = some a9) (fun a9 => .rw (⟨(.slice lv ln lc::undef::ptA a0::(x2.2.2.2.2.2.2.2.2.2 3)::gsv (some a9) x2.1 x2.2.2.1::gsv x2.2.2.2.2.2.1 x2.1 x2.2.2.2.2.2.2.1::urun x2.2.2.2.2.2.2.2.2.2 6 4 (undef::(x2.2.2.2.2.2.2.2.2.2 11)::(x2.2.2.2.2.2.2.2.2.2 12)::.slice lv ln lc::vi (ln : Int)::vi ((x2.1 : Nat) : Int)::urun x2.2.2.2.2.2.2.2.2.2 16 73 (gsv x2.2.1 x2.1 x2.2.2.1::vi ((x2.1 : Nat) : Int)::.bool false::uns 7 []))), [], [some (a0, .row y_1 29 5), gsb (some a9) x2.2.2.2.1 29 (x2.2.2.1 * 5), gsb x2.2.2.2.2.2.1 x2.2.2.2.2.2.2.2.1 3 (x2.2.2.2.2.2.2.1 * 1)]⟩) (ops [.d, .d, .d, .nw, .ia, .q 1 (fun e v => .agg #[vi (y_0.k), vu (y_0.id), .string (y_0.s), .slice y_0.aa (y_0.n) (y_0.ac), .slice y_0.pa (y_0.m) (y_0.pc)]), .p 0, .d] (.fin [] [(0, none)]))))))) (.altG (Nat×Option Nat×Nat×List Value×List L×Option Nat×Nat×List Value×(List Nat)×NV) (fun zx G => True) (fun zx => (.ret, ((made_ok_L4_inv lv ln lc LB LO nd a0 zx).up [(3, .bool false)] [some (a0, .row y_1 29 5), gsb zx.2.1 zx.2.2.2.1 29 (zx.2.2.1 * 5), gsb zx.2.2.2.2.2.1 zx.2.2.2.2.2.2.2.1 3 (zx.2.2.2.2.2.2.1 * 1)]))) (fun x4 => (.fin [] [(0, none)])) .altn))))) Tryd.func24 (by kernel_rfl) (by kernel_rfl)
    (fun a0 => ⟨made_ok_L4_ct lv ln lc LB LO nd a0 R hln hnd, ⟨fun x2 G3 hG3 qx2 => (have hnd := hnd_mono hG3 hnd;⟨fun h8 => (have := eq_of_beq h8;⟨rfl, ⟨rfl, ⟨(false, L.nil), fun h => (by cases h), (by rfl), (by rfl)⟩⟩⟩), fun h8 => (have := ne_of_beq_false h8;⟨(by cases h9 : x2.2.1 with | none => exact absurd (qx2.2.b0 h9) (by have h8 := qx2.2.jc;omega) | some a => exact ⟨a, rfl⟩), fun a9 hxa9 => ⟨(by rw [hxa9]), ⟨(nwI (by omega) (by omega)), ⟨⟨by omega, by omega⟩, ⟨⟨rfl, (rd_L qx2.2.rows (by have h3 := qx2.2.zl;omega))⟩, ⟨rfl, ⟨rfl, ⟨(true, zat x2.2.2.2.2.1 (((x2.1 : Nat) : Int) - 1).toNat), fun _ => made_end qx2.2 (by omega), (by rfl), (by rfl)⟩⟩⟩⟩⟩⟩⟩⟩)⟩), ⟨fun x4 G5 hG5 qx4 => (have hnd := hnd_mono hG5 hnd;⟨rfl, ⟨(false, L.nil), fun h => (by cases h), (by rfl), (by rfl)⟩⟩), trivial⟩⟩⟩)
namespace T
theorem isN_4 {d : Nat} {x : T} (hd : d ≤ 40) (h : isN d x) (h4 : x.k = 4) : ∃ a ps, x = .mk 4 0 .empty [a] ps∧a.k ≠ 4∧prod ps = ps∧ps ≠ [] := by
  cases x with
  | mk k i s xs ps =>
    have h4 : k = 4 := h4
    rw [isN, if_neg (by omega)] at h
    rcases h with ⟨h, _⟩ | ⟨h, _⟩ | ⟨h, _⟩ | ⟨rfl, rfl, rfl, ⟨a, rfl, ha⟩, h5, h6, h7⟩
    · omega
    · omega
    · omega
    · exact ⟨a, ps, rfl, ha, h6, h7⟩
theorem pow_congr (x : T) {l m : List PW} (h : ∀ a, IntKind.i64.wrap (sm l a) = IntKind.i64.wrap (sm m a)) : pow x l = pow x m := by
  have h1 := prod_congr h
  have h2 : prod (x.ps ++ l) = prod (x.ps ++ m) := prod_congr fun a => by
    rw [sm_append, sm_append, Int.add_comm, ← wrap_add, h a, wrap_add, Int.add_comm]
  unfold pow
  rw [h1, h2]
theorem pow_nil {x : T} {d : Nat} (hd : d ≤ 40) (h : isN d x) : pow x [] = x := by
  by_cases h4 : x.k = 4
  · obtain ⟨a, ps, rfl, ha, hp, hn⟩ := isN_4 hd h h4
    unfold pow
    rw [if_pos (show (mk 4 0 .empty [a] ps).k = 4 from rfl)]
    show (if prod (ps ++ []) = [] then a else .mk 4 0 .empty [a] (prod (ps ++ []))) = _
    rw [List.append_nil, hp, if_neg hn]
  · unfold pow;rw [if_neg h4, if_pos prod_nil]
def rs (t : T) (l : List PW) : T := nrm 1 (.mk 4 0 .empty [t] l)
theorem rs_eq (t : T) (l : List PW) : rs t l = pow (nrm 2 t) l := by
  unfold rs;rw [nrm, if_neg (by decide), if_neg (by decide), if_neg (by decide), if_neg (by decide), if_pos rfl];rfl
theorem nrm_12 {t : T} (h : ht t ≤ 37) : nrm 1 (nrm 2 t) = nrm 1 t := by
  rw [nrm_of 1 _ (isN_down 1 _ (isN_nrm 2 t)), nrm_shift 2 1 t (by omega) (by omega)]
theorem nrm_hash (s : ByteArray) (t : T) (i : Int) : nrm 1 (.mk 3 0 s [t, atom i] []) = .mk 3 0 s [nrm 2 t, nrm 2 (atom i)] [] := by
  rw [nrm, if_neg (by decide), if_neg (by decide), if_neg (by decide), if_pos rfl];rfl
mutual
theorem okn_good : ∀ (t : T), good t → okn t
  | .mk k i s xs ps => by
    intro h
    obtain ⟨h1, h2, h3, h4⟩ := h
    refine ⟨?_, h1, fun p hp => ⟨(h2 p hp).1, (h2 p hp).2⟩, oknL_good xs h4⟩
    have e1 : IntKind.i64.min = -9223372036854775808 := by decide
    have e2 : IntKind.i64.max = 9223372036854775807 := by decide
    rcases h3 with rfl | rfl | rfl | ⟨rfl, _⟩ <;> omega
theorem oknL_good : ∀ (l : List T), goodL l → oknL l
  | [], _ => trivial
  | a::l, h => ⟨okn_good a h.1, oknL_good l h.2⟩
end
theorem okn_nrm (d : Nat) {t : T} (h : okn t) : okn (nrm d t) := okn_good _ (good_nrm d t h)
def pwR (l : List PW) : Prop := ∀ p ∈ l, (0 ≤ p.1∧p.1 ≤ 4294967295)∧IntKind.i64.min ≤ p.2∧p.2 ≤ IntKind.i64.max
theorem okn_rs {t : T} {l : List PW} (h : okn t) (hl : pwR l) : okn (rs t l) := okn_nrm 1 ⟨by decide, by decide, hl, h, trivial⟩
theorem wt_rs {t : T} {l : List PW} {n : Nat} (h : t.wt ≤ n) : (rs t l).wt ≤ n + 301 + 60 * l.length :=
  Nat.le_trans (wt_nrm 1 _) (by show 300 + 2 * 0 + 60 * l.length + (t.wt + 1 + 0) ≤ _;omega)
theorem pwR_2 {a n b m : Int} (h : 0 ≤ a∧a ≤ 4294967295) (h' : IntKind.i64.min ≤ n∧n ≤ IntKind.i64.max) (k : 0 ≤ b∧b ≤ 4294967295) (k' : IntKind.i64.min ≤ m∧m ≤ IntKind.i64.max) : pwR [(a, n), (b, m)] := fun p hp => by
  rcases List.mem_cons.1 hp with rfl | hp
  · exact ⟨h, h'⟩
  · rcases List.mem_singleton.1 hp with rfl;exact ⟨k, k'⟩
theorem txt_5 : txt (nrm 1 (atom 5)) = (⟨#[35, 53]⟩ : ByteArray) := by
  rw [show nrm 1 (atom 5) = atom 5 from nrm_of 1 _ (by unfold atom;rw [isN, if_neg (by decide)];exact .inl ⟨rfl, rfl, rfl, rfl⟩)]
  unfold atom;rw [txt, if_pos rfl];kernel_rfl
end T
theorem L.range_getD (l : List PW) : ((List.range l.length).map fun j => l.getD j (0, 0)) = l := by
  apply List.ext_getElem (by simp)
  intro i h1 h2
  simp [List.getElem?_eq_getElem h2]
theorem pows_cells {G : RO} {a : Nat} {l : List PW} (h : G.cells a 0 (powR l)) : ∀ j, j < l.length → some (⟨a, 0, none⟩ : Addr) = some ⟨a, 0, none⟩∧G.cells a (0 + j * 2) [vu (l.getD j (0, 0)).1, vi (l.getD j (0, 0)).2] := fun j hj =>
  ⟨rfl, RO.cells_sub (i := j * 2) h (by show List.take 2 _ = _;rw [powR_at hj];simp [List.getElem?_eq_getElem hj])⟩
theorem raise2 (y : L) (a : Nat) (l : List PW) (R : RO) (hy : y.ok R) (hw : y.t.wt + 400 + 60 * l.length ≤ 1000000) :
    Does Tryd.prog 33 [y.v, slA a l.length l.length] R [some (a, .row (powR l) 58 (l.length * 2))] (fun r G B => ∃ z : L, (z.ok G∧z.t = T.rs y.t l)∧r = .ret z.v∧B = [none]) :=
  (Does.give fun S hS hc => raise_ok y (some ⟨a, 0, none⟩) l.length l.length a 0 (fun j => l.getD j (0, 0)) S (L.ok_mono hS _ hy) hw ⟨Nat.le_refl _, by simp only [maxLen];omega⟩ (pows_cells hc)).mono (by
    rintro o G B hle ⟨B', rfl, z, ⟨h1, h2⟩, rfl, rfl⟩
    rw [L.range_getD] at h2
    exact ⟨z, ⟨h1, h2⟩, rfl, rfl⟩)
theorem same_true (y z : L) (R : RO) (hy : y.ok R) (hw : y.t.wt ≤ 1000000) (ho : y.t.okn) (hy' : z.ok R) (hw' : z.t.wt ≤ 1000000) (ho' : z.t.okn) (hT : TabR R) (e : T.nrm 1 y.t = T.nrm 1 z.t) : Gives Tryd.prog 10 [y.v, z.v] R [] (.ret (.bool true)) [] := by
  have h := same_ok y z R hy hw ho hy' hw' ho' hT
  rw [e] at h
  rwa [show ((T.txt (T.nrm 1 z.t)).toList == (T.txt (T.nrm 1 z.t)).toList) = true from beq_self_eq_true _] at h
theorem T.same_aw : T.nrm 1 (T.rs (T.word (⟨#[97]⟩ : ByteArray)) [(3, 1), (3, (-1))]) = T.nrm 1 (T.word (⟨#[97]⟩ : ByteArray)) := by
  rw [T.rs_eq, show T.pow (T.nrm 2 (T.word (⟨#[97]⟩ : ByteArray))) [(3, 1), (3, (-1))] = T.pow (T.nrm 2 (T.word (⟨#[97]⟩ : ByteArray))) [] from T.pow_congr _ fun b => by
    show IntKind.i64.wrap ((if (3 : Int) = b then 1 else 0) + ((if (3 : Int) = b then -1 else 0) + 0)) = IntKind.i64.wrap 0
    split <;> rfl, T.pow_nil (d := 2) (by decide) (T.isN_nrm 2 _), T.nrm_12 (by decide)]
theorem awake_own  (R : RO) (hT : TabR R) : Does Tryd.prog 29 [] R [] (fun (r : Out) (G : RO) (B : Hp) => ∃ x : Unit, (True)∧r = .ret (.bool true)∧B = []) :=
  Does.of_wp_eq (VC := (let z1 : Array Value := #[vi 1, vu 5, .string ByteArray.empty, .slice none 0 0, .slice none 0 0];let z0 : Array Value := #[vi 2, vu 0, .string (⟨#[97]⟩ : ByteArray), .slice none 0 0, .slice none 0 0];(Gives Tryd.prog 18 [.string (⟨#[97]⟩ : ByteArray)] R [] (.ret (.agg z0)) [])∧∀ a0 : Nat, (a0 = a0)∧(a0 = a0)∧∀ a1 : Nat, (Does Tryd.prog 33 [.agg z0, slA a1 2 2] R [some (a1, .row [vu 3, vi 1, vu 3, vi (-1)] 58 4)] (fun r G B => ∃ z2 : L, (z2.ok G∧z2.t = T.rs (L.word (⟨#[97]⟩ : ByteArray)).t [(3, 1), (3, (-1))])∧r = .ret (.agg z2.row.toArray)∧B = [none]))∧∀ (z2 : L) (G3 : RO), R.le G3 → (z2.ok G3∧z2.t = T.rs (L.word (⟨#[97]⟩ : ByteArray)).t [(3, 1), (3, (-1))]) → (a0 = a0)∧(Gives Tryd.prog 10 [.agg z2.row.toArray, .agg z0] G3 [] (.ret (.bool true)) [])∧(Gives Tryd.prog 17 [vu 5] G3 [] (.ret (.agg z1)) [])∧(Gives Tryd.prog 27 [.agg z1] G3 [] (.ret (.string (⟨#[35, 53]⟩ : ByteArray))) [])∧(fun (r : Out) (G : RO) (B : Hp) => ∃ x : Unit, (True)∧r = .ret (.bool true)∧B = []) (.ret (.bool ((⟨#[35, 53]⟩ : ByteArray).toList == (⟨#[35, 53]⟩ : ByteArray).toList))) G3 [])) (ops [.d, .call0 [] [] (fun e v => .ret (.agg #[vi 2, vu 0, .string (⟨#[97]⟩ : ByteArray), .slice none 0 0, .slice none 0 0])) (fun e v => [])] (.opn 0 (fun a0 => (ops [.p 0] (.dr [some (.p 0), some (.d), some (.d), some (.n 1), some (.callG [1] [] (L) (fun e v z2 G => z2.ok G∧z2.t = T.rs (L.word (⟨#[97]⟩ : ByteArray)).t [(3, 1), (3, (-1))]) (fun e v z2 => (.agg z2.row.toArray, [none]))), some (.p 0), some (.call0 [] [] (fun e v => .ret (.bool true)) (fun e v => [])), some (.d), some (.call0 [] [] (fun e v => .ret (.agg #[vi 1, vu 5, .string ByteArray.empty, .slice none 0 0, .slice none 0 0])) (fun e v => [])), some (.call0 [] [] (fun e v => .ret (.string (⟨#[35, 53]⟩ : ByteArray))) (fun e v => [])), some (.d), some (.d), some (.d)] (.fin [] [])))))) Tryd.func29 (by kernel_rfl) (by kernel_rfl)
    (⟨(word_ok (⟨#[97]⟩ : ByteArray) R), fun a0 => ⟨rfl, ⟨rfl, fun a1 => ⟨(raise2 (L.word (⟨#[97]⟩ : ByteArray)) _ [(3, 1), (3, (-1))] R (L.word_ok _ _) (by rw [(L.word_t _)];exact Nat.le_trans (Nat.add_le_add_right (Nat.add_le_add_right (show T.wt (T.word (⟨#[97]⟩ : ByteArray)) ≤ 302 from Nat.le_refl _) _) _) (by (try simp only [List.length_cons, List.length_nil]);omega))), fun z2 G3 hG3 qz2 => (have hT := tab_mono hG3 hT;⟨rfl, ⟨(same_true z2 (L.word (⟨#[97]⟩ : ByteArray)) G3 qz2.1 (by rw [(qz2.2.trans (congrArg (T.rs · [(3, 1), (3, (-1))]) (L.word_t _)))];exact Nat.le_trans (T.wt_rs (l := [(3, 1), (3, (-1))]) (show T.wt (T.word (⟨#[97]⟩ : ByteArray)) ≤ 302 from Nat.le_refl _)) (by (try simp only [List.length_cons, List.length_nil]);omega)) (by rw [(qz2.2.trans (congrArg (T.rs · [(3, 1), (3, (-1))]) (L.word_t _)))];exact (T.okn_rs (show T.okn (T.word (⟨#[97]⟩ : ByteArray)) from ⟨by decide, by decide, fun p hp => (by cases hp), trivial⟩) (T.pwR_2 (by decide) (by decide) (by decide) (by decide)))) (L.word_ok _ _) (by rw [(L.word_t _)];exact Nat.le_trans (show T.wt (T.word (⟨#[97]⟩ : ByteArray)) ≤ 302 from Nat.le_refl _) (by (try simp only [List.length_cons, List.length_nil]);omega)) (by rw [(L.word_t _)];exact (show T.okn (T.word (⟨#[97]⟩ : ByteArray)) from ⟨by decide, by decide, fun p hp => (by cases hp), trivial⟩)) hT (by rw [(qz2.2.trans (congrArg (T.rs · [(3, 1), (3, (-1))]) (L.word_t _))), (L.word_t _)];exact T.same_aw)), ⟨(atom_ok 5 G3), ⟨(by have h9 := texu_ok (L.atom 5) G3 (L.atom_ok 5 G3) (by rw [L.atom_t];decide) (by rw [L.atom_t];exact ⟨by decide, by decide, fun p hp => (by cases hp), trivial⟩) hT;rw [L.atom_t, T.txt_5] at h9;exact h9), ⟨(), trivial, (by exact congrArg (fun z => Out.ret (.bool z)) (beq_self_eq_true _)), (by rfl)⟩⟩⟩⟩⟩)⟩⟩⟩⟩)
theorem awake_ok (R : RO) (hT : TabR R) : Gives Tryd.prog 29 [] R [] (.ret (.bool true)) [] :=
  Does.forget ((awake_own R hT).mono (by rintro o G B hle ⟨-, -, rfl, rfl⟩;exact ⟨rfl, rfl⟩))
end Go.Proofs.YtehbmooelcjfoaaDoor
namespace Go.Proofs.YtehbmooelcjfoaaDoor
open Vc Go
set_option linter.unusedVariables false
set_option linter.unusedSimpArgs false
structure TZ (R : RO) (lv : Option Addr) (n LB LO : Nat) (zs : Nat → L) : Prop where
  at' : ∀ j, j < n → lv = some ⟨LB, LO, none⟩
  row : ∀ j, j < n → R.cells LB (LO + j * 5) (zs j).row
  ok : ∀ j, j < n → (zs j).ok R
  okn : ∀ j, j < n → (zs j).t.okn
  wt : ∀ j, j < n → (zs j).t.wt ≤ 490000
theorem TZ.mono {R S : RO} (h : R.le S) {lv : Option Addr} {n LB LO : Nat} {zs : Nat → L} (z : TZ R lv n LB LO zs) : TZ S lv n LB LO zs :=
  ⟨z.at', fun j hj => RO.cells_mono h (z.row j hj), fun j hj => L.ok_mono h _ (z.ok j hj), z.okn, z.wt⟩
noncomputable def tx (zs : Nat → L) (j : Nat) : ByteArray := T.txt (T.nrm 1 (zs j).t)
def strF (f : Nat → ByteArray) (n : Nat) : List Value := (List.range n).map fun j => Value.string (f j)
theorem strF_snoc (f : Nat → ByteArray) (n : Nat) : strF f n ++ [Value.string (f n)] = strF f (n + 1) := by simp [strF, List.range_succ]
def XI (f : Nat → ByteArray) (n j : Nat) (b : Option Nat) (cap : Nat) (Lr : List Value) : Prop :=
  j ≤ n∧(b = none → cap = 0)∧j ≤ cap∧cap ≤ maxLen∧Lr = strF f j
theorem XI.step {f : Nat → ByteArray} {n j : Nat} {b : Option Nat} {cap : Nat} {Lr : List Value} (h : XI f n j b cap Lr) (hj : j < n) {a c : Nat} (h1 : j + 1 ≤ c) (h2 : c ≤ maxLen) : XI f n (j + 1) (some a) c (Lr ++ [Value.string (f j)]) :=
  ⟨hj, fun h => (by cases h), h1, h2, by rw [h.2.2.2.2, strF_snoc]⟩
def Ls (f : Nat → ByteArray) (i a : Nat) : Prop := a ≤ i∧f a = f i∧∀ l, l < a → f l ≠ f i
def nw (f : Nat → ByteArray) (j : Nat) : Bool := (List.range j).all fun l => decide (f l ≠ f j)
theorem nw_iff {f : Nat → ByteArray} {j : Nat} : nw f j = true ↔ ∀ l, l < j → f l ≠ f j := by simp [nw]
theorem Ls.nw {f : Nat → ByteArray} {i a : Nat} (h : Ls f i a) : (a = i) ↔ nw f i = true := by
  rw [nw_iff]
  constructor
  · rintro rfl;exact h.2.2
  · intro h1
    rcases Nat.lt_or_ge a i with h2 | h2
    · exact (h1 a h2 h.2.1).elim
    · have := h.1;omega
structure FI (f : Nat → ByteArray) (n j : Nat) (b : Option Nat) (cap : Nat) (Lr : List Value) (ps : List Nat) : Prop where
  jn : j ≤ n
  b0 : b = none → cap = 0
  jc : j ≤ cap
  cm : cap ≤ maxLen
  rows : Lr = intsN ps
  pl : ps.length = j
  all : ∀ i, i < j → Ls f i (kat ps i)
theorem FI.begin (f : Nat → ByteArray) (n : Nat) : FI f n 0 none 0 [] [] := ⟨Nat.zero_le _, fun _ => rfl, Nat.le_refl _, Nat.zero_le _, rfl, rfl, fun i hi => by omega⟩
theorem FI.step {f : Nat → ByteArray} {n j : Nat} {b : Option Nat} {cap : Nat} {Lr : List Value} {ps : List Nat} (h : FI f n j b cap Lr ps) (hj : j < n) {at_ a c : Nat} (hl : Ls f j at_) (h1 : j + 1 ≤ c) (h2 : c ≤ maxLen) :
    FI f n (j + 1) (some a) c (Lr ++ [vi (at_ : Int)]) (ps ++ [at_]) :=
  ⟨hj, fun h => (by cases h), h1, h2, by rw [h.rows];simp [intsN], by simp [h.pl], fun i hi => by
    rw [kat_snoc, h.pl]
    by_cases h3 : i < j
    · rw [if_pos h3];exact h.all i h3
    · rw [if_neg h3, if_pos (by omega), show i = j by omega];exact hl⟩
def DI (f : Nat → ByteArray) (j : Nat) (k a : Int) : Prop := 0 ≤ a∧a ≤ (j : Int)∧f a.toNat = f j∧∀ l : Nat, k < (l : Int) → (l : Int) < a → f l ≠ f j
theorem DI.begin (f : Nat → ByteArray) (j : Nat) : DI f j (j : Int) (j : Int) := ⟨by omega, Int.le_refl _, rfl, fun l h1 h2 => by omega⟩
theorem DI.same {f : Nat → ByteArray} {j : Nat} {k a : Int} (h : DI f j k a) (hk : 0 ≤ k∧k ≤ (j : Int)) (he : ((f k.toNat).toList == (f j).toList) = true) : DI f j (k - 1) k := by
  rw [seq] at he
  exact ⟨hk.1, hk.2, of_decide_eq_true he, fun l h1 h2 => by omega⟩
theorem DI.other {f : Nat → ByteArray} {j : Nat} {k a : Int} (h : DI f j k a) (hk : 0 ≤ k∧k ≤ (j : Int)) (he : ((f k.toNat).toList == (f j).toList) = false) : DI f j (k - 1) a := by
  rw [seq] at he
  refine ⟨h.1, h.2.1, h.2.2.1, fun l h1 h2 => ?_⟩
  by_cases h3 : (l : Int) = k
  · have : l = Int.toNat k := by omega
    rw [this];exact of_decide_eq_false he
  · exact h.2.2.2 l (by omega) h2
theorem DI.done {f : Nat → ByteArray} {j : Nat} {k a : Int} (h : DI f j k a) (hk : k < 0) : 0 ≤ a∧Ls f j a.toNat := ⟨h.1, by have := h.1;have := h.2.1;omega, h.2.2.1, fun l h1 => h.2.2.2 l (by omega) (by omega)⟩
structure RW where
  a : Option Addr
  n : Nat
  c : Nat
  B : Nat
  O : Nat
  nd : Nat → ND
instance : Inhabited RW := ⟨⟨none, 0, 0, 0, 0, fun _ => default⟩⟩
structure RW.Ok (R : RO) (x : RW) : Prop where
  nc : x.n ≤ x.c∧x.c ≤ 1048576
  hnd : ∀ j, j < x.n → x.a = some ⟨x.B, x.O, none⟩∧R.cells x.B (x.O + j * 5) (x.nd j).row∧(x.nd j).Ok R
theorem RW.Ok.mono {R S : RO} (h : R.le S) {x : RW} (o : x.Ok R) : x.Ok S := ⟨o.nc, hnd_mono h o.hnd⟩
theorem rows_of {R : RO} {lv : Option Addr} {ln : Nat} (h : Vc.B.Lies 1048576 Tryd.prog R 51 lv ln) : ∃ (B O : Nat) (rw : Nat → RW), ∀ j, j < ln → lv = some ⟨B, O, none⟩∧R.cells B (O + j * 1) [.slice (rw j).a (rw j).n (rw j).c]∧(rw j).Ok R :=
  Vc.B.Lies.fn h 40 (fun x => [.slice x.a x.n x.c]) (RW.Ok R) (z := 1) (by kernel_rfl)
    (E := ∀ (ba : Option Addr) (bn bc : Nat), bn ≤ bc → bc ≤ 1048576 → Vc.B.Lies 1048576 Tryd.prog R 56 ba bn → ∃ x : RW, [Value.slice ba bn bc] = [.slice x.a x.n x.c]∧x.Ok R) (by kernel_rfl)
    (fun ba bn bc h1 h2 L1 => by
      obtain ⟨B, O, nd, hn⟩ := nodes_of L1
      exact ⟨⟨ba, bn, bc, B, O, nd⟩, rfl, ⟨h1, h2⟩, hn⟩)
structure TA (G : RO) (j : Nat) (b : Option Nat) (cap : Nat) (Lr : List Value) (zs : List L) : Prop where
  zl : zs.length = j
  b0 : b = none → cap = 0
  jc : j ≤ cap
  cm : cap ≤ maxLen
  rows : Lr = rowsL zs
  all : ∀ z ∈ zs, z.ok G∧z.t.okn∧z.t.wt ≤ 490000
theorem TA.begin (G : RO) : TA G 0 none 0 [] [] := ⟨rfl, fun _ => rfl, Nat.le_refl _, Nat.zero_le _, rfl, fun z hz => by cases hz⟩
theorem TA.mono {R S : RO} (h : R.le S) {j : Nat} {b : Option Nat} {cap : Nat} {Lr : List Value} {zs : List L} (m : TA R j b cap Lr zs) : TA S j b cap Lr zs :=
  ⟨m.zl, m.b0, m.jc, m.cm, m.rows, fun z hz => ⟨L.ok_mono h _ (m.all z hz).1, (m.all z hz).2⟩⟩
theorem TA.step {G : RO} {j : Nat} {b : Option Nat} {cap : Nat} {Lr : List Value} {zs : List L} (m : TA G j b cap Lr zs) {z : L} (hz : z.ok G∧z.t.okn∧z.t.wt ≤ 490000) {a c : Nat} (h1 : j + 1 ≤ c) (h2 : c ≤ maxLen) : TA G (j + 1) (some a) c (Lr ++ z.row) (zs ++ [z]) :=
  ⟨by simp [m.zl], fun h => (by cases h), h1, h2, by rw [rowsL_snoc, m.rows], fun x hx => by
    rcases List.mem_append.1 hx with hx | hx
    · exact m.all x hx
    · rcases List.mem_singleton.1 hx with rfl;exact hz⟩
theorem hrw_mono {R S : RO} (h : R.le S) {lv : Option Addr} {ln LB LO : Nat} {rw : Nat → RW} (hrw : ∀ j, j < ln → lv = some ⟨LB, LO, none⟩∧R.cells LB (LO + j * 1) [.slice (rw j).a (rw j).n (rw j).c]∧(rw j).Ok R) :
    ∀ j, j < ln → lv = some ⟨LB, LO, none⟩∧S.cells LB (LO + j * 1) [.slice (rw j).a (rw j).n (rw j).c]∧(rw j).Ok S := fun j hj => ⟨(hrw j hj).1, RO.cells_mono h (hrw j hj).2.1, (hrw j hj).2.2.mono h⟩
noncomputable def terms_own_L12_inv (lv : Option Addr) (ln lc LB LO : Nat) (rw : Nat → RW) (j : Nat) (b : Option Nat) (cap : Nat) (Lr : List Value) (u0 : Nat → Value) (x52 : Bool×L) (a54 : Nat) (i : Nat) (u58 : Nat → Value) (a110 : Nat)  : Nat×NV → St := fun zx => ⟨(.slice lv ln lc::undef::(zx.2 2)::gsv b j cap::undef::.slice (rw j).a ((rw j).n) ((rw j).c)::ptA a54::.bool x52.1::undef::ptA a110::undef::(zx.2 11)::.slice lv ln lc::vi (ln : Int)::vi (j : Int)::.bool true::(ptO LB (LO + Int.toNat (j : Int) * 1))::.slice (rw j).a ((rw j).n) ((rw j).c)::.tuple #[.agg x52.2.row.toArray, .bool x52.1]::.slice (rw j).a ((rw j).n) ((rw j).c)::.tuple #[.agg x52.2.row.toArray, .bool x52.1]::.agg x52.2.row.toArray::.bool x52.1::.bool x52.1::.bool (!x52.1)::.bool false::.slice lv ln lc::vi (ln : Int)::.bool (decide ((ln : Int) > 12))::.bool (decide ((ln : Int) > 12))::.bool false::.slice (rw j).a ((rw j).n) ((rw j).c)::vi (((rw j).n : Nat) : Int)::.bool (decide ((((rw j).n : Nat) : Int) > 40))::.bool false::.slice (rw j).a ((rw j).n) ((rw j).c)::vi (((rw j).n : Nat) : Int)::vi (i : Int)::.bool true::.pointer (some ⟨(rw j).B, (rw j).O + Int.toNat (i : Int) * 5, none⟩)::.agg #[vi (((rw j).nd i).k), vu (((rw j).nd i).i), .string (((rw j).nd i).s), .slice ((rw j).nd i).ba (((rw j).nd i).bn) (((rw j).nd i).bc), .slice ((rw j).nd i).pa (((rw j).nd i).pm) (((rw j).nd i).pc)]::(ptO a110 (4))::.slice ((rw j).nd i).pa (((rw j).nd i).pm) (((rw j).nd i).pc)::vi ((((rw j).nd i).pm : Nat) : Int)::vi ((zx.1 : Nat) : Int)::urun zx.2 45 12 ((u58 57)::urun u0 58 5 (undef::[]))), [], [gsb b Lr 29 (cap * 5), some (a54, .row x52.2.row 29 5), some (a110, .row [vi (((rw j).nd i).k), vu (((rw j).nd i).i), .string (((rw j).nd i).s), .slice ((rw j).nd i).ba (((rw j).nd i).bn) (((rw j).nd i).bc), .slice ((rw j).nd i).pa (((rw j).nd i).pm) (((rw j).nd i).pc)] 56 5)]⟩
def terms_own_L12_I (lv : Option Addr) (ln lc LB LO : Nat) (rw : Nat → RW) (j : Nat) (b : Option Nat) (cap : Nat) (Lr : List Value) (u0 : Nat → Value) (x52 : Bool×L) (a54 : Nat) (i : Nat) (u58 : Nat → Value) (a110 : Nat)  (R : RO) : Nat×NV → RO → Prop := fun zx G => G = R∧(zx.1 ≤ ((rw j).nd i).pm)
def terms_own_L12_mu (lv : Option Addr) (ln lc LB LO : Nat) (rw : Nat → RW) (j : Nat) (b : Option Nat) (cap : Nat) (Lr : List Value) (u0 : Nat → Value) (x52 : Bool×L) (a54 : Nat) (i : Nat) (u58 : Nat → Value) (a110 : Nat)  : Nat×NV → Nat := fun zx => ((rw j).nd i).pm - zx.1
noncomputable def terms_own_L12_K (lv : Option Addr) (ln lc LB LO : Nat) (rw : Nat → RW) (j : Nat) (b : Option Nat) (cap : Nat) (Lr : List Value) (u0 : Nat → Value) (x52 : Bool×L) (a54 : Nat) (i : Nat) (u58 : Nat → Value) (a110 : Nat)  (R : RO) : Exit' → St → RO → Prop := altPost R (.alt (Nat×NV) (fun zx => True) (fun zx => (.exit 4, ((terms_own_L12_inv lv ln lc LB LO rw j b cap Lr u0 x52 a54 i u58 a110 zx).up [] [gsb b Lr 29 (cap * 5), some (a54, .row x52.2.row 29 5), some (a110, .row [vi (((rw j).nd i).k), vu (((rw j).nd i).i), .string (((rw j).nd i).s), .slice ((rw j).nd i).ba (((rw j).nd i).bn) (((rw j).nd i).bc), .slice ((rw j).nd i).pa (((rw j).nd i).pm) (((rw j).nd i).pc)] 56 5)]))) (fun _ => .altn) (.alt (Nat×NV) (fun zx => True) (fun zx => (.ret, ((terms_own_L12_inv lv ln lc LB LO rw j b cap Lr u0 x52 a54 i u58 a110 zx).up [(2, .slice none 0 0)] [gsb b Lr 29 (cap * 5), some (a54, .row x52.2.row 29 5), some (a110, .row [vi (((rw j).nd i).k), vu (((rw j).nd i).i), .string (((rw j).nd i).s), .slice ((rw j).nd i).ba (((rw j).nd i).bn) (((rw j).nd i).bc), .slice ((rw j).nd i).pa (((rw j).nd i).pm) (((rw j).nd i).pc)] 56 5)]))) (fun _ => .altn) .altn))
theorem terms_own_L12_body (lv : Option Addr) (ln lc LB LO : Nat) (rw : Nat → RW) (j : Nat) (b : Option Nat) (cap : Nat) (Lr : List Value) (u0 : Nat → Value) (x52 : Bool×L) (a54 : Nat) (i : Nat) (u58 : Nat → Value) (a110 : Nat)  (R : RO) (hi : i < (rw j).n) (hj : j < ln) (hln : ln ≤ 1048576) (hrw : ∀ j, j < ln → lv = some ⟨LB, LO, none⟩∧R.cells LB (LO + j * 1) [.slice (rw j).a (rw j).n (rw j).c]∧(rw j).Ok R) (k : Nat) (u111 : Nat → Value) (hI : k ≤ ((rw j).nd i).pm) : CT Tryd.prog (sub (bodyOf Tryd.f6) [1, 1, 0, 1, 0, 0, 1, 1, 0, 0, 1, 1, 1, 0, 1, 0, 0, 1, 1, 0, 0, 1, 1, 0, 0]) (terms_own_L12_inv lv ln lc LB LO rw j b cap Lr u0 x52 a54 i u58 a110 (k, u111)) R (LK (terms_own_L12_inv lv ln lc LB LO rw j b cap Lr u0 x52 a54 i u58 a110) (terms_own_L12_I lv ln lc LB LO rw j b cap Lr u0 x52 a54 i u58 a110 R) (terms_own_L12_mu lv ln lc LB LO rw j b cap Lr u0 x52 a54 i u58 a110) (terms_own_L12_K lv ln lc LB LO rw j b cap Lr u0 x52 a54 i u58 a110 R) (k, u111)) :=
  CT.of_wp_eq (VC := (let z13 := (decide ((k : Int) < ((((rw j).nd i).pm : Nat) : Int)));let z10 := ((((rw j).nd i).pw k).1);let z9 : List Value := x52.2.row;let z8 : Option Addr := (some ⟨((rw j).nd i).PB, ((rw j).nd i).PO + Int.toNat (k : Int) * 2, none⟩);let z7 : List Value := [vi (((rw j).nd i).k), vu (((rw j).nd i).i), .string (((rw j).nd i).s), .slice ((rw j).nd i).ba (((rw j).nd i).bn) (((rw j).nd i).bc), .slice ((rw j).nd i).pa (((rw j).nd i).pm) (((rw j).nd i).pc)];let z6 := (terms_own_L12_mu lv ln lc LB LO rw j b cap Lr u0 x52 a54 i u58 a110);let z5 := (terms_own_L12_K lv ln lc LB LO rw j b cap Lr u0 x52 a54 i u58 a110 R);let z4 := (terms_own_L12_I lv ln lc LB LO rw j b cap Lr u0 x52 a54 i u58 a110 R);let z3 := (terms_own_L12_inv lv ln lc LB LO rw j b cap Lr u0 x52 a54 i u58 a110);let z2 := (terms_own_L12_inv lv ln lc LB LO rw j b cap Lr u0 x52 a54 i u58 a110 (k, u111));let z1 := ((((rw j).nd i).pw k).2);let z12 := (decide (z1 < (-1000000)));let z11 := (decide (z1 > 1000000));(z13 = true → (((rw j).nd i).pa = some ⟨((rw j).nd i).PB, ((rw j).nd i).PO, none⟩∧(0 : Int) ≤ (k : Int)∧((k : Int) : Int) < ((((rw j).nd i).pm : Nat) : Int))∧(R.cells ((rw j).nd i).PB (((rw j).nd i).PO + Int.toNat (k : Int) * 2) [vu z10, vi z1])∧∀ a163 : Nat, let z14 : Option Addr := (some ⟨a163, 1, none⟩);let z0 : Hp := [gsb b Lr 29 (cap * 5), some (a54, .row z9 29 5), some (a110, .row z7 56 5), some (a163, .row [vu z10, vi z1] 58 2)];(a163 = a163)∧(a163 = a163)∧(z11 = true → LK z3 z4 z6 z5 (k, u111) (.ret) (z2.up [(2, .slice none 0 0), (11, ptA a163), (45, .bool true), (46, .pointer z8), (47, .agg #[vu z10, vi z1]), (48, .pointer z14), (49, vi z1), (50, .bool z11), (51, .bool true), (52, undef), (53, undef), (54, undef), (55, .bool true)] z0) R)∧(z11 = false → (a163 = a163)∧(z12 = true → LK z3 z4 z6 z5 (k, u111) (.ret) (z2.up [(2, .slice none 0 0), (11, ptA a163), (45, .bool true), (46, .pointer z8), (47, .agg #[vu z10, vi z1]), (48, .pointer z14), (49, vi z1), (50, .bool z11), (51, .bool false), (52, .pointer z14), (53, vi z1), (54, .bool z12), (55, .bool true)] z0) R)∧(z12 = false → (NW .i64 ((k : Int) + 1))∧LK z3 z4 z6 z5 (k, u111) .normal (z2.up [(11, ptA a163), (44, vi ((k : Int) + 1)), (45, .bool true), (46, .pointer z8), (47, .agg #[vu z10, vi z1]), (48, .pointer z14), (49, vi z1), (50, .bool z11), (51, .bool false), (52, .pointer z14), (53, vi z1), (54, .bool z12), (55, .bool false), (56, vi ((k : Int) + 1))] z0) R)))∧(z13 = false → LK z3 z4 z6 z5 (k, u111) (.exit 4) (z2.up [(45, .bool false)] [gsb b Lr 29 (cap * 5), some (a54, .row z9 29 5), some (a110, .row z7 56 5)]) R))) (ops [.d] (.sp 45 (ops [.ib ((rw j).nd i).PB ((rw j).nd i).PO, .ro (fun v => [vu ((((rw j).nd i).pw k).1), vi ((((rw j).nd i).pw k).2)])] (.opn 3 (fun a163 => (ops [.p 3, .d, .p 3, .d, .d] (.sp 51 (ops [.d, .d] (.fin [] [])) (ops [.d, .p 3, .d, .d] (.sp 55 (ops [.d] (.fin [] [])) (ops [.nw, .d] (.fin [] []))))))))) (.fin [] []))) (by kernel_rfl)
    (⟨fun h162 => (have := of_decide_eq_true h162;⟨⟨(((hrw j (by omega)).2.2.hnd i (by omega)).2.2.pp k (by omega)).1, by omega, by omega⟩, ⟨(((hrw j (by omega)).2.2.hnd i (by omega)).2.2.pp k (by omega)).2.1, fun a163 => ⟨rfl, ⟨rfl, ⟨fun h164 => (have := of_decide_eq_true h164;Or.inr (altA (fun zw => (k, zw)) ⟨(show True from trivial), (by show _ = _;kernel_rfl), ⟨(by show _ = _;kernel_rfl), (by show _ = _;kernel_rfl), (by show _ = _;kernel_rfl)⟩⟩)), fun h164 => (have := of_decide_eq_false h164;⟨rfl, ⟨fun h165 => (have := of_decide_eq_true h165;Or.inr (altA (fun zw => (k, zw)) ⟨(show True from trivial), (by show _ = _;kernel_rfl), ⟨(by show _ = _;kernel_rfl), (by show _ = _;kernel_rfl), (by show _ = _;kernel_rfl)⟩⟩)), fun h165 => (have := of_decide_eq_false h165;⟨(nwI (by omega) (by have h9 := (hrw j (by omega)).2.2.nc;have h8 := ((hrw j (by omega)).2.2.hnd i (by omega)).2.2.pl;omega)), LKn (fun zw => ((k + 1), zw)) ⟨⟨rfl, (show (k + 1) ≤ ((rw j).nd i).pm from (by omega))⟩, (show ((rw j).nd i).pm - (k + 1) < ((rw j).nd i).pm - k from (by omega)), ⟨(by show _ = _;kernel_rfl), rfl, rfl⟩⟩⟩)⟩⟩)⟩⟩⟩⟩⟩), fun h162 => (have := of_decide_eq_false h162;altA (fun zw => (k, zw)) ⟨(show True from trivial), (by show _ = _;kernel_rfl), ⟨(by show _ = _;kernel_rfl), (by show _ = _;kernel_rfl), (by show _ = _;kernel_rfl)⟩⟩)⟩)
theorem terms_own_L12_ct (lv : Option Addr) (ln lc LB LO : Nat) (rw : Nat → RW) (j : Nat) (b : Option Nat) (cap : Nat) (Lr : List Value) (u0 : Nat → Value) (x52 : Bool×L) (a54 : Nat) (i : Nat) (u58 : Nat → Value) (a110 : Nat)  (R : RO) (hi : i < (rw j).n) (hj : j < ln) (hln : ln ≤ 1048576) (hrw : ∀ j, j < ln → lv = some ⟨LB, LO, none⟩∧R.cells LB (LO + j * 1) [.slice (rw j).a (rw j).n (rw j).c]∧(rw j).Ok R)  : CT Tryd.prog (sub (bodyOf Tryd.f6) [1, 1, 0, 1, 0, 0, 1, 1, 0, 0, 1, 1, 1, 0, 1, 0, 0, 1, 1, 0, 0, 1, 1, 0]) ⟨(.slice lv ln lc::undef::(u58 2)::gsv b j cap::undef::.slice (rw j).a ((rw j).n) ((rw j).c)::ptA a54::.bool x52.1::undef::ptA a110::undef::(u58 11)::.slice lv ln lc::vi (ln : Int)::vi (j : Int)::.bool true::(ptO LB (LO + Int.toNat (j : Int) * 1))::.slice (rw j).a ((rw j).n) ((rw j).c)::.tuple #[.agg x52.2.row.toArray, .bool x52.1]::.slice (rw j).a ((rw j).n) ((rw j).c)::.tuple #[.agg x52.2.row.toArray, .bool x52.1]::.agg x52.2.row.toArray::.bool x52.1::.bool x52.1::.bool (!x52.1)::.bool false::.slice lv ln lc::vi (ln : Int)::.bool (decide ((ln : Int) > 12))::.bool (decide ((ln : Int) > 12))::.bool false::.slice (rw j).a ((rw j).n) ((rw j).c)::vi (((rw j).n : Nat) : Int)::.bool (decide ((((rw j).n : Nat) : Int) > 40))::.bool false::.slice (rw j).a ((rw j).n) ((rw j).c)::vi (((rw j).n : Nat) : Int)::vi (i : Int)::.bool true::.pointer (some ⟨(rw j).B, (rw j).O + Int.toNat (i : Int) * 5, none⟩)::.agg #[vi (((rw j).nd i).k), vu (((rw j).nd i).i), .string (((rw j).nd i).s), .slice ((rw j).nd i).ba (((rw j).nd i).bn) (((rw j).nd i).bc), .slice ((rw j).nd i).pa (((rw j).nd i).pm) (((rw j).nd i).pc)]::(ptO a110 (4))::.slice ((rw j).nd i).pa (((rw j).nd i).pm) (((rw j).nd i).pc)::vi ((((rw j).nd i).pm : Nat) : Int)::vi 0::urun u58 45 13 (urun u0 58 5 (undef::[]))), [], [gsb b Lr 29 (cap * 5), some (a54, .row x52.2.row 29 5), some (a110, .row [vi (((rw j).nd i).k), vu (((rw j).nd i).i), .string (((rw j).nd i).s), .slice ((rw j).nd i).ba (((rw j).nd i).bn) (((rw j).nd i).bc), .slice ((rw j).nd i).pa (((rw j).nd i).pm) (((rw j).nd i).pc)] 56 5)]⟩ R (terms_own_L12_K lv ln lc LB LO rw j b cap Lr u0 x52 a54 i u58 a110 R) :=
  CT.loop_eqs (terms_own_L12_inv lv ln lc LB LO rw j b cap Lr u0 x52 a54 i u58 a110) (terms_own_L12_I lv ln lc LB LO rw j b cap Lr u0 x52 a54 i u58 a110 R) (terms_own_L12_mu lv ln lc LB LO rw j b cap Lr u0 x52 a54 i u58 a110) (fun zw => (0, zw)) (by kernel_rfl) (by kernel_rfl) ⟨rfl, (show 0 ≤ ((rw j).nd i).pm from (Nat.zero_le _))⟩
    (by
      rintro ⟨k, u111⟩ G hG ⟨rfl, hI⟩
      exact terms_own_L12_body lv ln lc LB LO rw j b cap Lr u0 x52 a54 i u58 a110 _ hi hj hln hrw k u111 hI)
noncomputable def terms_own_L9_inv (lv : Option Addr) (ln lc LB LO : Nat) (rw : Nat → RW) (j : Nat) (b : Option Nat) (cap : Nat) (Lr : List Value) (u0 : Nat → Value) (x52 : Bool×L) (a54 : Nat)  : Nat×NV → St := fun zx => ⟨(.slice lv ln lc::undef::(zx.2 2)::gsv b j cap::undef::.slice (rw j).a ((rw j).n) ((rw j).c)::ptA a54::.bool x52.1::undef::(zx.2 9)::undef::(zx.2 11)::.slice lv ln lc::vi (ln : Int)::vi (j : Int)::.bool true::(ptO LB (LO + Int.toNat (j : Int) * 1))::.slice (rw j).a ((rw j).n) ((rw j).c)::.tuple #[.agg x52.2.row.toArray, .bool x52.1]::.slice (rw j).a ((rw j).n) ((rw j).c)::.tuple #[.agg x52.2.row.toArray, .bool x52.1]::.agg x52.2.row.toArray::.bool x52.1::.bool x52.1::.bool (!x52.1)::.bool false::.slice lv ln lc::vi (ln : Int)::.bool (decide ((ln : Int) > 12))::.bool (decide ((ln : Int) > 12))::.bool false::.slice (rw j).a ((rw j).n) ((rw j).c)::vi (((rw j).n : Nat) : Int)::.bool (decide ((((rw j).n : Nat) : Int) > 40))::.bool false::.slice (rw j).a ((rw j).n) ((rw j).c)::vi (((rw j).n : Nat) : Int)::vi ((zx.1 : Nat) : Int)::urun zx.2 38 20 (urun u0 58 5 (undef::[]))), [], [gsb b Lr 29 (cap * 5), some (a54, .row x52.2.row 29 5)]⟩
def terms_own_L9_I (lv : Option Addr) (ln lc LB LO : Nat) (rw : Nat → RW) (j : Nat) (b : Option Nat) (cap : Nat) (Lr : List Value) (u0 : Nat → Value) (x52 : Bool×L) (a54 : Nat)  (R : RO) : Nat×NV → RO → Prop := fun zx G => G = R∧(zx.1 ≤ (rw j).n)
def terms_own_L9_mu (lv : Option Addr) (ln lc LB LO : Nat) (rw : Nat → RW) (j : Nat) (b : Option Nat) (cap : Nat) (Lr : List Value) (u0 : Nat → Value) (x52 : Bool×L) (a54 : Nat)  : Nat×NV → Nat := fun zx => (rw j).n - zx.1
noncomputable def terms_own_L9_K (lv : Option Addr) (ln lc LB LO : Nat) (rw : Nat → RW) (j : Nat) (b : Option Nat) (cap : Nat) (Lr : List Value) (u0 : Nat → Value) (x52 : Bool×L) (a54 : Nat)  (R : RO) : Exit' → St → RO → Prop := altPost R (.alt (Nat×NV) (fun zx => True) (fun zx => (.exit 2, ((terms_own_L9_inv lv ln lc LB LO rw j b cap Lr u0 x52 a54 zx).up [] [gsb b Lr 29 (cap * 5), some (a54, .row x52.2.row 29 5)]))) (fun _ => .altn) (.alt (Nat×NV) (fun zx => True) (fun zx => (.ret, ((terms_own_L9_inv lv ln lc LB LO rw j b cap Lr u0 x52 a54 zx).up [(2, .slice none 0 0)] [gsb b Lr 29 (cap * 5), some (a54, .row x52.2.row 29 5)]))) (fun _ => .altn) .altn))
theorem terms_own_L9_body (lv : Option Addr) (ln lc LB LO : Nat) (rw : Nat → RW) (j : Nat) (b : Option Nat) (cap : Nat) (Lr : List Value) (u0 : Nat → Value) (x52 : Bool×L) (a54 : Nat)  (R : RO) (hj : j < ln) (hln : ln ≤ 1048576) (hrw : ∀ j, j < ln → lv = some ⟨LB, LO, none⟩∧R.cells LB (LO + j * 1) [.slice (rw j).a (rw j).n (rw j).c]∧(rw j).Ok R) (i : Nat) (u58 : Nat → Value) (hI : i ≤ (rw j).n) : CT Tryd.prog (sub (bodyOf Tryd.f6) [1, 1, 0, 1, 0, 0, 1, 1, 0, 0, 1, 1, 1, 0, 1, 0, 0]) (terms_own_L9_inv lv ln lc LB LO rw j b cap Lr u0 x52 a54 (i, u58)) R (LK (terms_own_L9_inv lv ln lc LB LO rw j b cap Lr u0 x52 a54) (terms_own_L9_I lv ln lc LB LO rw j b cap Lr u0 x52 a54 R) (terms_own_L9_mu lv ln lc LB LO rw j b cap Lr u0 x52 a54) (terms_own_L9_K lv ln lc LB LO rw j b cap Lr u0 x52 a54 R) (i, u58)) :=
  CT.of_wp_eq (VC := (let z11 := (((rw j).n : Nat) : Int);let z10 := (terms_own_L9_mu lv ln lc LB LO rw j b cap Lr u0 x52 a54);let z9 : List Value := x52.2.row;let z8 := (terms_own_L9_K lv ln lc LB LO rw j b cap Lr u0 x52 a54 R);let z7 := (terms_own_L9_I lv ln lc LB LO rw j b cap Lr u0 x52 a54 R);let z6 := (terms_own_L9_inv lv ln lc LB LO rw j b cap Lr u0 x52 a54);let z5 : Option Addr := (some ⟨(rw j).B, (rw j).O + Int.toNat (i : Int) * 5, none⟩);let z4 := (terms_own_L9_inv lv ln lc LB LO rw j b cap Lr u0 x52 a54 (i, u58));let z3 : List Value := [vi (((rw j).nd i).k), vu (((rw j).nd i).i), .string (((rw j).nd i).s), .slice ((rw j).nd i).ba (((rw j).nd i).bn) (((rw j).nd i).bc), .slice ((rw j).nd i).pa (((rw j).nd i).pm) (((rw j).nd i).pc)];let z2 : Array Value := x52.2.row.toArray;let z1 : Array Value := #[vi (((rw j).nd i).k), vu (((rw j).nd i).i), .string (((rw j).nd i).s), .slice ((rw j).nd i).ba (((rw j).nd i).bn) (((rw j).nd i).bc), .slice ((rw j).nd i).pa (((rw j).nd i).pm) (((rw j).nd i).pc)];((decide ((i : Int) < z11)) = true → ((rw j).a = some ⟨(rw j).B, (rw j).O, none⟩∧(0 : Int) ≤ (i : Int)∧((i : Int) : Int) < z11)∧(R.cells (rw j).B ((rw j).O + Int.toNat (i : Int) * 5) z3)∧∀ a110 : Nat, let z0 : Hp := [gsb b Lr 29 (cap * 5), some (a54, .row z9 29 5), some (a110, .row z3 56 5)];(a110 = a110)∧(a110 = a110)∧(CT Tryd.prog (sub (bodyOf Tryd.f6) [1, 1, 0, 1, 0, 0, 1, 1, 0, 0, 1, 1, 1, 0, 1, 0, 0, 1, 1, 0, 0, 1, 1, 0]) ⟨(.slice lv ln lc::undef::(u58 2)::gsv b j cap::undef::.slice (rw j).a ((rw j).n) ((rw j).c)::ptA a54::.bool x52.1::undef::ptA a110::undef::(u58 11)::.slice lv ln lc::vi (ln : Int)::vi (j : Int)::.bool true::(ptO LB (LO + Int.toNat (j : Int) * 1))::.slice (rw j).a ((rw j).n) ((rw j).c)::.tuple #[.agg z2, .bool x52.1]::.slice (rw j).a ((rw j).n) ((rw j).c)::.tuple #[.agg z2, .bool x52.1]::.agg z2::.bool x52.1::.bool x52.1::.bool (!x52.1)::.bool false::.slice lv ln lc::vi (ln : Int)::.bool (decide ((ln : Int) > 12))::.bool (decide ((ln : Int) > 12))::.bool false::.slice (rw j).a ((rw j).n) ((rw j).c)::vi z11::.bool (decide (z11 > 40))::.bool false::.slice (rw j).a ((rw j).n) ((rw j).c)::vi z11::vi (i : Int)::.bool true::.pointer z5::.agg z1::(ptO a110 (4))::.slice ((rw j).nd i).pa (((rw j).nd i).pm) (((rw j).nd i).pc)::vi ((((rw j).nd i).pm : Nat) : Int)::vi 0::urun u58 45 13 (urun u0 58 5 (undef::[]))), [], z0⟩ R (terms_own_L12_K lv ln lc LB LO rw j b cap Lr u0 x52 a54 i u58 a110 R))∧(∀ x112 : Nat×NV, (True) → (NW .i64 ((i : Int) + 1))∧LK z6 z7 z10 z8 (i, u58) .normal (z4.up [(2, (x112.2 2)), (9, ptA a110), (11, (x112.2 11)), (37, vi ((i : Int) + 1)), (38, .bool true), (39, .pointer z5), (40, .agg z1), (41, (ptO a110 (4))), (42, .slice ((rw j).nd i).pa (((rw j).nd i).pm) (((rw j).nd i).pc)), (43, vi ((((rw j).nd i).pm : Nat) : Int)), (44, vi (x112.1 : Int)), (45, (x112.2 45)), (46, (x112.2 46)), (47, (x112.2 47)), (48, (x112.2 48)), (49, (x112.2 49)), (50, (x112.2 50)), (51, (x112.2 51)), (52, (x112.2 52)), (53, (x112.2 53)), (54, (x112.2 54)), (55, (x112.2 55)), (56, (x112.2 56)), (57, vi ((i : Int) + 1))] z0) R)∧((∀ x113 : Nat×NV, (True) → LK z6 z7 z10 z8 (i, u58) (.ret) (z4.up [(2, .slice none 0 0), (9, ptA a110), (11, (x113.2 11)), (38, .bool true), (39, .pointer z5), (40, .agg z1), (41, (ptO a110 (4))), (42, .slice ((rw j).nd i).pa (((rw j).nd i).pm) (((rw j).nd i).pc)), (43, vi ((((rw j).nd i).pm : Nat) : Int)), (44, vi (x113.1 : Int)), (45, (x113.2 45)), (46, (x113.2 46)), (47, (x113.2 47)), (48, (x113.2 48)), (49, (x113.2 49)), (50, (x113.2 50)), (51, (x113.2 51)), (52, (x113.2 52)), (53, (x113.2 53)), (54, (x113.2 54)), (55, (x113.2 55)), (56, (x113.2 56))] z0) R)∧True))∧((decide ((i : Int) < z11)) = false → LK z6 z7 z10 z8 (i, u58) (.exit 2) (z4.up [(38, .bool false)] [gsb b Lr 29 (cap * 5), some (a54, .row z9 29 5)]) R))) (let y_0 : List Value := [vi (((rw j).nd i).k), vu (((rw j).nd i).i), .string (((rw j).nd i).s), .slice ((rw j).nd i).ba (((rw j).nd i).bn) (((rw j).nd i).bc), .slice ((rw j).nd i).pa (((rw j).nd i).pm) (((rw j).nd i).pc)];ops [.d] (.sp 38 (ops [.ib (rw j).B (rw j).O, .ro (fun v => y_0)] (.opn 2 (fun a110 => let y_1 : Hp := [gsb b Lr 29 (cap * 5), some (a54, .row x52.2.row 29 5), some (a110, .row y_0 56 5)];(ops [.p 2, .d, .p 2, .d, .d] (.alt (Nat×NV) (fun zx => True) (fun zx => (.exit 4, ((terms_own_L12_inv lv ln lc LB LO rw j b cap Lr u0 x52 a54 i u58 a110 zx).up [] y_1))) (fun x112 => (ops [.nw, .d] (.fin [] []))) (.alt (Nat×NV) (fun zx => True) (fun zx => (.ret, ((terms_own_L12_inv lv ln lc LB LO rw j b cap Lr u0 x52 a54 i u58 a110 zx).up [(2, .slice none 0 0)] y_1))) (fun x113 => (.fin [] [])) .altn)))))) (.fin [] []))) (by kernel_rfl)
    (⟨fun h109 => (have := of_decide_eq_true h109;⟨⟨((hrw j (by omega)).2.2.hnd i (by omega)).1, by omega, by have h9 := (hrw j (by omega)).2.2.nc;omega⟩, ⟨((hrw j (by omega)).2.2.hnd i (by omega)).2.1, fun a110 => ⟨rfl, ⟨rfl, ⟨terms_own_L12_ct lv ln lc LB LO rw j b cap Lr u0 x52 a54 i u58 a110 R (by omega) hj hln hrw, ⟨fun x112 qx112 => ⟨(nwI (by omega) (by have h9 := (hrw j (by omega)).2.2.nc;omega)), LKn (fun zw => ((i + 1), zw)) ⟨⟨rfl, (show (i + 1) ≤ (rw j).n from (by omega))⟩, (show (rw j).n - (i + 1) < (rw j).n - i from (by omega)), ⟨(by show _ = _;kernel_rfl), rfl, rfl⟩⟩⟩, ⟨fun x113 qx113 => Or.inr (altA (fun zw => (i, zw)) ⟨(show True from trivial), (by show _ = _;kernel_rfl), ⟨(by show _ = _;kernel_rfl), (by show _ = _;kernel_rfl), (by show _ = _;kernel_rfl)⟩⟩), trivial⟩⟩⟩⟩⟩⟩⟩), fun h109 => (have := of_decide_eq_false h109;altA (fun zw => (i, zw)) ⟨(show True from trivial), (by show _ = _;kernel_rfl), ⟨(by show _ = _;kernel_rfl), (by show _ = _;kernel_rfl), (by show _ = _;kernel_rfl)⟩⟩)⟩)
theorem terms_own_L9_ct (lv : Option Addr) (ln lc LB LO : Nat) (rw : Nat → RW) (j : Nat) (b : Option Nat) (cap : Nat) (Lr : List Value) (u0 : Nat → Value) (x52 : Bool×L) (a54 : Nat)  (R : RO) (hj : j < ln) (hln : ln ≤ 1048576) (hrw : ∀ j, j < ln → lv = some ⟨LB, LO, none⟩∧R.cells LB (LO + j * 1) [.slice (rw j).a (rw j).n (rw j).c]∧(rw j).Ok R)  : CT Tryd.prog (sub (bodyOf Tryd.f6) [1, 1, 0, 1, 0, 0, 1, 1, 0, 0, 1, 1, 1, 0, 1, 0]) ⟨(.slice lv ln lc::undef::(u0 2)::gsv b j cap::undef::.slice (rw j).a ((rw j).n) ((rw j).c)::ptA a54::.bool x52.1::undef::(u0 9)::undef::(u0 11)::.slice lv ln lc::vi (ln : Int)::vi (j : Int)::.bool true::(ptO LB (LO + Int.toNat (j : Int) * 1))::.slice (rw j).a ((rw j).n) ((rw j).c)::.tuple #[.agg x52.2.row.toArray, .bool x52.1]::.slice (rw j).a ((rw j).n) ((rw j).c)::.tuple #[.agg x52.2.row.toArray, .bool x52.1]::.agg x52.2.row.toArray::.bool x52.1::.bool x52.1::.bool (!x52.1)::.bool false::.slice lv ln lc::vi (ln : Int)::.bool (decide ((ln : Int) > 12))::.bool (decide ((ln : Int) > 12))::.bool false::.slice (rw j).a ((rw j).n) ((rw j).c)::vi (((rw j).n : Nat) : Int)::.bool (decide ((((rw j).n : Nat) : Int) > 40))::.bool false::.slice (rw j).a ((rw j).n) ((rw j).c)::vi (((rw j).n : Nat) : Int)::vi 0::urun u0 38 25 (undef::[])), [], [gsb b Lr 29 (cap * 5), some (a54, .row x52.2.row 29 5)]⟩ R (terms_own_L9_K lv ln lc LB LO rw j b cap Lr u0 x52 a54 R) :=
  CT.loop_eqs (terms_own_L9_inv lv ln lc LB LO rw j b cap Lr u0 x52 a54) (terms_own_L9_I lv ln lc LB LO rw j b cap Lr u0 x52 a54 R) (terms_own_L9_mu lv ln lc LB LO rw j b cap Lr u0 x52 a54) (fun zw => (0, zw)) (by kernel_rfl) (by kernel_rfl) ⟨rfl, (show 0 ≤ (rw j).n from (Nat.zero_le _))⟩
    (by
      rintro ⟨i, u58⟩ G hG ⟨rfl, hI⟩
      exact terms_own_L9_body lv ln lc LB LO rw j b cap Lr u0 x52 a54 _ hj hln hrw i u58 hI)
noncomputable def terms_own_L3_inv (lv : Option Addr) (ln lc LB LO : Nat) (rw : Nat → RW)  : Nat×Option Nat×Nat×List Value×List L×NV → St := fun zx => ⟨(.slice lv ln lc::undef::(zx.2.2.2.2.2 2)::gsv zx.2.1 zx.1 zx.2.2.1::undef::urun zx.2.2.2.2.2 5 3 (undef::(zx.2.2.2.2.2 9)::undef::(zx.2.2.2.2.2 11)::.slice lv ln lc::vi (ln : Int)::vi ((zx.1 : Nat) : Int)::urun zx.2.2.2.2.2 15 48 (undef::[]))), [], [gsb zx.2.1 zx.2.2.2.1 29 (zx.2.2.1 * 5)]⟩
def terms_own_L3_I (lv : Option Addr) (ln lc LB LO : Nat) (rw : Nat → RW)  (R : RO) : Nat×Option Nat×Nat×List Value×List L×NV → RO → Prop := fun zx G => R.le G∧(zx.1 ≤ ln∧TA G zx.1 zx.2.1 zx.2.2.1 zx.2.2.2.1 zx.2.2.2.2.1)
def terms_own_L3_mu (lv : Option Addr) (ln lc LB LO : Nat) (rw : Nat → RW)  : Nat×Option Nat×Nat×List Value×List L×NV → Nat := fun zx => ln - zx.1
noncomputable def terms_own_L3_K (lv : Option Addr) (ln lc LB LO : Nat) (rw : Nat → RW)  (R : RO) : Exit' → St → RO → Prop := altPost R (.altG (Nat×Option Nat×Nat×List Value×List L×NV) (fun zx G => zx.1 = ln∧TA G zx.1 zx.2.1 zx.2.2.1 zx.2.2.2.1 zx.2.2.2.2.1) (fun zx => (.exit 0, ((terms_own_L3_inv lv ln lc LB LO rw zx).up [] [gsb zx.2.1 zx.2.2.2.1 29 (zx.2.2.1 * 5)]))) (fun _ => .altn) (.altG (Nat×Option Nat×Nat×List Value×List L×NV) (fun zx G => True) (fun zx => (.ret, ((terms_own_L3_inv lv ln lc LB LO rw zx).up [(2, .slice none 0 0)] [gsb zx.2.1 zx.2.2.2.1 29 (zx.2.2.1 * 5)]))) (fun _ => .altn) .altn))
theorem terms_own_L3_body (lv : Option Addr) (ln lc LB LO : Nat) (rw : Nat → RW)  (R0 R : RO) (hle : R0.le R) (hln : ln ≤ 1048576) (hrw : ∀ j, j < ln → lv = some ⟨LB, LO, none⟩∧R.cells LB (LO + j * 1) [.slice (rw j).a (rw j).n (rw j).c]∧(rw j).Ok R) (j : Nat) (b : Option Nat) (cap : Nat) (Lr : List Value) (zs : List L) (u0 : Nat → Value) (hI : j ≤ ln∧TA R j b cap Lr zs) : CT Tryd.prog (sub (bodyOf Tryd.f6) [1, 1, 0, 1, 0, 0]) (terms_own_L3_inv lv ln lc LB LO rw (j, b, cap, Lr, zs, u0)) R (LK (terms_own_L3_inv lv ln lc LB LO rw) (terms_own_L3_I lv ln lc LB LO rw R0) (terms_own_L3_mu lv ln lc LB LO rw) (terms_own_L3_K lv ln lc LB LO rw R0) (j, b, cap, Lr, zs, u0)) :=
  CT.of_wp_eq (VC := (let z10 := (terms_own_L3_mu lv ln lc LB LO rw);let z9 := (terms_own_L3_inv lv ln lc LB LO rw);let z8 := (terms_own_L3_K lv ln lc LB LO rw R0);let z7 := (terms_own_L3_I lv ln lc LB LO rw R0);let z4 := (((rw j).n : Nat) : Int);let z3 : Option Addr := (some ⟨LB, LO + Int.toNat (j : Int) * 1, none⟩);let z2 := (decide ((ln : Int) > 12));((decide ((j : Int) < (ln : Int))) = true → (lv = some ⟨LB, LO, none⟩∧(0 : Int) ≤ (j : Int)∧((j : Int) : Int) < (ln : Int))∧(R.cells LB (LO + Int.toNat (j : Int) * 1) [.slice (rw j).a ((rw j).n) ((rw j).c)])∧(Does Tryd.prog 24 [.slice (rw j).a ((rw j).n) ((rw j).c)] R [] (fun r G B => ∃ x52 : Bool×L, (x52.1 = true → x52.2.ok G∧x52.2.t.okn∧x52.2.t.wt ≤ 490000)∧r = .ret (.tuple #[.agg x52.2.row.toArray, .bool x52.1])∧B = []))∧∀ (x52 : Bool×L) (G53 : RO), let z1 : List Value := x52.2.row;let z0 : Array Value := x52.2.row.toArray;let z5 : Array Value := #[.agg z0, .bool x52.1];R.le G53 → (x52.1 = true → x52.2.ok G53∧x52.2.t.okn∧x52.2.t.wt ≤ 490000) → ∀ a54 : Nat, let z6 : Hp := [gsb b Lr 29 (cap * 5), some (a54, .row z1 29 5)];(a54 = a54)∧((!x52.1) = true → LK z9 z7 z10 z8 (j, b, cap, Lr, zs, u0) (.ret) ⟨(.slice lv ln lc::undef::.slice none 0 0::gsv b j cap::undef::.slice (rw j).a ((rw j).n) ((rw j).c)::ptA a54::.bool x52.1::undef::(u0 9)::undef::(u0 11)::.slice lv ln lc::vi (ln : Int)::vi (j : Int)::.bool true::.pointer z3::.slice (rw j).a ((rw j).n) ((rw j).c)::.tuple z5::.slice (rw j).a ((rw j).n) ((rw j).c)::.tuple z5::.agg z0::.bool x52.1::.bool x52.1::.bool (!x52.1)::.bool true::undef::undef::undef::.bool true::.bool true::undef::undef::undef::.bool true::urun u0 35 28 (undef::[])), [], z6⟩ G53)∧((!x52.1) = false → (z2 = true → LK z9 z7 z10 z8 (j, b, cap, Lr, zs, u0) (.ret) ⟨(.slice lv ln lc::undef::.slice none 0 0::gsv b j cap::undef::.slice (rw j).a ((rw j).n) ((rw j).c)::ptA a54::.bool x52.1::undef::(u0 9)::undef::(u0 11)::.slice lv ln lc::vi (ln : Int)::vi (j : Int)::.bool true::.pointer z3::.slice (rw j).a ((rw j).n) ((rw j).c)::.tuple z5::.slice (rw j).a ((rw j).n) ((rw j).c)::.tuple z5::.agg z0::.bool x52.1::.bool x52.1::.bool (!x52.1)::.bool false::.slice lv ln lc::vi (ln : Int)::.bool z2::.bool z2::.bool true::undef::undef::undef::.bool true::urun u0 35 28 (undef::[])), [], z6⟩ G53)∧(z2 = false → ((decide (z4 > 40)) = true → LK z9 z7 z10 z8 (j, b, cap, Lr, zs, u0) (.ret) ⟨(.slice lv ln lc::undef::.slice none 0 0::gsv b j cap::undef::.slice (rw j).a ((rw j).n) ((rw j).c)::ptA a54::.bool x52.1::undef::(u0 9)::undef::(u0 11)::.slice lv ln lc::vi (ln : Int)::vi (j : Int)::.bool true::.pointer z3::.slice (rw j).a ((rw j).n) ((rw j).c)::.tuple z5::.slice (rw j).a ((rw j).n) ((rw j).c)::.tuple z5::.agg z0::.bool x52.1::.bool x52.1::.bool (!x52.1)::.bool false::.slice lv ln lc::vi (ln : Int)::.bool z2::.bool z2::.bool false::.slice (rw j).a ((rw j).n) ((rw j).c)::vi z4::.bool (decide (z4 > 40))::.bool true::urun u0 35 28 (undef::[])), [], z6⟩ G53)∧((decide (z4 > 40)) = false → (CT Tryd.prog (sub (bodyOf Tryd.f6) [1, 1, 0, 1, 0, 0, 1, 1, 0, 0, 1, 1, 1, 0, 1, 0]) ⟨(.slice lv ln lc::undef::(u0 2)::gsv b j cap::undef::.slice (rw j).a ((rw j).n) ((rw j).c)::ptA a54::.bool x52.1::undef::(u0 9)::undef::(u0 11)::.slice lv ln lc::vi (ln : Int)::vi (j : Int)::.bool true::.pointer z3::.slice (rw j).a ((rw j).n) ((rw j).c)::.tuple z5::.slice (rw j).a ((rw j).n) ((rw j).c)::.tuple z5::.agg z0::.bool x52.1::.bool x52.1::.bool (!x52.1)::.bool false::.slice lv ln lc::vi (ln : Int)::.bool z2::.bool z2::.bool false::.slice (rw j).a ((rw j).n) ((rw j).c)::vi z4::.bool (decide (z4 > 40))::.bool false::.slice (rw j).a ((rw j).n) ((rw j).c)::vi z4::vi 0::urun u0 38 25 (undef::[])), [], z6⟩ G53 (terms_own_L9_K lv ln lc LB LO rw j b cap Lr u0 x52 a54 G53))∧(∀ x59 : Nat×NV, (True) → (a54 = a54)∧∀ a65 : Nat, (PrimOK Tryd.prog (.app 25 25 25 (gsv b j cap) (slA a65 1 1)) G53 [gsb b Lr 29 (cap * 5), some (a65, .row z1 29 5)] (Nat×Nat) (fun y66 => j + 1 ≤ y66.2∧y66.2 ≤ maxLen) (fun y66 => (.slice (some ⟨y66.1, 0, none⟩) (j + 1) y66.2, [some (y66.1, .row (Lr ++ (z1 : List Value)) 29 (y66.2 * 5)), some (a65, .row z1 29 5)])))∧∀ y66 : Nat×Nat, (j + 1 ≤ y66.2∧y66.2 ≤ maxLen) → (NW .i64 ((j : Int) + 1))∧LK z9 z7 z10 z8 (j, b, cap, Lr, zs, u0) .normal ⟨(.slice lv ln lc::undef::(x59.2 2)::.slice (some ⟨y66.1, 0, none⟩) (j + 1) y66.2::undef::.slice (rw j).a ((rw j).n) ((rw j).c)::ptA a54::.bool x52.1::undef::(x59.2 9)::undef::(x59.2 11)::.slice lv ln lc::vi (ln : Int)::vi ((j : Int) + 1)::.bool true::.pointer z3::.slice (rw j).a ((rw j).n) ((rw j).c)::.tuple z5::.slice (rw j).a ((rw j).n) ((rw j).c)::.tuple z5::.agg z0::.bool x52.1::.bool x52.1::.bool (!x52.1)::.bool false::.slice lv ln lc::vi (ln : Int)::.bool z2::.bool z2::.bool false::.slice (rw j).a ((rw j).n) ((rw j).c)::vi z4::.bool (decide (z4 > 40))::.bool false::.slice (rw j).a ((rw j).n) ((rw j).c)::vi z4::vi (x59.1 : Int)::urun x59.2 38 20 (gsv b j cap::.agg z0::slA a65 1 1::.slice (some ⟨y66.1, 0, none⟩) (j + 1) y66.2::vi ((j : Int) + 1)::undef::[])), [], [some (y66.1, .row (Lr ++ (z1 : List Value)) 29 (y66.2 * 5)), some (a54, .row z1 29 5), some (a65, .row z1 29 5)]⟩ G53)∧((∀ x60 : Nat×NV, (True) → LK z9 z7 z10 z8 (j, b, cap, Lr, zs, u0) (.ret) ⟨(.slice lv ln lc::undef::.slice none 0 0::gsv b j cap::undef::.slice (rw j).a ((rw j).n) ((rw j).c)::ptA a54::.bool x52.1::undef::(x60.2 9)::undef::(x60.2 11)::.slice lv ln lc::vi (ln : Int)::vi (j : Int)::.bool true::.pointer z3::.slice (rw j).a ((rw j).n) ((rw j).c)::.tuple z5::.slice (rw j).a ((rw j).n) ((rw j).c)::.tuple z5::.agg z0::.bool x52.1::.bool x52.1::.bool (!x52.1)::.bool false::.slice lv ln lc::vi (ln : Int)::.bool z2::.bool z2::.bool false::.slice (rw j).a ((rw j).n) ((rw j).c)::vi z4::.bool (decide (z4 > 40))::.bool false::.slice (rw j).a ((rw j).n) ((rw j).c)::vi z4::vi (x60.1 : Int)::urun x60.2 38 20 (urun u0 58 5 (undef::[]))), [], z6⟩ G53)∧True)))))∧((decide ((j : Int) < (ln : Int))) = false → LK z9 z7 z10 z8 (j, b, cap, Lr, zs, u0) (.exit 0) ((terms_own_L3_inv lv ln lc LB LO rw (j, b, cap, Lr, zs, u0)).up [(15, .bool false)] [gsb b Lr 29 (cap * 5)]) R))) (ops [.d] (.sp 15 (ops [.ib LB LO, .ro (fun v => [.slice (rw j).a ((rw j).n) ((rw j).c)]), .d, .d] (.opg [] [] (Bool×L) (fun x52 G => x52.1 = true → x52.2.ok G∧x52.2.t.okn∧x52.2.t.wt ≤ 490000) (fun x52 => (.tuple #[.agg x52.2.row.toArray, .bool x52.1], [])) (fun x52 => let y_0 : List Value := x52.2.row;(ops [.d, .d, .d] (.opn 1 (fun a54 => (ops [.p 1, .d, .d, .d, .d] (.sp 25 (ops [.d, .d, .d, .d] (.fin [] [])) (ops [.d, .d, .d, .d, .d] (.sp 30 (ops [.d, .d] (.fin [] [])) (ops [.d, .d, .d, .d] (.sp 34 (ops [.d] (.fin [] [])) (ops [.d, .d, .d] (.alt (Nat×NV) (fun zx => True) (fun zx => (.exit 2, ((terms_own_L9_inv lv ln lc LB LO rw j b cap Lr u0 x52 a54 zx).up [] [gsb b Lr 29 (cap * 5), some (a54, .row y_0 29 5)]))) (fun x59 => (ops [.d, .p 1] (.opn 2 (fun a65 => (.opp [0, 2] [] (Nat×Nat) (fun y66 => j + 1 ≤ y66.2∧y66.2 ≤ maxLen) (fun y66 => (.slice (some ⟨y66.1, 0, none⟩) (j + 1) y66.2, [some (y66.1, .row (Lr ++ (y_0 : List Value)) 29 (y66.2 * 5)), some (a65, .row y_0 29 5)])) (fun y66 => (ops [.d, .nw, .d] (.fin [] [])))))))) (.alt (Nat×NV) (fun zx => True) (fun zx => (.ret, ((terms_own_L9_inv lv ln lc LB LO rw j b cap Lr u0 x52 a54 zx).up [(2, .slice none 0 0)] [gsb b Lr 29 (cap * 5), some (a54, .row y_0 29 5)]))) (fun x60 => (.fin [] [])) .altn))))))))))))))) (.fin [] []))) (by kernel_rfl)
    (⟨fun h51 => (have := of_decide_eq_true h51;⟨⟨(hrw j (by omega)).1, by omega, by omega⟩, ⟨(hrw j (by omega)).2.1, ⟨(made_ok (rw j).a (rw j).n (rw j).c (rw j).B (rw j).O (rw j).nd R (by have h9 := (hrw j (by omega)).2.2.nc;omega) (hrw j (by omega)).2.2.hnd), fun x52 G53 hG53 qx52 => (have hle := RO.le_trans hle hG53;have hrw := hrw_mono hG53 hrw;have hI := And.intro hI.1 (TA.mono hG53 hI.2);fun a54 => ⟨rfl, ⟨fun h55 => LKr (Or.inr (altGA (G := G53) (fun zw => (j, b, cap, Lr, zs, zw)) ⟨(show True from trivial), (by show _ = _;kernel_rfl), ⟨(by show _ = _;kernel_rfl), (by show _ = _;kernel_rfl), (by show _ = _;kernel_rfl)⟩⟩)), fun h55 => ⟨fun h56 => (have := of_decide_eq_true h56;LKr (Or.inr (altGA (G := G53) (fun zw => (j, b, cap, Lr, zs, zw)) ⟨(show True from trivial), (by show _ = _;kernel_rfl), ⟨(by show _ = _;kernel_rfl), (by show _ = _;kernel_rfl), (by show _ = _;kernel_rfl)⟩⟩))), fun h56 => (have := of_decide_eq_false h56;⟨fun h57 => (have := of_decide_eq_true h57;LKr (Or.inr (altGA (G := G53) (fun zw => (j, b, cap, Lr, zs, zw)) ⟨(show True from trivial), (by show _ = _;kernel_rfl), ⟨(by show _ = _;kernel_rfl), (by show _ = _;kernel_rfl), (by show _ = _;kernel_rfl)⟩⟩))), fun h57 => (have := of_decide_eq_false h57;⟨terms_own_L9_ct lv ln lc LB LO rw j b cap Lr u0 x52 a54 G53 (by omega) hln hrw, ⟨fun x59 qx59 => ⟨rfl, fun a65 => ⟨(app1_ok (e := 29) (e' := 29) (z := 5) (by' := 80) (zc := [vi 0, vu 0, .string ByteArray.empty, .slice none 0 0, .slice none 0 0]) (b := b) (len := j) (cap := cap) (n := 1) (cs := Lr) (new := x52.2.row) (by kernel_rfl) (.inl (by kernel_rfl)) (by kernel_rfl) rfl (by rw [hI.2.rows, rowsL_len, hI.2.zl]) hI.2.jc hI.2.cm hI.2.b0 ⟨rfl, .inr (.inr ⟨_, _, _, rfl, .inl ⟨1, _, _, _, rfl, rfl⟩⟩)⟩ (ones_spec rfl) (by omega) (by simp only [maxLen];omega) (by omega)), fun y66 qy66 => ⟨(nwI (by omega) (by omega)), LKn (fun zw => ((j + 1), (some y66.1), y66.2, (Lr ++ (x52.2.row : List Value)), (zs ++ [x52.2]), zw)) ⟨⟨hle, (show (j + 1) ≤ ln∧TA G53 (j + 1) (some y66.1) y66.2 (Lr ++ (x52.2.row : List Value)) (zs ++ [x52.2]) from ⟨by omega, hI.2.step (qx52 (not_f h55)) qy66.1 qy66.2⟩)⟩, (show ln - (j + 1) < ln - j from (by omega)), ⟨rfl, rfl, rfl⟩⟩⟩⟩⟩, ⟨fun x60 qx60 => LKr (Or.inr (altGA (G := G53) (fun zw => (j, b, cap, Lr, zs, zw)) ⟨(show True from trivial), (by show _ = _;kernel_rfl), ⟨(by show _ = _;kernel_rfl), (by show _ = _;kernel_rfl), (by show _ = _;kernel_rfl)⟩⟩)), trivial⟩⟩⟩)⟩)⟩⟩⟩)⟩⟩⟩), fun h51 => (have := of_decide_eq_false h51;LKe (altGA (G := R) (fun zw => (j, b, cap, Lr, zs, zw)) ⟨(show j = ln∧TA R j b cap Lr zs from ⟨by have h9 := hI.1;omega, hI.2⟩), (by show _ = _;kernel_rfl), ⟨(by show _ = _;kernel_rfl), (by show _ = _;kernel_rfl), (by show _ = _;kernel_rfl)⟩⟩))⟩)
theorem terms_own_L3_ct (lv : Option Addr) (ln lc LB LO : Nat) (rw : Nat → RW)  (R : RO) (hln : ln ≤ 1048576) (hrw : ∀ j, j < ln → lv = some ⟨LB, LO, none⟩∧R.cells LB (LO + j * 1) [.slice (rw j).a (rw j).n (rw j).c]∧(rw j).Ok R)  : CT Tryd.prog (sub (bodyOf Tryd.f6) [1, 1, 0, 1, 0]) ⟨(.slice lv ln lc::undef::.slice none 0 0::.slice none 0 0::uns 8 (.slice lv ln lc::vi (ln : Int)::vi 0::uns 49 [])), [], []⟩ R (terms_own_L3_K lv ln lc LB LO rw R) :=
  CT.pad 1 <| CT.loop_eqs (terms_own_L3_inv lv ln lc LB LO rw) (terms_own_L3_I lv ln lc LB LO rw R) (terms_own_L3_mu lv ln lc LB LO rw) (fun zw => (0, (none : Option Nat), 0, ([] : List Value), ([] : List L), zw)) (by kernel_rfl) (by kernel_rfl) ⟨RO.le_refl R, (show 0 ≤ ln∧TA R 0 (none : Option Nat) 0 ([] : List Value) ([] : List L) from ⟨Nat.zero_le _, TA.begin R⟩)⟩
    (by
      rintro ⟨j, b, cap, Lr, zs, u0⟩ G hG ⟨hle, hI⟩
      have hrw := hrw_mono hle hrw
      exact terms_own_L3_body lv ln lc LB LO rw R G hle hln hrw j b cap Lr zs u0 hI)
theorem terms_own (lv : Option Addr) (ln lc LB LO : Nat) (rw : Nat → RW) (R : RO) (hln : ln ≤ 1048576) (hrw : ∀ j, j < ln → lv = some ⟨LB, LO, none⟩∧R.cells LB (LO + j * 1) [.slice (rw j).a (rw j).n (rw j).c]∧(rw j).Ok R) : Does Tryd.prog 6 [.slice lv ln lc] R [] (fun (r : Out) (G : RO) (B : Hp) => ∃ y : Option Nat×Nat×List L, ((y.1 = none → y.2.1 = 0)∧y.2.2.length ≤ y.2.1∧y.2.2.length ≤ 1048576∧∀ z ∈ y.2.2, z.ok G∧z.t.okn∧z.t.wt ≤ 490000)∧r = .ret (gsv y.1 y.2.2.length y.2.1)∧B = [gsb y.1 (rowsL y.2.2) 29 (y.2.1 * 5)]) :=
  Does.of_wp_eq (VC := ((CT Tryd.prog (sub (bodyOf Tryd.f6) [1, 1, 0, 1, 0]) ⟨(.slice lv ln lc::undef::.slice none 0 0::.slice none 0 0::uns 8 (.slice lv ln lc::vi (ln : Int)::vi 0::uns 49 [])), [], []⟩ R (terms_own_L3_K lv ln lc LB LO rw R))∧(∀ (x1 : Nat×Option Nat×Nat×List Value×List L×NV) (G2 : RO), R.le G2 → (x1.1 = ln∧TA G2 x1.1 x1.2.1 x1.2.2.1 x1.2.2.2.1 x1.2.2.2.2.1) → (fun (r : Out) (G : RO) (B : Hp) => ∃ y : Option Nat×Nat×List L, ((y.1 = none → y.2.1 = 0)∧y.2.2.length ≤ y.2.1∧y.2.2.length ≤ 1048576∧∀ z ∈ y.2.2, z.ok G∧z.t.okn∧z.t.wt ≤ 490000)∧r = .ret (gsv y.1 y.2.2.length y.2.1)∧B = [gsb y.1 (rowsL y.2.2) 29 (y.2.1 * 5)]) (.ret (gsv x1.2.1 x1.1 x1.2.2.1)) G2 [gsb x1.2.1 x1.2.2.2.1 29 (x1.2.2.1 * 5)])∧((∀ (x3 : Nat×Option Nat×Nat×List Value×List L×NV) (G4 : RO), R.le G4 → (True) → (fun (r : Out) (G : RO) (B : Hp) => ∃ y : Option Nat×Nat×List L, ((y.1 = none → y.2.1 = 0)∧y.2.2.length ≤ y.2.1∧y.2.2.length ≤ 1048576∧∀ z ∈ y.2.2, z.ok G∧z.t.okn∧z.t.wt ≤ 490000)∧r = .ret (gsv y.1 y.2.2.length y.2.1)∧B = [gsb y.1 (rowsL y.2.2) 29 (y.2.1 * 5)]) (.ret (.slice none 0 0)) G4 [none])∧True))) (ops [.d, .d, .d, .d, .d] (.altG (Nat×Option Nat×Nat×List Value×List L×NV) (fun zx G => zx.1 = ln∧TA G zx.1 zx.2.1 zx.2.2.1 zx.2.2.2.1 zx.2.2.2.2.1) (fun zx => (.exit 0, ((terms_own_L3_inv lv ln lc LB LO rw zx).up [] [gsb zx.2.1 zx.2.2.2.1 29 (zx.2.2.1 * 5)]))) (fun x1 => (ops [.d, .d] (.fin [0] []))) (.altG (Nat×Option Nat×Nat×List Value×List L×NV) (fun zx G => True) (fun zx => (.ret, ((terms_own_L3_inv lv ln lc LB LO rw zx).up [(2, .slice none 0 0)] [gsb zx.2.1 zx.2.2.2.1 29 (zx.2.2.1 * 5)]))) (fun x3 => (.fin [6] [])) .altn))) Tryd.func6 (by kernel_rfl) (by kernel_rfl)
    (⟨terms_own_L3_ct lv ln lc LB LO rw R hln hrw, ⟨fun x1 G2 hG2 qx1 => (have hrw := hrw_mono hG2 hrw;⟨(x1.2.1, x1.2.2.1, x1.2.2.2.2.1), ⟨qx1.2.b0, (show x1.2.2.2.2.1.length ≤ x1.2.2.1 by have h9 := qx1.2.zl;have h8 := qx1.2.jc;omega), (show x1.2.2.2.2.1.length ≤ 1048576 by have h9 := qx1.2.zl;omega), qx1.2.all⟩, (by exact congrArg (fun z => Out.ret (gsv _ z _)) qx1.2.zl.symm), (by exact congrArg (fun z => [gsb _ z 29 _]) qx1.2.rows)⟩), ⟨fun x3 G4 hG4 qx3 => (have hrw := hrw_mono hG4 hrw;⟨(none, 0, []), ⟨fun _ => rfl, Nat.zero_le _, Nat.zero_le _, fun z hz => by cases hz⟩, (by rfl), (by rfl)⟩), trivial⟩⟩⟩)
theorem rowsL_get {zs : List L} {j : Nat} (h : j < zs.length) : ((rowsL zs).drop (j * 5)).take 5 = (zat zs j).row := by rw [rowsL_at h, zat_get h]
theorem terms_ok (lv : Option Addr) (ln lc LB LO : Nat) (rw : Nat → RW) (R : RO) (hln : ln ≤ 1048576) (hrw : ∀ j, j < ln → lv = some ⟨LB, LO, none⟩∧R.cells LB (LO + j * 1) [.slice (rw j).a (rw j).n (rw j).c]∧(rw j).Ok R) : Does Tryd.prog 6 [.slice lv ln lc] R []
    (fun r G B => ∃ y : Option Nat×Nat×List L, ((y.1 = none → y.2.1 = 0)∧y.2.2.length ≤ y.2.1∧y.2.2.length ≤ 1048576∧TZ G (y.1.map fun a => ⟨a, 0, none⟩) y.2.2.length (y.1.getD 0) 0 (zat y.2.2))∧r = .ret (gsv y.1 y.2.2.length y.2.1)∧B = []) :=
  (Does.freeze (X := Option Nat×Nat×List L) (q := fun y G => (y.1 = none → y.2.1 = 0)∧y.2.2.length ≤ y.2.1∧y.2.2.length ≤ 1048576∧∀ z ∈ y.2.2, z.ok G∧z.t.okn∧z.t.wt ≤ 490000) (g := fun y => (gsv y.1 y.2.2.length y.2.1, [gsb y.1 (rowsL y.2.2) 29 (y.2.1 * 5)]))
    (terms_own lv ln lc LB LO rw R hln hrw)).mono (by
    rintro o G B hle ⟨⟨b, cap, zs⟩, G0, h0, ⟨q1, q2, q3, q4⟩, hc, rfl, rfl⟩
    refine ⟨(b, cap, zs), ⟨q1, q2, q3, ?_⟩, rfl, rfl⟩
    have hm : ∀ j, j < zs.length → zat zs j ∈ zs := fun j hj => by rw [zat_get hj];exact List.getElem_mem ..
    refine ⟨fun j hj => ?_, fun j hj => ?_, fun j hj => L.ok_mono h0 _ (q4 _ (hm j hj)).1, fun j hj => (q4 _ (hm j hj)).2.1, fun j hj => (q4 _ (hm j hj)).2.2⟩
    · cases b with
      | none => have := q1 rfl;omega
      | some a => rfl
    · cases b with
      | none => have := q1 rfl;omega
      | some a =>
        have := hc 0 a (rowsL zs) 29 _ rfl
        exact RO.cells_sub (i := j * 5) this (rowsL_get hj))
def eqZ (f h : Nat → Int) (n m : Nat) : Bool := decide (n = m) && (List.range n).all fun i => f i == h i
theorem eqZ_iff {f h : Nat → Int} {n m : Nat} : eqZ f h n m = true ↔ n = m∧∀ i, i < n → f i = h i := by simp [eqZ]
theorem eqZ_f {f h : Nat → Int} {n m : Nat} (x : ¬ (n = m∧∀ i, i < n → f i = h i)) : eqZ f h n m = false := by
  cases e : eqZ f h n m with
  | false => rfl
  | true => exact (x (eqZ_iff.1 e)).elim
def intsI (l : List Int) : List Value := l.map (Value.int .i64)
theorem intsI_len (l : List Int) : (intsI l).length = l.length := by simp [intsI]
noncomputable def equal_ok_L4_inv (xv : Option Addr) (n xc XB XO : Nat) (f : Nat → Int) (yv : Option Addr) (m yc YB YO : Nat) (h : Nat → Int)  : Nat×NV → St := fun zx => ⟨(.slice xv n xc::.slice yv m yc::undef::undef::(zx.2 4)::(zx.2 5)::.slice xv n xc::vi (n : Int)::.slice yv m yc::vi (m : Int)::.bool false::.slice xv n xc::vi (n : Int)::vi ((zx.1 : Nat) : Int)::urun zx.2 14 12 []), [], []⟩
def equal_ok_L4_I (xv : Option Addr) (n xc XB XO : Nat) (f : Nat → Int) (yv : Option Addr) (m yc YB YO : Nat) (h : Nat → Int)  (R : RO) : Nat×NV → RO → Prop := fun zx G => G = R∧(zx.1 ≤ n∧∀ i, i < zx.1 → f i = h i)
def equal_ok_L4_mu (xv : Option Addr) (n xc XB XO : Nat) (f : Nat → Int) (yv : Option Addr) (m yc YB YO : Nat) (h : Nat → Int)  : Nat×NV → Nat := fun zx => n - zx.1
noncomputable def equal_ok_L4_K (xv : Option Addr) (n xc XB XO : Nat) (f : Nat → Int) (yv : Option Addr) (m yc YB YO : Nat) (h : Nat → Int)  (R : RO) : Exit' → St → RO → Prop := altPost R (.alt (Nat×NV) (fun zx => ∀ i, i < n → f i = h i) (fun zx => (.exit 0, ((equal_ok_L4_inv xv n xc XB XO f yv m yc YB YO h zx).up [] []))) (fun _ => .altn) (.alt (Nat×NV) (fun zx => ¬ (n = m∧∀ i, i < n → f i = h i)) (fun zx => (.ret, ((equal_ok_L4_inv xv n xc XB XO f yv m yc YB YO h zx).up [(4, .bool false)] []))) (fun _ => .altn) .altn))
theorem equal_ok_L4_body (xv : Option Addr) (n xc XB XO : Nat) (f : Nat → Int) (yv : Option Addr) (m yc YB YO : Nat) (h : Nat → Int)  (R : RO) (hnm : n = m) (hn : n ≤ 1048576) (hm : m ≤ 1048576) (hx : ∀ j, j < n → xv = some ⟨XB, XO, none⟩∧R.cells XB (XO + j * 1) [vi (f j)]) (hy : ∀ j, j < m → yv = some ⟨YB, YO, none⟩∧R.cells YB (YO + j * 1) [vi (h j)]) (j : Nat) (u1 : Nat → Value) (hI : j ≤ n∧∀ i, i < j → f i = h i) : CT Tryd.prog (sub (bodyOf Tryd.f22) [1, 1, 0, 1, 0, 0]) (equal_ok_L4_inv xv n xc XB XO f yv m yc YB YO h (j, u1)) R (LK (equal_ok_L4_inv xv n xc XB XO f yv m yc YB YO h) (equal_ok_L4_I xv n xc XB XO f yv m yc YB YO h R) (equal_ok_L4_mu xv n xc XB XO f yv m yc YB YO h) (equal_ok_L4_K xv n xc XB XO f yv m yc YB YO h R) (j, u1)) :=
  CT.of_wp_eq (VC := (let z3 := (equal_ok_L4_mu xv n xc XB XO f yv m yc YB YO h);let z2 := (equal_ok_L4_K xv n xc XB XO f yv m yc YB YO h R);let z1 := (equal_ok_L4_I xv n xc XB XO f yv m yc YB YO h R);let z0 := (equal_ok_L4_inv xv n xc XB XO f yv m yc YB YO h);((decide ((j : Int) < (n : Int))) = true → (xv = some ⟨XB, XO, none⟩∧(0 : Int) ≤ (j : Int)∧((j : Int) : Int) < (n : Int))∧(R.cells XB (XO + Int.toNat (j : Int) * 1) [vi (f j)])∧(yv = some ⟨YB, YO, none⟩∧(0 : Int) ≤ (j : Int)∧((j : Int) : Int) < (m : Int))∧(R.cells YB (YO + Int.toNat (j : Int) * 1) [vi (h j)])∧(((f j) != (h j)) = true → LK z0 z1 z3 z2 (j, u1) (.ret) ⟨[.slice xv n xc, .slice yv m yc, undef, undef, .bool false, vi (j : Int), .slice xv n xc, vi (n : Int), .slice yv m yc, vi (m : Int), .bool false, .slice xv n xc, vi (n : Int), vi (j : Int), .bool true, vi (j : Int), .slice xv n xc, vi (j : Int), (ptO XB (XO + Int.toNat (j : Int) * 1)), vi (f j), .slice yv m yc, vi (j : Int), (ptO YB (YO + Int.toNat (j : Int) * 1)), vi (h j), .bool true, (u1 25)], [], []⟩ R)∧(((f j) != (h j)) = false → (NW .i64 ((j : Int) + 1))∧LK z0 z1 z3 z2 (j, u1) .normal ⟨[.slice xv n xc, .slice yv m yc, undef, undef, (u1 4), vi (j : Int), .slice xv n xc, vi (n : Int), .slice yv m yc, vi (m : Int), .bool false, .slice xv n xc, vi (n : Int), vi ((j : Int) + 1), .bool true, vi (j : Int), .slice xv n xc, vi (j : Int), (ptO XB (XO + Int.toNat (j : Int) * 1)), vi (f j), .slice yv m yc, vi (j : Int), (ptO YB (YO + Int.toNat (j : Int) * 1)), vi (h j), .bool false, vi ((j : Int) + 1)], [], []⟩ R))∧((decide ((j : Int) < (n : Int))) = false → LK z0 z1 z3 z2 (j, u1) (.exit 0) ((equal_ok_L4_inv xv n xc XB XO f yv m yc YB YO h (j, u1)).up [(14, .bool false)] []) R))) (ops [.d] (.sp 14 (ops [.d, .d] (.dr [some (.d), some (.d), some (.ib XB XO), some (.ro (fun v => [vi (f j)])), some (.d), some (.d), some (.ib YB YO), some (.ro (fun v => [vi (h j)])), some (.d)] (.sp 24 (ops [.d] (.fin [] [])) (ops [.nw, .d] (.fin [] []))))) (.fin [] []))) (by kernel_rfl)
    (⟨fun h52 => (have := of_decide_eq_true h52;⟨⟨(hx j (by omega)).1, by omega, by omega⟩, ⟨(hx j (by omega)).2, ⟨⟨(hy j (by omega)).1, by omega, by omega⟩, ⟨(hy j (by omega)).2, ⟨fun h53 => (have := bne_iff_ne.1 h53;Or.inr (altA (fun zw => (j, zw)) ⟨(show ¬ (n = m∧∀ i, i < n → f i = h i) from (fun h9 => by have h8 := h9.2 j (by omega);omega)), (by show _ = _;kernel_rfl), ⟨(by show _ = _;kernel_rfl), (by show _ = _;kernel_rfl), (by show _ = _;kernel_rfl)⟩⟩)), fun h53 => (have := bne_eq_false_iff_eq.1 h53;⟨(nwI (by omega) (by omega)), LKn (fun zw => ((j + 1), zw)) ⟨⟨rfl, (show (j + 1) ≤ n∧∀ i, i < (j + 1) → f i = h i from ⟨by omega, fun i hi => by by_cases h9 : i = j;(subst h9;omega);exact hI.2 i (by omega)⟩)⟩, (show n - (j + 1) < n - j from (by omega)), ⟨rfl, rfl, rfl⟩⟩⟩)⟩⟩⟩⟩⟩), fun h52 => (have := of_decide_eq_false h52;altA (fun zw => (j, zw)) ⟨(show ∀ i, i < n → f i = h i from (fun i hi => hI.2 i (by omega))), (by show _ = _;kernel_rfl), ⟨(by show _ = _;kernel_rfl), (by show _ = _;kernel_rfl), (by show _ = _;kernel_rfl)⟩⟩)⟩)
theorem equal_ok_L4_ct (xv : Option Addr) (n xc XB XO : Nat) (f : Nat → Int) (yv : Option Addr) (m yc YB YO : Nat) (h : Nat → Int)  (R : RO) (hnm : n = m) (hn : n ≤ 1048576) (hm : m ≤ 1048576) (hx : ∀ j, j < n → xv = some ⟨XB, XO, none⟩∧R.cells XB (XO + j * 1) [vi (f j)]) (hy : ∀ j, j < m → yv = some ⟨YB, YO, none⟩∧R.cells YB (YO + j * 1) [vi (h j)])  : CT Tryd.prog (sub (bodyOf Tryd.f22) [1, 1, 0, 1, 0]) ⟨(.slice xv n xc::.slice yv m yc::undef::undef::.bool false::undef::.slice xv n xc::vi (n : Int)::.slice yv m yc::vi (m : Int)::.bool false::.slice xv n xc::vi (n : Int)::vi 0::uns 12 []), [], []⟩ R (equal_ok_L4_K xv n xc XB XO f yv m yc YB YO h R) :=
  CT.loop_eqs (equal_ok_L4_inv xv n xc XB XO f yv m yc YB YO h) (equal_ok_L4_I xv n xc XB XO f yv m yc YB YO h R) (equal_ok_L4_mu xv n xc XB XO f yv m yc YB YO h) (fun zw => (0, zw)) (by kernel_rfl) (by kernel_rfl) ⟨rfl, (show 0 ≤ n∧∀ i, i < 0 → f i = h i from ⟨Nat.zero_le _, fun i hi => by omega⟩)⟩
    (by
      rintro ⟨j, u1⟩ G hG ⟨rfl, hI⟩
      exact equal_ok_L4_body xv n xc XB XO f yv m yc YB YO h _ hnm hn hm hx hy j u1 hI)
theorem equal_ok (xv : Option Addr) (n xc XB XO : Nat) (f : Nat → Int) (yv : Option Addr) (m yc YB YO : Nat) (h : Nat → Int) (R : RO) (hn : n ≤ 1048576) (hm : m ≤ 1048576) (hx : ∀ j, j < n → xv = some ⟨XB, XO, none⟩∧R.cells XB (XO + j * 1) [vi (f j)]) (hy : ∀ j, j < m → yv = some ⟨YB, YO, none⟩∧R.cells YB (YO + j * 1) [vi (h j)]) : Gives Tryd.prog 22 [.slice xv n xc, .slice yv m yc] R [] (.ret (.bool (eqZ f h n m))) [] :=
  Does.of_wp_eq (VC := ((((n : Int) != (m : Int)) = true → GQ R (.ret (.bool (eqZ f h n m))) [] (.ret (.bool false)) R [])∧(((n : Int) != (m : Int)) = false → (CT Tryd.prog (sub (bodyOf Tryd.f22) [1, 1, 0, 1, 0]) ⟨(.slice xv n xc::.slice yv m yc::undef::undef::.bool false::undef::.slice xv n xc::vi (n : Int)::.slice yv m yc::vi (m : Int)::.bool false::.slice xv n xc::vi (n : Int)::vi 0::uns 12 []), [], []⟩ R (equal_ok_L4_K xv n xc XB XO f yv m yc YB YO h R))∧(∀ x2 : Nat×NV, (∀ i, i < n → f i = h i) → GQ R (.ret (.bool (eqZ f h n m))) [] (.ret (.bool true)) R [])∧((∀ x3 : Nat×NV, (¬ (n = m∧∀ i, i < n → f i = h i)) → GQ R (.ret (.bool (eqZ f h n m))) [] (.ret (.bool false)) R [])∧True)))) (ops [.d, .d, .d, .d, .d, .d] (.sp 10 (ops [.d] (.fin [] [])) (ops [.d, .d, .d] (.alt (Nat×NV) (fun zx => ∀ i, i < n → f i = h i) (fun zx => (.exit 0, ((equal_ok_L4_inv xv n xc XB XO f yv m yc YB YO h zx).up [] []))) (fun x2 => (ops [.d] (.fin [] []))) (.alt (Nat×NV) (fun zx => ¬ (n = m∧∀ i, i < n → f i = h i)) (fun zx => (.ret, ((equal_ok_L4_inv xv n xc XB XO f yv m yc YB YO h zx).up [(4, .bool false)] []))) (fun x3 => (.fin [] [])) .altn))))) Tryd.func22 (by kernel_rfl) (by kernel_rfl)
    (⟨fun h0 => (have := bne_iff_ne.1 h0;⟨rfl, (by exact congrArg (fun z => Out.ret (.bool z)) (eqZ_f (fun h9 => by have h8 := h9.1;omega)).symm), (by rfl)⟩), fun h0 => (have := bne_eq_false_iff_eq.1 h0;⟨equal_ok_L4_ct xv n xc XB XO f yv m yc YB YO h R (by omega) hn hm hx hy, ⟨fun x2 qx2 => ⟨rfl, (by exact congrArg (fun z => Out.ret (.bool z)) (eqZ_iff.2 ⟨by omega, qx2⟩).symm), (by rfl)⟩, ⟨fun x3 qx3 => ⟨rfl, (by exact congrArg (fun z => Out.ret (.bool z)) (eqZ_f qx3).symm), (by rfl)⟩, trivial⟩⟩⟩)⟩)
abbrev PM := List (ByteArray×Int×Nat)
def isW (zs : Nat → L) (j : Nat) : Prop := (T.nrm 1 (zs j).t).k = 2
noncomputable instance (zs : Nat → L) (j : Nat) : Decidable (isW zs j) := inferInstanceAs (Decidable (_ = _))
noncomputable def patS (zs : Nat → L) : Nat → (PM×Nat)×List Int
  | 0 => (([], 0), [])
  | j + 1 => if isW zs j then ((patS zs j).1, (patS zs j).2 ++ [-1]) else if (aget (patS zs j).1.1 (tx zs j)).isSome = true then ((patS zs j).1, (patS zs j).2 ++ [(aget (patS zs j).1.1 (tx zs j)).getD 0])
    else ((aput (patS zs j).1.1 (tx zs j) ((patS zs j).1.1.length : Int) (patS zs j).1.2, aclk (patS zs j).1.1 (tx zs j) (patS zs j).1.2), (patS zs j).2 ++ [(aget (aput (patS zs j).1.1 (tx zs j) ((patS zs j).1.1.length : Int) (patS zs j).1.2) (tx zs j)).getD 0])
theorem patS_w {zs : Nat → L} {j : Nat} (h : isW zs j) : patS zs (j + 1) = ((patS zs j).1, (patS zs j).2 ++ [-1]) := by rw [patS, if_pos h]
theorem patS_t {zs : Nat → L} {j : Nat} (h : ¬ isW zs j) (h' : (aget (patS zs j).1.1 (tx zs j)).isSome = true) : patS zs (j + 1) = ((patS zs j).1, (patS zs j).2 ++ [(aget (patS zs j).1.1 (tx zs j)).getD 0]) := by rw [patS, if_neg h, if_pos h']
theorem patS_f {zs : Nat → L} {j : Nat} (h : ¬ isW zs j) (h' : (aget (patS zs j).1.1 (tx zs j)).isSome = false) : patS zs (j + 1) =
    ((aput (patS zs j).1.1 (tx zs j) ((patS zs j).1.1.length : Int) (patS zs j).1.2, aclk (patS zs j).1.1 (tx zs j) (patS zs j).1.2), (patS zs j).2 ++ [(aget (aput (patS zs j).1.1 (tx zs j) ((patS zs j).1.1.length : Int) (patS zs j).1.2) (tx zs j)).getD 0]) := by
  rw [patS, if_neg h, if_neg (by rw [h'];decide)]
theorem patS_len (zs : Nat → L) : ∀ j, (patS zs j).2.length = j
  | 0 => rfl
  | j + 1 => by
    by_cases h : isW zs j
    · rw [patS_w h];simp [patS_len zs j]
    · cases h' : (aget (patS zs j).1.1 (tx zs j)).isSome with
      | true => rw [patS_t h h'];simp [patS_len zs j]
      | false => rw [patS_f h h'];simp [patS_len zs j]
structure PTI (zs : Nat → L) (n j : Nat) (b : Option Nat) (cap : Nat) (Lr : List Value) (m : PM) (c : Nat) : Prop where
  jn : j ≤ n
  b0 : b = none → cap = 0
  jc : j ≤ cap
  cm : cap ≤ maxLen
  rows : Lr = intsI (patS zs j).2
  mm : m = (patS zs j).1.1
  cc : c = (patS zs j).1.2
theorem PTI.begin (zs : Nat → L) (n : Nat) : PTI zs n 0 none 0 [] [] 0 := ⟨Nat.zero_le _, fun _ => rfl, Nat.le_refl _, Nat.zero_le _, rfl, rfl, rfl⟩
theorem PTI.of {zs : Nat → L} {n j : Nat} {b : Option Nat} {cap : Nat} {Lr : List Value} {m m' : PM} {c c' : Nat} {x : Int} (h : PTI zs n j b cap Lr m c) (hj : j < n) {a p : Nat} (h1 : j + 1 ≤ p) (h2 : p ≤ maxLen) (e : patS zs (j + 1) = ((m', c'), (patS zs j).2 ++ [x])) :
    PTI zs n (j + 1) (some a) p (Lr ++ [vi x]) m' c' :=
  ⟨hj, fun h => (by cases h), h1, h2, by rw [e, h.rows];simp [intsI], by rw [e], by rw [e]⟩
theorem PTI.sw {zs : Nat → L} {n j : Nat} {b : Option Nat} {cap : Nat} {Lr : List Value} {m : PM} {c : Nat} {z : L} (h : PTI zs n j b cap Lr m c) (hj : j < n) (hz : z.t = T.nrm 1 (zs j).t) (hk : z.k = 2) {a p : Nat} (h1 : j + 1 ≤ p) (h2 : p ≤ maxLen) :
    PTI zs n (j + 1) (some a) p (Lr ++ [vi (-1)]) m c :=
  h.of hj h1 h2 (by rw [patS_w (show isW zs j by unfold isW;rw [← hz, L.t_k];exact hk), h.mm, h.cc])
theorem isW_no {zs : Nat → L} {j : Nat} {z : L} (hz : z.t = T.nrm 1 (zs j).t) (hk : ¬ z.k = 2) : ¬ isW zs j := by unfold isW;rw [← hz, L.t_k];exact hk
theorem PTI.st {zs : Nat → L} {n j : Nat} {b : Option Nat} {cap : Nat} {Lr : List Value} {m : PM} {c : Nat} {z : L} (h : PTI zs n j b cap Lr m c) (hj : j < n) (hz : z.t = T.nrm 1 (zs j).t) (hk : ¬ z.k = 2) (hs : (aget m (tx zs j)).isSome = true) {a p : Nat} (h1 : j + 1 ≤ p) (h2 : p ≤ maxLen) :
    PTI zs n (j + 1) (some a) p (Lr ++ [vi ((aget m (tx zs j)).getD 0)]) m c :=
  h.of hj h1 h2 (by rw [patS_t (isW_no hz hk) (by rw [← h.mm];exact hs), h.mm, h.cc])
theorem PTI.sf {zs : Nat → L} {n j : Nat} {b : Option Nat} {cap : Nat} {Lr : List Value} {m : PM} {c : Nat} {z : L} (h : PTI zs n j b cap Lr m c) (hj : j < n) (hz : z.t = T.nrm 1 (zs j).t) (hk : ¬ z.k = 2) (hs : (aget m (tx zs j)).isSome = false) {a p : Nat} (h1 : j + 1 ≤ p) (h2 : p ≤ maxLen) :
    PTI zs n (j + 1) (some a) p (Lr ++ [vi ((aget (aput m (tx zs j) (m.length : Int) c) (tx zs j)).getD 0)]) (aput m (tx zs j) (m.length : Int) c) (aclk m (tx zs j) c) :=
  h.of hj h1 h2 (by rw [patS_f (isW_no hz hk) (by rw [← h.mm];exact hs), h.mm, h.cc])
noncomputable def pattern_own_L4_inv (lv : Option Addr) (n cp LB LO : Nat) (zs : Nat → L) (a0 : Nat)  : Nat×Option Nat×Nat×List Value×PM×Nat×NV → St := fun zx => ⟨(.slice lv n cp::undef::.slice none 0 0::gsv zx.2.1 zx.1 zx.2.2.1::.map (some a0)::undef::urun zx.2.2.2.2.2.2 6 4 (.map (some a0)::.slice lv n cp::vi (n : Int)::vi ((zx.1 : Nat) : Int)::urun zx.2.2.2.2.2.2 14 31 (undef::[]))), [], [some (a0, .map (ents Value.string (Value.int .i64) zx.2.2.2.2.1) zx.2.2.2.2.2.1), gsb zx.2.1 zx.2.2.2.1 3 (zx.2.2.1 * 1)]⟩
def pattern_own_L4_I (lv : Option Addr) (n cp LB LO : Nat) (zs : Nat → L) (a0 : Nat)  (R : RO) : Nat×Option Nat×Nat×List Value×PM×Nat×NV → RO → Prop := fun zx G => R.le G∧(PTI zs n zx.1 zx.2.1 zx.2.2.1 zx.2.2.2.1 zx.2.2.2.2.1 zx.2.2.2.2.2.1)
def pattern_own_L4_mu (lv : Option Addr) (n cp LB LO : Nat) (zs : Nat → L) (a0 : Nat)  : Nat×Option Nat×Nat×List Value×PM×Nat×NV → Nat := fun zx => n - zx.1
noncomputable def pattern_own_L4_K (lv : Option Addr) (n cp LB LO : Nat) (zs : Nat → L) (a0 : Nat)  (R : RO) : Exit' → St → RO → Prop := altPost R (.altG (Nat×Option Nat×Nat×List Value×PM×Nat×NV) (fun zx G => zx.1 = n∧PTI zs n zx.1 zx.2.1 zx.2.2.1 zx.2.2.2.1 zx.2.2.2.2.1 zx.2.2.2.2.2.1) (fun zx => (.exit 0, ((pattern_own_L4_inv lv n cp LB LO zs a0 zx).up [] [some (a0, .map (ents Value.string (Value.int .i64) zx.2.2.2.2.1) zx.2.2.2.2.2.1), gsb zx.2.1 zx.2.2.2.1 3 (zx.2.2.1 * 1)]))) (fun _ => .altn) .altn)
theorem pattern_own_L4_body (lv : Option Addr) (n cp LB LO : Nat) (zs : Nat → L) (a0 : Nat)  (R0 R : RO) (hle : R0.le R) (hT : TabR R) (hn : n ≤ 1048576) (hz : TZ R lv n LB LO zs) (j : Nat) (b : Option Nat) (cap : Nat) (Lr : List Value) (m : PM) (c : Nat) (u1 : Nat → Value) (hI : PTI zs n j b cap Lr m c) : CT Tryd.prog (sub (bodyOf Tryd.f23) [1, 1, 1, 0, 1, 0, 0]) (pattern_own_L4_inv lv n cp LB LO zs a0 (j, b, cap, Lr, m, c, u1)) R (LK (pattern_own_L4_inv lv n cp LB LO zs a0) (pattern_own_L4_I lv n cp LB LO zs a0 R0) (pattern_own_L4_mu lv n cp LB LO zs a0) (pattern_own_L4_K lv n cp LB LO zs a0 R0) (j, b, cap, Lr, m, c, u1)) :=
  CT.of_wp_eq (VC := (let z17 := (m.length : Int);let z15 : Option Addr := (some ⟨LB, LO + Int.toNat (j : Int) * 5, none⟩);let z14 := (ents Value.string (Value.int .i64) m);let z13 := (pattern_own_L4_mu lv n cp LB LO zs a0);let z12 := (pattern_own_L4_inv lv n cp LB LO zs a0);let z11 := (pattern_own_L4_K lv n cp LB LO zs a0 R0);let z10 := (pattern_own_L4_I lv n cp LB LO zs a0 R0);let z7 := ((j : Int) + 1);let z5 := ((aget m (tx zs j)).isSome);let z4 : Hp := [some (a0, .map z14 c)];let z3 := ((aget m (tx zs j)).getD 0);let z16 : Array Value := #[vi z3, .bool z5];let z2 := (aput m (tx zs j) z17 c);let z9 : Hp := [some (a0, .map (ents Value.string (Value.int .i64) z2) (aclk m (tx zs j) c))];let z8 := ((aget z2 (tx zs j)).getD 0);let z1 : List Value := [vi ((zs j).k), vu ((zs j).id), .string ((zs j).s), .slice (zs j).aa ((zs j).n) ((zs j).ac), .slice (zs j).pa ((zs j).m) ((zs j).pc)];let z0 : Array Value := #[vi ((zs j).k), vu ((zs j).id), .string ((zs j).s), .slice (zs j).aa ((zs j).n) ((zs j).ac), .slice (zs j).pa ((zs j).m) ((zs j).pc)];((decide ((j : Int) < (n : Int))) = true → (lv = some ⟨LB, LO, none⟩∧(0 : Int) ≤ (j : Int)∧((j : Int) : Int) < (n : Int))∧(R.cells LB (LO + Int.toNat (j : Int) * 5) z1)∧∀ a53 : Nat, (a53 = a53)∧(a53 = a53)∧(Does Tryd.prog 25 [.agg z0] R [] (fun r G B => ∃ z54 : L, (z54.ok G∧z54.t = T.nrm 1 (zs j).t)∧r = .ret (.agg z54.row.toArray)∧B = []))∧∀ (z54 : L) (G55 : RO), let z6 : Array Value := z54.row.toArray;R.le G55 → (z54.ok G55∧z54.t = T.nrm 1 (zs j).t) → ((z54.k == 2) = true → ∀ a57 : Nat, (PrimOK Tryd.prog (.app 38 38 38 (gsv b j cap) (slA a57 1 1)) G55 [gsb b Lr 3 (cap * 1), some (a57, .row [vi (-1)] 3 1)] (Nat×Nat) (fun y58 => j + 1 ≤ y58.2∧y58.2 ≤ maxLen) (fun y58 => (.slice (some ⟨y58.1, 0, none⟩) (j + 1) y58.2, [some (y58.1, .row (Lr ++ ([vi (-1)] : List Value)) 3 (y58.2 * 1)), some (a57, .row [vi (-1)] 3 1)])))∧∀ y58 : Nat×Nat, (j + 1 ≤ y58.2∧y58.2 ≤ maxLen) → (NW .i64 z7)∧LK z12 z10 z13 z11 (j, b, cap, Lr, m, c, u1) .normal ⟨(.slice lv n cp::undef::.slice none 0 0::.slice (some ⟨y58.1, 0, none⟩) (j + 1) y58.2::.map (some a0)::undef::ptA a53::urun u1 7 3 (.map (some a0)::.slice lv n cp::vi (n : Int)::vi z7::.bool true::.pointer z15::.agg z0::.agg z0::.agg z6::vi z54.k::.bool true::gsv b j cap::slA a57 1 1::.slice (some ⟨y58.1, 0, none⟩) (j + 1) y58.2::urun u1 24 20 (vi z7::undef::[]))), [], [some (a0, .map z14 c), some (y58.1, .row (Lr ++ ([vi (-1)] : List Value)) 3 (y58.2 * 1)), some (a53, .row z1 29 5), some (a57, .row [vi (-1)] 3 1)]⟩ G55)∧((z54.k == 2) = false → (a53 = a53)∧(Gives Tryd.prog 27 [.agg z0] G55 [] (.ret (.string (tx zs j))) [])∧(Prim0 Tryd.prog (.look 65 (.map (some a0)) (.string (tx zs j)) true) G55 z4 (.tuple z16) z4)∧((!z5) = true → (Prim0 Tryd.prog (.len 65 3 (.map (some a0))) G55 z4 (vi z17) z4)∧(Prim0 Tryd.prog (.mup 65 (.map (some a0)) (.string (tx zs j)) (vi z17)) G55 z4 (undef) z9)∧(Prim0 Tryd.prog (.look 65 (.map (some a0)) (.string (tx zs j)) false) G55 z9 (vi z8) z9)∧∀ a58 : Nat, (PrimOK Tryd.prog (.app 38 38 38 (gsv b j cap) (slA a58 1 1)) G55 [gsb b Lr 3 (cap * 1), some (a58, .row [vi z8] 3 1)] (Nat×Nat) (fun y59 => j + 1 ≤ y59.2∧y59.2 ≤ maxLen) (fun y59 => (.slice (some ⟨y59.1, 0, none⟩) (j + 1) y59.2, [some (y59.1, .row (Lr ++ ([vi z8] : List Value)) 3 (y59.2 * 1)), some (a58, .row [vi z8] 3 1)])))∧∀ y59 : Nat×Nat, (j + 1 ≤ y59.2∧y59.2 ≤ maxLen) → (NW .i64 z7)∧LK z12 z10 z13 z11 (j, b, cap, Lr, m, c, u1) .normal ⟨(.slice lv n cp::undef::.slice none 0 0::.slice (some ⟨y59.1, 0, none⟩) (j + 1) y59.2::.map (some a0)::undef::ptA a53::.string (tx zs j)::vi z3::.bool z5::.map (some a0)::.slice lv n cp::vi (n : Int)::vi z7::.bool true::.pointer z15::.agg z0::.agg z0::.agg z6::vi z54.k::.bool false::urun u1 21 3 (.agg z0::.string (tx zs j)::.tuple z16::.map (some a0)::.string (tx zs j)::.tuple z16::vi z3::.bool z5::.bool z5::.bool true::.map (some a0)::.string (tx zs j)::.map (some a0)::vi z17::gsv b j cap::.map (some a0)::.string (tx zs j)::vi z8::slA a58 1 1::.slice (some ⟨y59.1, 0, none⟩) (j + 1) y59.2::vi z7::undef::[])), [], [some (a0, .map (ents Value.string (Value.int .i64) z2) (aclk m (tx zs j) c)), some (y59.1, .row (Lr ++ ([vi z8] : List Value)) 3 (y59.2 * 1)), some (a53, .row z1 29 5), some (a58, .row [vi z8] 3 1)]⟩ G55)∧((!z5) = false → (Prim0 Tryd.prog (.look 65 (.map (some a0)) (.string (tx zs j)) false) G55 z4 (vi z3) z4)∧∀ a58 : Nat, (PrimOK Tryd.prog (.app 38 38 38 (gsv b j cap) (slA a58 1 1)) G55 [gsb b Lr 3 (cap * 1), some (a58, .row [vi z3] 3 1)] (Nat×Nat) (fun y59 => j + 1 ≤ y59.2∧y59.2 ≤ maxLen) (fun y59 => (.slice (some ⟨y59.1, 0, none⟩) (j + 1) y59.2, [some (y59.1, .row (Lr ++ ([vi z3] : List Value)) 3 (y59.2 * 1)), some (a58, .row [vi z3] 3 1)])))∧∀ y59 : Nat×Nat, (j + 1 ≤ y59.2∧y59.2 ≤ maxLen) → (NW .i64 z7)∧LK z12 z10 z13 z11 (j, b, cap, Lr, m, c, u1) .normal ⟨(.slice lv n cp::undef::.slice none 0 0::.slice (some ⟨y59.1, 0, none⟩) (j + 1) y59.2::.map (some a0)::undef::ptA a53::.string (tx zs j)::vi z3::.bool z5::.map (some a0)::.slice lv n cp::vi (n : Int)::vi z7::.bool true::.pointer z15::.agg z0::.agg z0::.agg z6::vi z54.k::.bool false::urun u1 21 3 (.agg z0::.string (tx zs j)::.tuple z16::.map (some a0)::.string (tx zs j)::.tuple z16::vi z3::.bool z5::.bool z5::.bool false::urun u1 34 4 (gsv b j cap::.map (some a0)::.string (tx zs j)::vi z3::slA a58 1 1::.slice (some ⟨y59.1, 0, none⟩) (j + 1) y59.2::vi z7::undef::[]))), [], [some (a0, .map z14 c), some (y59.1, .row (Lr ++ ([vi z3] : List Value)) 3 (y59.2 * 1)), some (a53, .row z1 29 5), some (a58, .row [vi z3] 3 1)]⟩ G55)))∧((decide ((j : Int) < (n : Int))) = false → LK z12 z10 z13 z11 (j, b, cap, Lr, m, c, u1) (.exit 0) ((pattern_own_L4_inv lv n cp LB LO zs a0 (j, b, cap, Lr, m, c, u1)).up [(14, .bool false)] [some (a0, .map z14 c), gsb b Lr 3 (cap * 1)]) R))) (let y_3 := ((aget m (tx zs j)).getD 0);let y_1 : Hp := [some (a0, .map (ents Value.string (Value.int .i64) m) c)];let y_0 := (aput m (tx zs j) (m.length : Int) c);let y_2 : Hp := [some (a0, .map (ents Value.string (Value.int .i64) y_0) (aclk m (tx zs j) c))];ops [.d] (.sp 14 (ops [.ib LB LO, .ro (fun v => [vi ((zs j).k), vu ((zs j).id), .string ((zs j).s), .slice (zs j).aa ((zs j).n) ((zs j).ac), .slice (zs j).pa ((zs j).m) ((zs j).pc)])] (.opn 2 (fun a53 => (ops [.p 2, .p 2] (.opg [] [] (L) (fun z54 G => z54.ok G∧z54.t = T.nrm 1 (zs j).t) (fun z54 => (.agg z54.row.toArray, [])) (fun z54 => (ops [.d, .d] (.sp 20 (ops [.d] (.opn 3 (fun a57 => (.opp [1, 3] [] (Nat×Nat) (fun y58 => j + 1 ≤ y58.2∧y58.2 ≤ maxLen) (fun y58 => (.slice (some ⟨y58.1, 0, none⟩) (j + 1) y58.2, [some (y58.1, .row (Lr ++ ([vi (-1)] : List Value)) 3 (y58.2 * 1)), some (a57, .row [vi (-1)] 3 1)])) (fun y58 => (ops [.d, .nw, .d] (.fin [] []))))))) (ops [.p 2, .call0 [] [] (fun e v => .ret (.string (tx zs j))) (fun e v => []), .d, .d, .d, .pr0 [0] [] (fun e v => .tuple #[vi y_3, .bool ((aget m (tx zs j)).isSome)]) (fun e v => y_1), .d, .d, .d, .d, .d, .d, .d] (.sp 33 (ops [.d, .d, .d, .pr0 [0] [] (fun e v => .int .i64 (m.length : Int)) (fun e v => y_1), .pr0 [0] [] (fun e v => undef) (fun e v => y_2), .d, .d, .d, .pr0 [0] [] (fun e v => .int .i64 ((aget y_0 (tx zs j)).getD 0)) (fun e v => y_2)] (.opn 3 (fun a58 => (.opp [1, 3] [] (Nat×Nat) (fun y59 => j + 1 ≤ y59.2∧y59.2 ≤ maxLen) (fun y59 => (.slice (some ⟨y59.1, 0, none⟩) (j + 1) y59.2, [some (y59.1, .row (Lr ++ ([vi ((aget y_0 (tx zs j)).getD 0)] : List Value)) 3 (y59.2 * 1)), some (a58, .row [vi ((aget y_0 (tx zs j)).getD 0)] 3 1)])) (fun y59 => (ops [.d, .nw, .d] (.fin [] []))))))) (ops [.d, .d, .d, .pr0 [0] [] (fun e v => .int .i64 y_3) (fun e v => y_1)] (.opn 3 (fun a58 => (.opp [1, 3] [] (Nat×Nat) (fun y59 => j + 1 ≤ y59.2∧y59.2 ≤ maxLen) (fun y59 => (.slice (some ⟨y59.1, 0, none⟩) (j + 1) y59.2, [some (y59.1, .row (Lr ++ ([vi y_3] : List Value)) 3 (y59.2 * 1)), some (a58, .row [vi y_3] 3 1)])) (fun y59 => (ops [.d, .nw, .d] (.fin [] []))))))))))))))))) (.fin [] []))) (by kernel_rfl)
    (⟨fun h52 => (have := of_decide_eq_true h52;⟨⟨hz.at' j (by omega), by omega, by omega⟩, ⟨(hz.row j (by omega)), fun a53 => ⟨rfl, ⟨rfl, ⟨(norm_ok (zs j) R (hz.ok j (by omega)) (Nat.le_trans (hz.wt j (by omega)) (by decide))), fun z54 G55 hG55 qz54 => (have hle := RO.le_trans hle hG55;have hT := tab_mono hG55 hT;have hz := hz.mono hG55;have hI := hI;⟨fun h56 => (have := eq_of_beq h56;fun a57 => ⟨(app1_ok (e := 3) (e' := 3) (z := 1) (by' := 8) (zc := [vi 0]) (b := b) (len := j) (cap := cap) (n := 1) (cs := Lr) (new := [vi (-1)]) (by kernel_rfl) (.inl (by kernel_rfl)) (by kernel_rfl) rfl (by rw [hI.rows, intsI_len, patS_len, Nat.mul_one]) hI.jc hI.cm hI.b0 ⟨rfl, .inr (.inr ⟨_, _, _, rfl, .inl ⟨1, _, _, _, rfl, rfl⟩⟩)⟩ (ones_spec rfl) (by omega) (by simp only [maxLen];omega) (by omega)), fun y58 qy58 => ⟨(nwI (by omega) (by omega)), LKn (fun zw => ((j + 1), (some y58.1), y58.2, (Lr ++ ([vi (-1)] : List Value)), m, c, zw)) ⟨⟨hle, (show PTI zs n (j + 1) (some y58.1) y58.2 (Lr ++ ([vi (-1)] : List Value)) m c from (hI.sw (by omega) qz54.2 (by omega) qy58.1 qy58.2))⟩, (show n - (j + 1) < n - j from (by omega)), ⟨rfl, rfl, rfl⟩⟩⟩⟩), fun h56 => (have := ne_of_beq_false h56;⟨rfl, ⟨(texu_ok (zs j) G55 (hz.ok j (by omega)) (Nat.le_trans (hz.wt j (by omega)) (by decide)) (hz.okn j (by omega)) hT), ⟨(look_ok (kf := Value.string) (vf := Value.int .i64) (kt := 9) (et := 3) (m := m) (a := tx zs j) (z0 := 0) (by kernel_rfl) (keyStr (by kernel_rfl)) (by kernel_rfl)), ⟨fun h57 => ⟨(mlen_ok (kf := Value.string) (vf := Value.int .i64) (kt := 9) (et := 3) (m := m) (by kernel_rfl)), ⟨(mup_ok (kf := Value.string) (vf := Value.int .i64) (kt := 9) (et := 3) (m := m) (a := tx zs j) (v := (m.length : Int)) (by kernel_rfl) (keyStr (by kernel_rfl))), ⟨(look1_ok (kf := Value.string) (vf := Value.int .i64) (kt := 9) (et := 3) (m := aput m (tx zs j) (m.length : Int) c) (a := tx zs j) (z0 := 0) (by kernel_rfl) (keyStr (by kernel_rfl)) (by kernel_rfl)), fun a58 => ⟨(app1_ok (e := 3) (e' := 3) (z := 1) (by' := 8) (zc := [vi 0]) (b := b) (len := j) (cap := cap) (n := 1) (cs := Lr) (new := [vi ((aget (aput m (tx zs j) (m.length : Int) c) (tx zs j)).getD 0)]) (by kernel_rfl) (.inl (by kernel_rfl)) (by kernel_rfl) rfl (by rw [hI.rows, intsI_len, patS_len, Nat.mul_one]) hI.jc hI.cm hI.b0 ⟨rfl, .inr (.inr ⟨_, _, _, rfl, .inl ⟨1, _, _, _, rfl, rfl⟩⟩)⟩ (ones_spec rfl) (by omega) (by simp only [maxLen];omega) (by omega)), fun y59 qy59 => ⟨(nwI (by omega) (by omega)), LKn (fun zw => ((j + 1), (some y59.1), y59.2, (Lr ++ ([vi ((aget (aput m (tx zs j) (m.length : Int) c) (tx zs j)).getD 0)] : List Value)), (aput m (tx zs j) (m.length : Int) c), (aclk m (tx zs j) c), zw)) ⟨⟨hle, (show PTI zs n (j + 1) (some y59.1) y59.2 (Lr ++ ([vi ((aget (aput m (tx zs j) (m.length : Int) c) (tx zs j)).getD 0)] : List Value)) (aput m (tx zs j) (m.length : Int) c) (aclk m (tx zs j) c) from (hI.sf (by omega) qz54.2 (by omega) (not_t h57) qy59.1 qy59.2))⟩, (show n - (j + 1) < n - j from (by omega)), ⟨rfl, rfl, rfl⟩⟩⟩⟩⟩⟩⟩, fun h57 => ⟨(look1_ok (kf := Value.string) (vf := Value.int .i64) (kt := 9) (et := 3) (m := m) (a := tx zs j) (z0 := 0) (by kernel_rfl) (keyStr (by kernel_rfl)) (by kernel_rfl)), fun a58 => ⟨(app1_ok (e := 3) (e' := 3) (z := 1) (by' := 8) (zc := [vi 0]) (b := b) (len := j) (cap := cap) (n := 1) (cs := Lr) (new := [vi ((aget m (tx zs j)).getD 0)]) (by kernel_rfl) (.inl (by kernel_rfl)) (by kernel_rfl) rfl (by rw [hI.rows, intsI_len, patS_len, Nat.mul_one]) hI.jc hI.cm hI.b0 ⟨rfl, .inr (.inr ⟨_, _, _, rfl, .inl ⟨1, _, _, _, rfl, rfl⟩⟩)⟩ (ones_spec rfl) (by omega) (by simp only [maxLen];omega) (by omega)), fun y59 qy59 => ⟨(nwI (by omega) (by omega)), LKn (fun zw => ((j + 1), (some y59.1), y59.2, (Lr ++ ([vi ((aget m (tx zs j)).getD 0)] : List Value)), m, c, zw)) ⟨⟨hle, (show PTI zs n (j + 1) (some y59.1) y59.2 (Lr ++ ([vi ((aget m (tx zs j)).getD 0)] : List Value)) m c from (hI.st (by omega) qz54.2 (by omega) (not_f h57) qy59.1 qy59.2))⟩, (show n - (j + 1) < n - j from (by omega)), ⟨rfl, rfl, rfl⟩⟩⟩⟩⟩⟩⟩⟩⟩)⟩)⟩⟩⟩⟩⟩), fun h52 => (have := of_decide_eq_false h52;LKe (altGA (G := R) (fun zw => (j, b, cap, Lr, m, c, zw)) ⟨(show j = n∧PTI zs n j b cap Lr m c from ⟨by have h9 := hI.jn;omega, hI⟩), (by show _ = _;kernel_rfl), ⟨(by show _ = _;kernel_rfl), (by show _ = _;kernel_rfl), (by show _ = _;kernel_rfl)⟩⟩))⟩)
theorem pattern_own_L4_ct (lv : Option Addr) (n cp LB LO : Nat) (zs : Nat → L) (a0 : Nat)  (R : RO) (hT : TabR R) (hn : n ≤ 1048576) (hz : TZ R lv n LB LO zs)  : CT Tryd.prog (sub (bodyOf Tryd.f23) [1, 1, 1, 0, 1, 0]) ⟨(.slice lv n cp::undef::.slice none 0 0::.slice none 0 0::.map (some a0)::uns 5 (.map (some a0)::.slice lv n cp::vi (n : Int)::vi 0::uns 32 [])), [], [some (a0, .map (ents Value.string (Value.int .i64) []) 0)]⟩ R (pattern_own_L4_K lv n cp LB LO zs a0 R) :=
  CT.pad 1 <| CT.loop_eqs (pattern_own_L4_inv lv n cp LB LO zs a0) (pattern_own_L4_I lv n cp LB LO zs a0 R) (pattern_own_L4_mu lv n cp LB LO zs a0) (fun zw => (0, (none : Option Nat), 0, ([] : List Value), ([] : PM), 0, zw)) (by kernel_rfl) (by kernel_rfl) ⟨RO.le_refl R, (show PTI zs n 0 (none : Option Nat) 0 ([] : List Value) ([] : PM) 0 from (PTI.begin zs n))⟩
    (by
      rintro ⟨j, b, cap, Lr, m, c, u1⟩ G hG ⟨hle, hI⟩
      have hT := tab_mono hle hT
      have hz := hz.mono hle
      exact pattern_own_L4_body lv n cp LB LO zs a0 R G hle hT hn hz j b cap Lr m c u1 hI)
theorem pattern_own (lv : Option Addr) (n cp LB LO : Nat) (zs : Nat → L) (R : RO) (hT : TabR R) (hn : n ≤ 1048576) (hz : TZ R lv n LB LO zs) : Does Tryd.prog 23 [.slice lv n cp] R [] (fun (r : Out) (G : RO) (B : Hp) => ∃ y : Option Nat×Nat, (n ≤ y.2∧y.2 ≤ maxLen∧(y.1 = none → y.2 = 0))∧r = .ret (gsv y.1 n y.2)∧B = [gsb y.1 (intsI (patS zs n).2) 3 (y.2 * 1)]) :=
  Does.of_wp_eq (VC := (∀ a0 : Nat, (CT Tryd.prog (sub (bodyOf Tryd.f23) [1, 1, 1, 0, 1, 0]) ⟨(.slice lv n cp::undef::.slice none 0 0::.slice none 0 0::.map (some a0)::uns 5 (.map (some a0)::.slice lv n cp::vi (n : Int)::vi 0::uns 32 [])), [], [some (a0, .map (ents Value.string (Value.int .i64) []) 0)]⟩ R (pattern_own_L4_K lv n cp LB LO zs a0 R))∧(∀ (x2 : Nat×Option Nat×Nat×List Value×PM×Nat×NV) (G3 : RO), R.le G3 → (x2.1 = n∧PTI zs n x2.1 x2.2.1 x2.2.2.1 x2.2.2.2.1 x2.2.2.2.2.1 x2.2.2.2.2.2.1) → (fun (r : Out) (G : RO) (B : Hp) => ∃ y : Option Nat×Nat, (n ≤ y.2∧y.2 ≤ maxLen∧(y.1 = none → y.2 = 0))∧r = .ret (gsv y.1 n y.2)∧B = [gsb y.1 (intsI (patS zs n).2) 3 (y.2 * 1)]) (.ret (gsv x2.2.1 x2.1 x2.2.2.1)) G3 [gsb x2.2.1 x2.2.2.2.1 3 (x2.2.2.1 * 1)])∧True)) (ops [.d, .d] (.opn 0 (fun a0 => (ops [.d, .d, .d, .d] (.altG (Nat×Option Nat×Nat×List Value×PM×Nat×NV) (fun zx G => zx.1 = n∧PTI zs n zx.1 zx.2.1 zx.2.2.1 zx.2.2.2.1 zx.2.2.2.2.1 zx.2.2.2.2.2.1) (fun zx => (.exit 0, ((pattern_own_L4_inv lv n cp LB LO zs a0 zx).up [] [some (a0, .map (ents Value.string (Value.int .i64) zx.2.2.2.2.1) zx.2.2.2.2.2.1), gsb zx.2.1 zx.2.2.2.1 3 (zx.2.2.1 * 1)]))) (fun x2 => (ops [.d, .d] (.fin [1] []))) .altn))))) Tryd.func23 (by kernel_rfl) (by kernel_rfl)
    (fun a0 => ⟨pattern_own_L4_ct lv n cp LB LO zs a0 R hT hn hz, ⟨fun x2 G3 hG3 qx2 => (have hT := tab_mono hG3 hT;have hz := hz.mono hG3;⟨(x2.2.1, x2.2.2.1), ⟨(show n ≤ x2.2.2.1 by have h9 := qx2.2.jc;omega), qx2.2.cm, qx2.2.b0⟩, (by exact congrArg (fun z => Out.ret (gsv _ z _)) qx2.1), (by exact congrArg (fun z => [gsb _ z 3 _]) (by rw [qx2.2.rows, qx2.1]))⟩), trivial⟩⟩)
theorem nrm_atom1 (i : Int) : T.nrm 1 (T.atom i) = T.atom i := T.nrm_of 1 _ (by unfold T.atom;rw [T.isN, if_neg (by decide)];exact .inl ⟨rfl, rfl, rfl, rfl⟩)
theorem nrm_word1 (s : ByteArray) : T.nrm 1 (T.word s) = T.word s := T.nrm_of 1 _ (by unfold T.word;rw [T.isN, if_neg (by decide)];exact .inr (.inl ⟨rfl, rfl, rfl, rfl⟩))
theorem txt_atom1 (i : Int) : T.txt (T.nrm 1 (T.atom i)) = (⟨#[35]⟩ : ByteArray) ++ decB i := by
  rw [nrm_atom1];unfold T.atom;rw [T.txt, if_pos rfl]
theorem pattern_ok (lv : Option Addr) (n cp LB LO : Nat) (zs : Nat → L) (R : RO) (hT : TabR R) (hn : n ≤ 1048576) (hz : TZ R lv n LB LO zs) : Does Tryd.prog 23 [.slice lv n cp] R []
    (fun r G B => ∃ y : Option Nat×Nat, (n ≤ y.2∧(y.1 = none → y.2 = 0)∧∀ a, y.1 = some a → G.cells a 0 (intsI (patS zs n).2))∧r = .ret (gsv y.1 n y.2)∧B = []) :=
  (Does.freeze (X := Option Nat×Nat) (q := fun y G => n ≤ y.2∧y.2 ≤ maxLen∧(y.1 = none → y.2 = 0)) (g := fun y => (gsv y.1 n y.2, [gsb y.1 (intsI (patS zs n).2) 3 (y.2 * 1)]))
    (pattern_own lv n cp LB LO zs R hT hn hz)).mono (by
    rintro o G B hle ⟨y, G0, h0, ⟨q1, q2, q3⟩, hc, rfl, rfl⟩
    exact ⟨y, ⟨q1, q3, fun a ha => hc 0 a _ 3 _ (by show Hp.at [gsb y.1 _ 3 _] 0 = _;rw [ha];rfl)⟩, rfl, rfl⟩)
theorem intsI_at {G : RO} {b : Option Nat} {n cap : Nat} {ps : List Int} (h0 : b = none → cap = 0) (hc : n ≤ cap) (hl : ps.length = n) (h : ∀ a, b = some a → G.cells a 0 (intsI ps)) :
    ∀ j, j < n → (b.map fun a => (⟨a, 0, none⟩ : Addr)) = some ⟨b.getD 0, 0, none⟩∧G.cells (b.getD 0) (0 + j * 1) [vi (ps.getD j 0)] := fun j hj => by
  cases b with
  | none => have := h0 rfl;omega
  | some a =>
    refine ⟨rfl, RO.cells_sub (i := j * 1) (h a rfl) ?_⟩
    show List.take 1 _ = _
    rw [Nat.mul_one, List.drop_eq_getElem_cons (by simp [intsI];omega)]
    simp [intsI, List.getElem?_eq_getElem (show j < ps.length by omega)]
noncomputable def ex4 : Nat → L := zat [L.atom 4, L.atom 9, L.atom 4, L.word (⟨#[120]⟩ : ByteArray)]
theorem pat4 : (patS ex4 4).2 = [0, 1, 0, -1] := by
  have a0 : tx ex4 0 = (⟨#[35, 52]⟩ : ByteArray) := (txt_atom1 4).trans (by kernel_rfl)
  have a1 : tx ex4 1 = (⟨#[35, 57]⟩ : ByteArray) := (txt_atom1 9).trans (by kernel_rfl)
  have a2 : tx ex4 2 = (⟨#[35, 52]⟩ : ByteArray) := (txt_atom1 4).trans (by kernel_rfl)
  have w0 : ¬ isW ex4 0 := by show ¬ (T.nrm 1 (T.atom 4)).k = 2;rw [nrm_atom1];decide
  have w1 : ¬ isW ex4 1 := by show ¬ (T.nrm 1 (T.atom 9)).k = 2;rw [nrm_atom1];decide
  have w2 : ¬ isW ex4 2 := by show ¬ (T.nrm 1 (T.atom 4)).k = 2;rw [nrm_atom1];decide
  have w3 : isW ex4 3 := by show (T.nrm 1 (T.word _)).k = 2;rw [nrm_word1];rfl
  have p1 : patS ex4 1 = (([(⟨#[35, 52]⟩, 0, 0)], 1), [0]) := by rw [patS_f w0 (by rfl), a0];kernel_rfl
  have p2 : patS ex4 2 = (([(⟨#[35, 52]⟩, 0, 0), (⟨#[35, 57]⟩, 1, 1)], 2), [0, 1]) := by rw [patS_f w1 (by rw [p1, a1];kernel_rfl), p1, a1];kernel_rfl
  have p3 : patS ex4 3 = (([(⟨#[35, 52]⟩, 0, 0), (⟨#[35, 57]⟩, 1, 1)], 2), [0, 1, 0]) := by rw [patS_t w2 (by rw [p2, a2];kernel_rfl), p2, a2];kernel_rfl
  rw [patS_w w3, p3];rfl
theorem pattern4 (a : Nat) (R : RO) (hT : TabR R) : Does Tryd.prog 23 [slA a 4 4] R [some (a, .row [vi 1, vu 4, .string ByteArray.empty, .slice none 0 0, .slice none 0 0, vi 1, vu 9, .string ByteArray.empty, .slice none 0 0, .slice none 0 0, vi 1, vu 4, .string ByteArray.empty, .slice none 0 0, .slice none 0 0, vi 2, vu 0, .string (⟨#[120]⟩ : ByteArray), .slice none 0 0, .slice none 0 0] 29 20)]
    (fun r G B => ∃ y : Option Nat×Nat, (4 ≤ y.2∧(y.1 = none → y.2 = 0)∧∀ a, y.1 = some a → G.cells a 0 (intsI [0, 1, 0, -1]))∧r = .ret (.slice (y.1.map fun a => (⟨a, 0, none⟩ : Addr)) 4 y.2)∧B = [none]) :=
  (Does.give fun S hS hc => pattern_ok (some ⟨a, 0, none⟩) 4 4 a 0 ex4 S (tab_mono hS hT) (by omega) (by
    have e : [vi 1, vu 4, .string ByteArray.empty, .slice none 0 0, .slice none 0 0, vi 1, vu 9, .string ByteArray.empty, .slice none 0 0, .slice none 0 0, vi 1, vu 4, .string ByteArray.empty, .slice none 0 0, .slice none 0 0, vi 2, vu 0, .string (⟨#[120]⟩ : ByteArray), .slice none 0 0, .slice none 0 0] = rowsL [L.atom 4, L.atom 9, L.atom 4, L.word (⟨#[120]⟩ : ByteArray)] := by kernel_rfl
    have hk : ∀ j, j < 4 → ex4 j ∈ [L.atom 4, L.atom 9, L.atom 4, L.word (⟨#[120]⟩ : ByteArray)] := fun j hj => by unfold ex4;rw [zat_get hj];exact List.getElem_mem ..
    have hw : ∀ z ∈ [L.atom 4, L.atom 9, L.atom 4, L.word (⟨#[120]⟩ : ByteArray)], z.ok S∧z.t.okn∧z.t.wt ≤ 490000 := by
      intro z hz
      simp only [List.mem_cons, List.not_mem_nil, or_false] at hz
      rcases hz with rfl | rfl | rfl | rfl
      · exact ⟨L.atom_ok _ _, (by rw [L.atom_t];exact ⟨by decide, by decide, fun p hp => (by cases hp), trivial⟩), (by rw [L.atom_t];decide)⟩
      · exact ⟨L.atom_ok _ _, (by rw [L.atom_t];exact ⟨by decide, by decide, fun p hp => (by cases hp), trivial⟩), (by rw [L.atom_t];decide)⟩
      · exact ⟨L.atom_ok _ _, (by rw [L.atom_t];exact ⟨by decide, by decide, fun p hp => (by cases hp), trivial⟩), (by rw [L.atom_t];decide)⟩
      · exact ⟨L.word_ok _ _, (by rw [L.word_t];exact ⟨by decide, by decide, fun p hp => (by cases hp), trivial⟩), (by rw [L.word_t];decide)⟩
    refine ⟨fun j hj => rfl, fun j hj => ?_, fun j hj => (hw _ (hk j hj)).1, fun j hj => (hw _ (hk j hj)).2.1, fun j hj => (hw _ (hk j hj)).2.2⟩
    rw [e] at hc
    exact RO.cells_sub (i := j * 5) hc (rowsL_get hj))).mono (by
    rintro o G B hle ⟨B', rfl, y, ⟨h1, h2, h3⟩, rfl, rfl⟩
    rw [pat4] at h3
    exact ⟨y, ⟨h1, h2, h3⟩, rfl, rfl⟩)
theorem equal4 (a : Nat) (y : Option Nat×Nat) (R : RO) (h1 : 4 ≤ y.2) (h2 : y.1 = none → y.2 = 0) (h3 : ∀ a, y.1 = some a → R.cells a 0 (intsI [0, 1, 0, -1])) :
    Does Tryd.prog 22 [.slice (y.1.map fun a => (⟨a, 0, none⟩ : Addr)) 4 y.2, slA a 4 4] R [some (a, .row [vi 0, vi 1, vi 0, vi (-1)] 3 4)]
      (fun r G B => ∃ x : Unit, True∧r = .ret (.bool true)∧B = [none]) :=
  (Does.give (Q := fun r G B => r = .ret (.bool true)∧B = []) fun S hS hc => (equal_ok (y.1.map fun a => (⟨a, 0, none⟩ : Addr)) 4 y.2 (y.1.getD 0) 0 (fun j => ([0, 1, 0, -1] : List Int).getD j 0) (some ⟨a, 0, none⟩) 4 4 a 0 (fun j => ([0, 1, 0, -1] : List Int).getD j 0) S (by omega) (by omega)
    (intsI_at h2 h1 rfl fun b hb => RO.cells_mono hS (h3 b hb))
    (intsI_at (b := some a) (cap := 4) (ps := [0, 1, 0, -1]) (fun h => by cases h) (Nat.le_refl 4) rfl fun b hb => by cases hb;exact hc)).mono (by
    rintro o G B hle ⟨rfl, rfl, rfl⟩
    exact ⟨congrArg (fun z => Out.ret (.bool z)) (eqZ_iff.2 ⟨rfl, fun _ _ => rfl⟩), rfl⟩)).mono (by
    rintro o G B hle ⟨B', rfl, rfl, rfl⟩
    exact ⟨(), trivial, rfl, rfl⟩)
theorem awake8_ok  (R : RO) (hT : TabR R) : Gives Tryd.prog 21 [] R [] (.ret (.bool true)) [] :=
  Does.of_wp_eq (VC := ((Gives Tryd.prog 29 [] R [] (.ret (.bool true)) [])∧GQ R (.ret (.bool true)) [] (.ret (.bool true)) R [])) (ops [.d, .call0 [] [] (fun e v => .ret (.bool true)) (fun e v => []), .d] (.fin [] [])) Tryd.func21 (by kernel_rfl) (by kernel_rfl)
    (⟨(awake_ok R hT), ⟨rfl, (by rfl), (by rfl)⟩⟩)
theorem awake9_own  (R : RO) (hT : TabR R) : Does Tryd.prog 5 [] R [] (fun (r : Out) (G : RO) (B : Hp) => ∃ x : Unit, (True)∧r = .ret (.bool true)∧B = []) :=
  Does.of_wp_eq (VC := (let z0 := (Gives Tryd.prog 17 [vu 4] R [] (.ret (.agg #[vi 1, vu 4, .string ByteArray.empty, .slice none 0 0, .slice none 0 0])) []);(Gives Tryd.prog 21 [] R [] (.ret (.bool true)) [])∧z0∧(Gives Tryd.prog 17 [vu 9] R [] (.ret (.agg #[vi 1, vu 9, .string ByteArray.empty, .slice none 0 0, .slice none 0 0])) [])∧z0∧(Gives Tryd.prog 18 [.string (⟨#[120]⟩ : ByteArray)] R [] (.ret (.agg #[vi 2, vu 0, .string (⟨#[120]⟩ : ByteArray), .slice none 0 0, .slice none 0 0])) [])∧∀ a0 : Nat, (Does Tryd.prog 23 [slA a0 4 4] R [some (a0, .row [vi 1, vu 4, .string ByteArray.empty, .slice none 0 0, .slice none 0 0, vi 1, vu 9, .string ByteArray.empty, .slice none 0 0, .slice none 0 0, vi 1, vu 4, .string ByteArray.empty, .slice none 0 0, .slice none 0 0, vi 2, vu 0, .string (⟨#[120]⟩ : ByteArray), .slice none 0 0, .slice none 0 0] 29 20)] (fun r G B => ∃ y1 : Option Nat×Nat, (4 ≤ y1.2∧(y1.1 = none → y1.2 = 0)∧∀ a, y1.1 = some a → G.cells a 0 (intsI [0, 1, 0, -1]))∧r = .ret (.slice (y1.1.map fun a => (⟨a, 0, none⟩ : Addr)) 4 y1.2)∧B = [none]))∧∀ (y1 : Option Nat×Nat) (G2 : RO), R.le G2 → (4 ≤ y1.2∧(y1.1 = none → y1.2 = 0)∧∀ a, y1.1 = some a → G2.cells a 0 (intsI [0, 1, 0, -1])) → ∀ a3 : Nat, (Does Tryd.prog 22 [.slice (y1.1.map fun a => (⟨a, 0, none⟩ : Addr)) 4 y1.2, slA a3 4 4] G2 [some (a3, .row [vi 0, vi 1, vi 0, vi (-1)] 3 4)] (fun r G B => ∃ x4 : Unit, (True)∧r = .ret (.bool true)∧B = [none]))∧∀ (x4 : Unit) (G5 : RO), G2.le G5 → (True) → (fun (r : Out) (G : RO) (B : Hp) => ∃ x : Unit, (True)∧r = .ret (.bool true)∧B = []) (.ret (.bool true)) G5 [])) (let y_0 : Array Value := #[vi 1, vu 4, .string ByteArray.empty, .slice none 0 0, .slice none 0 0];ops [.d, .call0 [] [] (fun e v => .ret (.bool true)) (fun e v => []), .d, .call0 [] [] (fun e v => .ret (.agg y_0)) (fun e v => []), .call0 [] [] (fun e v => .ret (.agg #[vi 1, vu 9, .string ByteArray.empty, .slice none 0 0, .slice none 0 0])) (fun e v => []), .call0 [] [] (fun e v => .ret (.agg y_0)) (fun e v => []), .call0 [] [] (fun e v => .ret (.agg #[vi 2, vu 0, .string (⟨#[120]⟩ : ByteArray), .slice none 0 0, .slice none 0 0])) (fun e v => [])] (.opn 0 (fun a0 => (.opg [0] [] (Option Nat×Nat) (fun y1 G => 4 ≤ y1.2∧(y1.1 = none → y1.2 = 0)∧∀ a, y1.1 = some a → G.cells a 0 (intsI [0, 1, 0, -1])) (fun y1 => (.slice (y1.1.map fun a => (⟨a, 0, none⟩ : Addr)) 4 y1.2, [none])) (fun y1 => (.opn 1 (fun a3 => (.opg [1] [] (Unit) (fun x4 G => True) (fun x4 => (.bool true, [none])) (fun x4 => (ops [.d, .d] (.fin [] []))))))))))) Tryd.func5 (by kernel_rfl) (by kernel_rfl)
    (⟨(awake8_ok R hT), ⟨(atom_ok 4 R), ⟨(atom_ok 9 R), ⟨(atom_ok 4 R), ⟨(word_ok (⟨#[120]⟩ : ByteArray) R), fun a0 => ⟨(pattern4 _ R hT), fun y1 G2 hG2 qy1 => (have hT := tab_mono hG2 hT;fun a3 => ⟨(equal4 _ y1 G2 qy1.1 qy1.2.1 qy1.2.2), fun x4 G5 hG5 qx4 => (have hT := tab_mono hG5 hT;have qy1 := And.intro qy1.1 (And.intro qy1.2.1 (fun a h9 => RO.cells_mono hG5 (qy1.2.2 a h9)));⟨(), trivial, (by rfl), (by rfl)⟩)⟩)⟩⟩⟩⟩⟩⟩)
theorem awake9_ok (R : RO) (hT : TabR R) : Gives Tryd.prog 5 [] R [] (.ret (.bool true)) [] :=
  Does.forget ((awake9_own R hT).mono (by rintro o G B hle ⟨-, -, rfl, rfl⟩;exact ⟨rfl, rfl⟩))
namespace Tl
def dig (c : UInt8) : Prop := 48 ≤ c.toNat∧c.toNat ≤ 57
def okh (S : UInt8 → Prop) (u : List UInt8) : Prop := ∀ c r, u = c::r → S c
def S2 (c : UInt8) : Prop := c = 44 ∨ c = 41
def S1 (c : UInt8) : Prop := c = 44 ∨ c = 41 ∨ c = 94
theorem okh_cons {S : UInt8 → Prop} {c : UInt8} {r : List UInt8} (h : S c) : okh S (c::r) := fun _ _ e => by injection e with e1 _;exact e1 ▸ h
theorem okh_nil {S : UInt8 → Prop} : okh S [] := fun _ _ e => by cases e
theorem okh_mono {S S' : UInt8 → Prop} {u : List UInt8} (h : okh S u) (hs : ∀ c, S c → S' c) : okh S' u := fun c r e => hs c (h c r e)
theorem span_uniq (p : UInt8 → Prop) : ∀ (l m u v : List UInt8), (∀ c ∈ l, p c) → (∀ c ∈ m, p c) → okh (fun c => ¬ p c) u → okh (fun c => ¬ p c) v → l ++ u = m ++ v → l = m∧u = v
  | [], [], u, v, _, _, _, _, e => ⟨rfl, e⟩
  | [], c::m, u, v, _, hm, hu, _, e => (hu c (m ++ v) e (hm c (List.mem_cons_self ..))).elim
  | c::l, [], u, v, hl, _, _, hv, e => (hv c (l ++ u) e.symm (hl c (List.mem_cons_self ..))).elim
  | c::l, d::m, u, v, hl, hm, hu, hv, e => by
    have e : c::(l ++ u) = d::(m ++ v) := e
    injection e with e1 e2
    obtain ⟨h1, h2⟩ := span_uniq p l m u v (fun x hx => hl x (List.mem_cons_of_mem _ hx)) (fun x hx => hm x (List.mem_cons_of_mem _ hx)) hu hv e2
    exact ⟨by rw [e1, h1], h2⟩
theorem dec_dig : ∀ (n u : Nat), u ≤ n → ∀ c ∈ Lib.decDigits u, dig c
  | n, u, hn => by
    intro c hc
    rw [Lib.decDigits] at hc
    by_cases h : u < 10
    · rw [dif_pos h] at hc
      rcases List.mem_singleton.1 hc with rfl
      unfold dig;rw [UInt8.toNat_ofNat'];omega
    · rw [dif_neg h] at hc
      rcases List.mem_append.1 hc with hc | hc
      · cases n with
        | zero => omega
        | succ n => exact dec_dig n (u / 10) (by omega) c hc
      · rcases List.mem_singleton.1 hc with rfl
        unfold dig;rw [UInt8.toNat_ofNat'];omega
def vl (l : List UInt8) : Nat := l.foldl (fun a c => a * 10 + (c.toNat - 48)) 0
theorem vl_snoc (l : List UInt8) (c : UInt8) : vl (l ++ [c]) = vl l * 10 + (c.toNat - 48) := by simp [vl]
theorem vl_dec : ∀ (n u : Nat), u ≤ n → vl (Lib.decDigits u) = u
  | n, u, hn => by
    rw [Lib.decDigits]
    by_cases h : u < 10
    · rw [dif_pos h];show 0 * 10 + ((UInt8.ofNat (48 + u)).toNat - 48) = u;rw [UInt8.toNat_ofNat'];omega
    · rw [dif_neg h, vl_snoc]
      cases n with
      | zero => omega
      | succ n => rw [vl_dec n (u / 10) (by omega), UInt8.toNat_ofNat'];omega
theorem dec_ne (u : Nat) : Lib.decDigits u ≠ [] := by
  rw [Lib.decDigits];split
  · simp
  · simp
theorem dec_inj {i j : Nat} {u v : List UInt8} (hu : okh (fun c => ¬ dig c) u) (hv : okh (fun c => ¬ dig c) v) (e : Lib.decDigits i ++ u = Lib.decDigits j ++ v) : i = j∧u = v := by
  obtain ⟨h1, h2⟩ := span_uniq dig _ _ _ _ (dec_dig i i (Nat.le_refl _)) (dec_dig j j (Nat.le_refl _)) hu hv e
  have := congrArg vl h1
  rw [vl_dec i i (Nat.le_refl _), vl_dec j j (Nat.le_refl _)] at this
  exact ⟨this, h2⟩
theorem dec_45 (u : Nat) (w t : List UInt8) : Lib.decDigits u ++ w ≠ 45::t := fun e => by
  cases h : Lib.decDigits u with
  | nil => exact dec_ne u h
  | cons c l =>
    rw [h] at e
    have e : c::(l ++ w) = 45::t := e
    injection e with e1 _
    have := dec_dig u u (Nat.le_refl _) c (by rw [h];exact List.mem_cons_self ..)
    rw [e1] at this
    exact absurd this.1 (by decide)
theorem ito_inj {i j : Int} {u v : List UInt8} (hu : okh (fun c => ¬ dig c) u) (hv : okh (fun c => ¬ dig c) v) (e : Lib.itoa i ++ u = Lib.itoa j ++ v) : i = j∧u = v := by
  unfold Lib.itoa at e
  by_cases hi : i < 0 <;> by_cases hj : j < 0
  · rw [if_pos hi, if_pos hj] at e
    have e : 45::(Lib.decDigits i.natAbs ++ u) = 45::(Lib.decDigits j.natAbs ++ v) := e
    injection e with _ e2
    obtain ⟨h1, h2⟩ := dec_inj hu hv e2
    exact ⟨by omega, h2⟩
  · rw [if_pos hi, if_neg hj] at e;exact (dec_45 _ _ _ e.symm).elim
  · rw [if_neg hi, if_pos hj] at e;exact (dec_45 _ _ _ e).elim
  · rw [if_neg hi, if_neg hj] at e
    obtain ⟨h1, h2⟩ := dec_inj hu hv e
    exact ⟨by omega, h2⟩
theorem dig_inj : ∀ a, a < 16 → ∀ b, b < 16 → digB a = digB b → a = b := by decide
theorem dig_34 : ∀ a, a < 16 → digB a ≠ 34 := by decide
theorem hex_34 (l : List UInt8) : ∀ c ∈ hexL l, c ≠ 34 := by
  intro c hc
  unfold hexL at hc
  obtain ⟨x, _, hx⟩ := List.mem_flatMap.1 hc
  have := x.toNat_lt
  simp only [List.mem_cons, List.not_mem_nil, or_false] at hx
  rcases hx with rfl | rfl
  · exact dig_34 _ (by omega)
  · exact dig_34 _ (by omega)
theorem hex_inj : ∀ (l m : List UInt8), hexL l = hexL m → l = m
  | [], [], _ => rfl
  | [], b::m, h => by simp [hexL] at h
  | a::l, [], h => by simp [hexL] at h
  | a::l, b::m, h => by
    have h : digB (a.toNat / 16)::digB (a.toNat % 16)::hexL l = digB (b.toNat / 16)::digB (b.toNat % 16)::hexL m := h
    injection h with h1 h2
    injection h2 with h2 h3
    have ha := a.toNat_lt
    have hb := b.toNat_lt
    have e1 := dig_inj _ (by omega) _ (by omega) h1
    have e2 := dig_inj _ (by omega) _ (by omega) h2
    rw [hex_inj l m h3, UInt8.toNat_inj.1 (show a.toNat = b.toNat by omega)]
def qt (s : ByteArray) : List UInt8 := 34::(hexL s.data.toList ++ [34])
theorem qt_inj {s t : ByteArray} {u v : List UInt8} (e : qt s ++ u = qt t ++ v) : s = t∧u = v := by
  unfold qt at e
  have e : 34::(hexL s.data.toList ++ [34] ++ u) = 34::(hexL t.data.toList ++ [34] ++ v) := e
  injection e with _ e
  rw [List.append_assoc, List.append_assoc] at e
  obtain ⟨h1, h2⟩ := span_uniq (fun c => c ≠ 34) _ _ _ _ (hex_34 _) (hex_34 _) (okh_cons (fun h => h rfl)) (okh_cons (fun h => h rfl)) e
  have h3 := hex_inj _ _ h1
  have h2 : 34::u = 34::v := h2
  injection h2 with _ h2
  refine ⟨?_, h2⟩
  cases s;cases t
  simp only [ByteArray.mk.injEq]
  exact Array.toList_inj.1 h3
def pl (p : PW) : List UInt8 := 94::(Lib.decDigits p.1.toNat ++ 58::Lib.itoa p.2)
theorem s1_nd {c : UInt8} (h : S1 c) : ¬ dig c := by rcases h with rfl | rfl | rfl <;> (unfold dig;decide)
theorem pl_next (ps : List PW) {u : List UInt8} (hu : okh S2 u) : okh S1 (ps.flatMap pl ++ u) := by
  cases ps with
  | nil => exact okh_mono hu fun c h => h.elim .inl fun h => .inr (.inl h)
  | cons p ps => exact okh_cons (.inr (.inr rfl))
theorem pl_inj : ∀ (ps qs : List PW) (u v : List UInt8), (∀ p ∈ ps, 0 ≤ p.1) → (∀ p ∈ qs, 0 ≤ p.1) → okh S2 u → okh S2 v → ps.flatMap pl ++ u = qs.flatMap pl ++ v → ps = qs∧u = v
  | [], [], u, v, _, _, _, _, e => ⟨rfl, e⟩
  | [], q::qs, u, v, _, _, hu, _, e => by
    have := hu 94 _ e
    rcases this with h | h <;> exact absurd h (by decide)
  | p::ps, [], u, v, _, _, _, hv, e => by
    have := hv 94 _ e.symm
    rcases this with h | h <;> exact absurd h (by decide)
  | p::ps, q::qs, u, v, hp, hq, hu, hv, e => by
    simp only [List.flatMap_cons, List.append_assoc] at e
    have e : 94::(Lib.decDigits p.1.toNat ++ 58::Lib.itoa p.2 ++ (ps.flatMap pl ++ u)) = 94::(Lib.decDigits q.1.toNat ++ 58::Lib.itoa q.2 ++ (qs.flatMap pl ++ v)) := e
    injection e with _ e
    simp only [List.append_assoc, List.cons_append] at e
    obtain ⟨h1, h2⟩ := dec_inj (okh_cons (by unfold dig;decide)) (okh_cons (by unfold dig;decide)) e
    injection h2 with _ h2
    obtain ⟨h3, h4⟩ := ito_inj (okh_mono (pl_next ps hu) fun c h => s1_nd h) (okh_mono (pl_next qs hv) fun c h => s1_nd h) h2
    obtain ⟨h5, h6⟩ := pl_inj ps qs u v (fun x hx => hp x (List.mem_cons_of_mem _ hx)) (fun x hx => hq x (List.mem_cons_of_mem _ hx)) hu hv h4
    have h7 := hp p (List.mem_cons_self ..)
    have h8 := hq q (List.mem_cons_self ..)
    exact ⟨by rw [h5, show p = q from Prod.ext (by omega) h3], h6⟩
def tl (x : T) : List UInt8 := (T.txt x).data.toList
theorem quotB_l (s : ByteArray) : (quotB s).data.toList = qt s := by simp [quotB, qt, hexB]
theorem tl_atom (i : Int) (s : ByteArray) (xs : List T) (ps : List PW) : tl (.mk 1 i s xs ps) = 35::Lib.decDigits i.toNat := by
  unfold tl;rw [T.txt, if_pos rfl];simp [decB]
theorem tl_word (i : Int) (s : ByteArray) (xs : List T) (ps : List PW) : tl (.mk 2 i s xs ps) = qt s := by
  unfold tl;rw [T.txt, if_neg (by decide), if_pos rfl, quotB_l]
def jn (l : List (List UInt8)) : List UInt8 := Lib.join l [44]
theorem jn_one (a : List UInt8) : jn [a] = a := by simp [jn, Lib.join, List.intercalate]
theorem jn_cons (a b : List UInt8) (l : List (List UInt8)) : jn (a::b::l) = a ++ 44::jn (b::l) := by simp [jn, Lib.join, List.intercalate]
theorem tl_hash (i : Int) (s : ByteArray) (xs : List T) (ps : List PW) : tl (.mk 3 i s xs ps) = qt s ++ 40::(jn (xs.map tl) ++ [41]) := by
  unfold tl
  rw [T.txt, if_neg (by decide), if_neg (by decide), if_pos rfl, T.txtL_map]
  simp [quotB_l, joinC, jn, Function.comp_def]
theorem powsB_l : ∀ (ps : List PW) (s : ByteArray), (T.powsB s ps).data.toList = s.data.toList ++ ps.flatMap pl
  | [], s => by simp [T.powsB]
  | p::ps, s => by
    show (T.powsB (s ++ T.powB p) ps).data.toList = _
    rw [powsB_l ps]
    simp [T.powB, pl, decB, itoB]
theorem tl_pow (i : Int) (s : ByteArray) (a : T) (ps : List PW) : tl (.mk 4 i s [a] ps) = tl a ++ ps.flatMap pl := by
  unfold tl
  rw [T.txt, if_neg (by decide), if_neg (by decide), if_neg (by decide), powsB_l];rfl
inductive Sh : T → Prop
  | atom (i : Int) : Sh (.mk 1 i .empty [] [])
  | word (s : ByteArray) : Sh (.mk 2 0 s [] [])
  | hash (s : ByteArray) (xs : List T) (d : Nat) (h : T.isNL d xs) : Sh (.mk 3 0 s xs [])
  | pow (a : T) (ps : List PW) (d : Nat) (h : T.isN d a) (hk : a.k ≠ 4) : Sh (.mk 4 0 .empty [a] ps)
theorem sh_of {d : Nat} {x : T} (h : T.isN d x) : Sh x := by
  cases x with
  | mk k i s xs ps =>
    by_cases hd : 40 < d
    · rw [T.isN_deep hd] at h;rw [h];exact .word _
    · rw [T.isN, if_neg hd] at h
      rcases h with ⟨rfl, rfl, rfl, rfl⟩ | ⟨rfl, rfl, rfl, rfl⟩ | ⟨rfl, rfl, rfl, h⟩ | ⟨rfl, rfl, rfl, ⟨a, rfl, ha⟩, h, _⟩
      · exact .atom i
      · exact .word s
      · exact .hash s xs _ h
      · exact .pow a ps _ h.1 ha
theorem isNL_mem {d : Nat} : ∀ {l : List T}, T.isNL d l → ∀ t ∈ l, T.isN d t
  | a::l, h, t, ht => by
    cases ht with
    | head => exact h.1
    | tail _ hm => exact isNL_mem h.2 t hm
theorem no_pow {d : Nat} {x a : T} (h : T.isN d x) (e : x = .mk 4 0 .empty [a] []) : False := by
  subst e
  by_cases hd : 40 < d
  · rw [T.isN_deep hd] at h;cases h
  · rw [T.isN, if_neg hd] at h
    rcases h with ⟨h, _⟩ | ⟨h, _⟩ | ⟨h, _⟩ | ⟨_, _, _, _, _, _, h⟩
    · exact absurd h (by decide)
    · exact absurd h (by decide)
    · exact absurd h (by decide)
    · exact h rfl
def MI (x y : T) : Prop := ∀ u v, okh S2 u → okh S2 v → tl x ++ u = tl y ++ v → x = y∧u = v
def NI (x y : T) : Prop := x.k ≠ 4 → y.k ≠ 4 → ∀ u v, okh S1 u → okh S1 v → tl x ++ u = tl y ++ v → x = y∧u = v
theorem tl_41 {d : Nat} {x : T} (h : T.isN d x) : ∀ (n : Nat), x.wt ≤ n → ∀ w t, tl x ++ w ≠ 41::t := by
  intro n
  induction n generalizing x d with
  | zero => intro hn;have := T.wt_300 x;omega
  | succ n ih =>
    intro hn w t e
    cases sh_of h with
    | atom i => rw [tl_atom] at e;injection e with e _;exact absurd e (by decide)
    | word s => rw [tl_word] at e;injection e with e _;exact absurd e (by decide)
    | hash s xs d h => rw [tl_hash] at e;injection e with e _;exact absurd e (by decide)
    | pow a ps d1 h1 hk =>
      rw [tl_pow, List.append_assoc] at e
      have : T.wt (.mk 4 0 .empty [a] ps) = 300 + 2 * 0 + 60 * ps.length + (a.wt + 1 + 0) := rfl
      exact ih (x := a) h1 (show a.wt ≤ n by omega) _ _ e
theorem list_inj : ∀ (xs ys : List T) (u v : List UInt8), (∀ x ∈ xs, ∀ y ∈ ys, MI x y) → (∃ d, T.isNL d xs) → (∃ d, T.isNL d ys) → jn (xs.map tl) ++ 41::u = jn (ys.map tl) ++ 41::v → xs = ys∧u = v
  | [], [], u, v, _, _, _, e => ⟨rfl, by injection e⟩
  | [], [y], u, v, _, _, ⟨d, hy⟩, e => by
    rw [List.map_cons, List.map_nil, jn_one] at e
    exact (tl_41 hy.1 _ (Nat.le_refl _) _ _ e.symm).elim
  | [], y::z::ys, u, v, _, _, ⟨d, hy⟩, e => by
    rw [List.map_cons, List.map_cons, jn_cons, List.append_assoc] at e
    exact (tl_41 hy.1 _ (Nat.le_refl _) _ _ e.symm).elim
  | [x], [], u, v, _, ⟨d, hx⟩, _, e => by
    rw [List.map_cons, List.map_nil, jn_one] at e
    exact (tl_41 hx.1 _ (Nat.le_refl _) _ _ e).elim
  | x::z::xs, [], u, v, _, ⟨d, hx⟩, _, e => by
    rw [List.map_cons, List.map_cons, jn_cons, List.append_assoc] at e
    exact (tl_41 hx.1 _ (Nat.le_refl _) _ _ e).elim
  | [x], [y], u, v, hm, _, _, e => by
    rw [List.map_cons, List.map_nil, jn_one, List.map_cons, List.map_nil, jn_one] at e
    obtain ⟨h1, h2⟩ := hm x (by simp) y (by simp) _ _ (okh_cons (.inr rfl)) (okh_cons (.inr rfl)) e
    exact ⟨by rw [h1], by injection h2⟩
  | [x], y::z::ys, u, v, hm, _, _, e => by
    rw [List.map_cons, List.map_nil, jn_one, List.map_cons, List.map_cons, jn_cons, List.append_assoc] at e
    obtain ⟨h1, h2⟩ := hm x (by simp) y (by simp) _ _ (okh_cons (.inr rfl)) (okh_cons (.inl rfl)) e
    injection h2 with h2 _;exact absurd h2 (by decide)
  | x::z::xs, [y], u, v, hm, _, _, e => by
    rw [List.map_cons, List.map_cons, jn_cons, List.map_cons, List.map_nil, jn_one, List.append_assoc] at e
    obtain ⟨h1, h2⟩ := hm x (by simp) y (by simp) _ _ (okh_cons (.inl rfl)) (okh_cons (.inr rfl)) e
    injection h2 with h2 _;exact absurd h2 (by decide)
  | x::z::xs, y::w::ys, u, v, hm, ⟨d, hx⟩, ⟨d', hy⟩, e => by
    rw [List.map_cons, List.map_cons, jn_cons, List.map_cons, List.map_cons, jn_cons, List.append_assoc, List.append_assoc] at e
    obtain ⟨h1, h2⟩ := hm x (by simp) y (by simp) _ _ (okh_cons (.inl rfl)) (okh_cons (.inl rfl)) e
    injection h2 with _ h2
    obtain ⟨h3, h4⟩ := list_inj (z::xs) (w::ys) u v (fun a ha b hb => hm a (List.mem_cons_of_mem _ ha) b (List.mem_cons_of_mem _ hb)) ⟨d, hx.2⟩ ⟨d', hy.2⟩ h2
    exact ⟨by rw [h1, h3], h4⟩
theorem wt_mem {t : T} : ∀ {l : List T}, t ∈ l → t.wt < T.wtL l
  | a::l, h => by
    have h2 : T.wtL (a::l) = a.wt + 1 + T.wtL l := rfl
    cases h with
    | head => omega
    | tail _ hm => have := wt_mem hm;omega
theorem all_inj : ∀ (n : Nat) (x y : T) (d e : Nat), x.wt + y.wt ≤ n → T.isN d x → T.isN e y → x.good → y.good → NI x y∧MI x y := by
  intro n
  induction n with
  | zero => intro x y d e h;have := T.wt_300 x;omega
  | succ n ih =>
    intro x y d e hn hx hy gx gy
    have hN : NI x y := by
      intro kx ky u v hu hv he
      cases sh_of hx with
      | atom i =>
        rw [tl_atom] at he
        cases sh_of hy with
        | atom j =>
          rw [tl_atom] at he
          injection he with _ he
          obtain ⟨h1, h2⟩ := dec_inj (okh_mono hu fun c h => s1_nd h) (okh_mono hv fun c h => s1_nd h) he
          have := gx.1.1;have := gy.1.1
          exact ⟨by rw [show i = j by omega], h2⟩
        | word t => rw [tl_word] at he;injection he with he _;exact absurd he (by decide)
        | hash t ys d' h' => rw [tl_hash] at he;injection he with he _;exact absurd he (by decide)
        | pow b qs d' h' hk' => exact (ky rfl).elim
      | word s =>
        rw [tl_word] at he
        cases sh_of hy with
        | atom j => rw [tl_atom] at he;injection he with he _;exact absurd he (by decide)
        | word t =>
          rw [tl_word] at he
          obtain ⟨h1, h2⟩ := qt_inj he
          exact ⟨by rw [h1], h2⟩
        | hash t ys d' h' =>
          rw [tl_hash, List.append_assoc] at he
          obtain ⟨h1, h2⟩ := qt_inj he
          have := hu 40 _ h2
          rcases this with h | h | h <;> exact absurd h (by decide)
        | pow b qs d' h' hk' => exact (ky rfl).elim
      | hash s xs d1 h1 =>
        rw [tl_hash, List.append_assoc] at he
        cases sh_of hy with
        | atom j => rw [tl_atom] at he;injection he with he _;exact absurd he (by decide)
        | word t =>
          rw [tl_word] at he
          obtain ⟨h1, h2⟩ := qt_inj he
          have := hv 40 _ h2.symm
          rcases this with h | h | h <;> exact absurd h (by decide)
        | hash t ys d2 h2 =>
          rw [tl_hash, List.append_assoc] at he
          obtain ⟨h3, h4⟩ := qt_inj he
          have h4 : 40::(jn (xs.map tl) ++ [41] ++ u) = 40::(jn (ys.map tl) ++ [41] ++ v) := h4
          injection h4 with _ h4
          rw [List.append_assoc, List.append_assoc] at h4
          obtain ⟨h5, h6⟩ := list_inj xs ys u v (fun a ha b hb => (ih a b d1 d2 (by
            have e1 : T.wt (.mk 3 0 s xs []) = 300 + 2 * s.size + 60 * 0 + T.wtL xs := rfl
            have e2 : T.wt (.mk 3 0 t ys []) = 300 + 2 * t.size + 60 * 0 + T.wtL ys := rfl
            have := wt_mem ha;have := wt_mem hb;omega) (isNL_mem h1 a ha) (isNL_mem h2 b hb) ((T.goodL_iff _).1 gx.2.2.2 a ha) ((T.goodL_iff _).1 gy.2.2.2 b hb)).2) ⟨d1, h1⟩ ⟨d2, h2⟩ h4
          exact ⟨by rw [h3, h5], h6⟩
        | pow b qs d' h' hk' => exact (ky rfl).elim
      | pow a ps d' h' hk' => exact (kx rfl).elim
    refine ⟨hN, ?_⟩
    intro u v hu hv he
    have up : ∀ w, okh S2 w → okh S1 w := fun w h => okh_mono h fun c h => h.elim .inl fun h => .inr (.inl h)
    have gp : ∀ {k i : Int} {s : ByteArray} {xs : List T} {ps : List PW}, T.good (.mk k i s xs ps) → ∀ p ∈ ps, 0 ≤ p.1 := fun h p hp => (h.2.1 p hp).1.1
    have wp : ∀ (a : T) (ps : List PW), T.wt (.mk 4 0 .empty [a] ps) = 300 + 2 * 0 + 60 * ps.length + (a.wt + 1 + 0) := fun a ps => rfl
    by_cases kx : x.k = 4 <;> by_cases ky : y.k = 4
    · cases sh_of hx with
      | pow a ps d1 h1 hk1 =>
        cases sh_of hy with
        | pow b qs d2 h2 hk2 =>
          rw [tl_pow, tl_pow, List.append_assoc, List.append_assoc] at he
          have := wp a ps;have := wp b qs
          obtain ⟨e1, e2⟩ := (ih a b d1 d2 (by omega) h1 h2 gx.2.2.2.1 gy.2.2.2.1).1 hk1 hk2 _ _ (pl_next ps hu) (pl_next qs hv) he
          obtain ⟨e3, e4⟩ := pl_inj ps qs u v (gp gx) (gp gy) hu hv e2
          exact ⟨by rw [e1, e3], e4⟩
        | _ => simp [T.k] at ky
      | _ => simp [T.k] at kx
    · cases sh_of hx with
      | pow a ps d1 h1 hk1 =>
        rw [tl_pow, List.append_assoc] at he
        have := wp a ps
        obtain ⟨e1, e2⟩ := (ih a y d1 e (by omega) h1 hy gx.2.2.2.1 gy).1 hk1 ky _ _ (pl_next ps hu) (up v hv) he
        obtain ⟨e3, e4⟩ := pl_inj ps [] u v (gp gx) (fun p hp => by cases hp) hu hv e2
        subst e3
        exact (Tl.no_pow hx rfl).elim
      | _ => simp [T.k] at kx
    · cases sh_of hy with
      | pow b qs d2 h2 hk2 =>
        rw [tl_pow, List.append_assoc] at he
        have := wp b qs
        obtain ⟨e1, e2⟩ := (ih x b d d2 (by omega) hx h2 gx gy.2.2.2.1).1 kx hk2 _ _ (up u hu) (pl_next qs hv) he
        obtain ⟨e3, e4⟩ := pl_inj [] qs u v (fun p hp => by cases hp) (gp gy) hu hv e2
        subst e3
        exact (Tl.no_pow hy rfl).elim
      | _ => simp [T.k] at ky
    · exact hN kx ky u v (up u hu) (up v hv) he
end Tl
theorem T.txt_inj {x y : T} (hx : T.isN 1 x) (hy : T.isN 1 y) (gx : x.good) (gy : y.good) (e : T.txt x = T.txt y) : x = y :=
  ((Tl.all_inj _ x y 1 1 (Nat.le_refl _) hx hy gx gy).2 [] [] Tl.okh_nil Tl.okh_nil (by unfold Tl.tl;rw [e])).1
end Go.Proofs.YtehbmooelcjfoaaDoor
namespace Go.Proofs.YtehbmooelcjfoaaDoor
open Vc Go
set_option linter.unusedVariables false
set_option linter.unusedSimpArgs false
structure Bij (f g : Int → Int) : Prop where
  fr : ∀ a, 0 ≤ a∧a ≤ 4294967295 → 0 ≤ f a∧f a ≤ 4294967295
  gr : ∀ a, 0 ≤ a∧a ≤ 4294967295 → 0 ≤ g a∧g a ≤ 4294967295
  gf : ∀ a, 0 ≤ a∧a ≤ 4294967295 → g (f a) = a
  fg : ∀ a, 0 ≤ a∧a ≤ 4294967295 → f (g a) = a
theorem Bij.symm {f g : Int → Int} (h : Bij f g) : Bij g f := ⟨h.gr, h.fr, h.fg, h.gf⟩
namespace T
mutual
def atm : T → List Int
  | .mk k i _ xs ps => (if k = 1 then [i] else []) ++ ps.map (·.1) ++ atmL xs
def atmL : List T → List Int
  | [] => []
  | a::l => atm a ++ atmL l
end
theorem prod_src' {l : List PW} {p : PW} (h : p ∈ prod l) : ∃ q ∈ l, q.1 = p.1 := by
  obtain ⟨h1, h2⟩ := prod_mem.1 h
  refine Classical.byContradiction fun hn => h2 ?_
  rw [h1, sm_zero (fun q hq e => hn ⟨q, hq, e⟩), wrap_zero]
theorem atm_mk' (k i : Int) (s : ByteArray) (xs : List T) (ps : List PW) : atm (.mk k i s xs ps) = (if k = 1 then [i] else []) ++ ps.map (·.1) ++ atmL xs := rfl
def mpP (f : Int → Int) (ps : List PW) : List PW := ps.map fun p => (f p.1, p.2)
mutual
def ren (f : Int → Int) : T → T
  | .mk k i s xs ps => .mk k (if k = 1 then f i else i) s (renL f xs) (mpP f ps)
def renL (f : Int → Int) : List T → List T
  | [] => []
  | a::l => ren f a::renL f l
end
theorem renL_map (f : Int → Int) : ∀ l, renL f l = l.map (ren f)
  | [] => rfl
  | a::l => by rw [renL, renL_map f l];rfl
mutual
def rn (f : Int → Int) : T → T
  | .mk k i s xs ps => if k = 1 then atom (f i) else if k = 3 then .mk 3 0 s (rnL f xs) [] else if k = 4 then .mk 4 0 .empty (rnL f xs) (prod (mpP f ps)) else .mk k i s xs ps
def rnL (f : Int → Int) : List T → List T
  | [] => []
  | a::l => rn f a::rnL f l
end
theorem rn_k (f : Int → Int) (x : T) : (rn f x).k = x.k := by
  obtain ⟨k, i, s, xs, ps⟩ := x
  rw [rn]
  split
  · rename_i h;subst h;rfl
  · split
    · rename_i h;subst h;rfl
    · split
      · rename_i h;subst h;rfl
      · rfl
def rg (a : Int) : Prop := 0 ≤ a∧a ≤ 4294967295
theorem sm_mp {f g : Int → Int} (B : Bij f g) : ∀ {l : List PW}, (∀ p ∈ l, rg p.1) → ∀ {a : Int}, rg a → sm (mpP f l) a = sm l (g a)
  | [], _, _, _ => rfl
  | p::l, h, a, ha => by
    have ih := sm_mp B (l := l) (fun q hq => h q (List.mem_cons_of_mem _ hq)) ha
    have hp := h p (List.mem_cons_self ..)
    have e : (f p.1 = a) ↔ (p.1 = g a) := ⟨fun e => by rw [← e, B.gf _ hp], fun e => by rw [e, B.fg _ ha]⟩
    show (if f p.1 = a then p.2 else 0) + sm (mpP f l) a = (if p.1 = g a then p.2 else 0) + sm l (g a)
    rw [ih]
    by_cases h9 : p.1 = g a
    · rw [if_pos (e.2 h9), if_pos h9]
    · rw [if_neg (fun h8 => h9 (e.1 h8)), if_neg h9]
theorem mp_rg {f g : Int → Int} (B : Bij f g) {l : List PW} (h : ∀ p ∈ l, rg p.1) : ∀ p ∈ mpP f l, rg p.1 := fun p hp => by
  obtain ⟨q, hq, rfl⟩ := List.mem_map.1 hp
  exact B.fr _ (h q hq)
theorem prod_rg {l : List PW} (h : ∀ p ∈ l, rg p.1) : ∀ p ∈ prod l, rg p.1 := fun p hp => by
  obtain ⟨h1, h2⟩ := prod_mem.1 hp
  refine Classical.byContradiction fun hn => h2 ?_
  rw [h1, sm_zero (l := l) (fun q hq (e : q.1 = p.1) => hn (by rw [← e];exact h q hq)), wrap_zero]
theorem mem_mp {f g : Int → Int} (B : Bij f g) {ps : List PW} (h : ∀ p ∈ ps, rg p.1) (hp : prod ps = ps) {p : PW} (hm : p ∈ ps) : (f p.1, p.2) ∈ prod (mpP f ps) := by
  have h1 := prod_mem.1 (show p ∈ prod ps by rw [hp];exact hm)
  have hr := h p hm
  refine prod_mem.2 ⟨?_, h1.2⟩
  show p.2 = IntKind.i64.wrap (sm (mpP f ps) (f p.1))
  rw [sm_mp B h (B.fr _ hr), B.gf _ hr]
  exact h1.1
theorem mp_ne {f g : Int → Int} (B : Bij f g) {ps : List PW} (h : ∀ p ∈ ps, rg p.1) (hp : prod ps = ps) (hn : ps ≠ []) : prod (mpP f ps) ≠ [] := fun e => by
  cases ps with
  | nil => exact hn rfl
  | cons p l => have := mem_mp B h hp (List.mem_cons_self ..);rw [e] at this;cases this
theorem mp_back {f g : Int → Int} (B : Bij f g) {ps : List PW} (h : ∀ p ∈ ps, rg p.1) (hp : prod ps = ps) : prod (mpP g (prod (mpP f ps))) = ps := by
  rw [← hp]
  conv => rhs;rw [hp]
  have key : ∀ a, IntKind.i64.wrap (sm (mpP g (prod (mpP f (prod ps)))) a) = IntKind.i64.wrap (sm ps a) := fun a => by
    rw [hp]
    by_cases ha : rg a
    · rw [sm_mp B.symm (prod_rg (mp_rg B h)) ha, sm_prod, wrap_wrap, sm_mp B h (B.fr _ ha), B.gf _ ha]
    · rw [sm_zero (l := ps) (fun p hp (e : p.1 = a) => ha (by rw [← e];exact h p hp)), sm_zero (l := mpP g (prod (mpP f ps))) (fun p hp (e : p.1 = a) => ha (by rw [← e];exact mp_rg B.symm (prod_rg (mp_rg B h)) p hp))]
  rw [prod_congr key, hp]
def rng (t : T) : Prop := ∀ a ∈ atm t, rg a
theorem rng_kids {k i : Int} {s : ByteArray} {xs : List T} {ps : List PW} (h : rng (.mk k i s xs ps)) : (∀ a ∈ atmL xs, rg a)∧(∀ p ∈ ps, rg p.1)∧(k = 1 → rg i) :=
  ⟨fun a ha => h a (by rw [atm_mk'];exact List.mem_append_right _ ha), fun p hp => h _ (by rw [atm_mk'];exact List.mem_append_left _ (List.mem_append_right _ (List.mem_map.2 ⟨p, hp, rfl⟩))),
    fun hk => h i (by rw [atm_mk', if_pos hk];exact List.mem_append_left _ (List.mem_append_left _ (List.mem_singleton.2 rfl)))⟩
theorem rng_cons {a : T} {l : List T} (h : ∀ x ∈ atmL (a::l), rg x) : rng a∧∀ x ∈ atmL l, rg x :=
  ⟨fun x hx => h x (List.mem_append_left _ hx), fun x hx => h x (List.mem_append_right _ hx)⟩
mutual
theorem nrm_ren {f g : Int → Int} (B : Bij f g) : ∀ (x : T) (e e' : Nat), isN e x → rng x → e' ≤ e → nrm e' (ren f x) = rn f x
  | .mk k i s xs ps, e, e', hN, hr, he => by
    obtain ⟨r1, r2, r3⟩ := rng_kids hr
    have ihL := nrmL_ren B xs (e + 1) (e' + 1)
    by_cases hd : 40 < e
    · have hw := (isN_deep hd).1 hN
      simp only [word, mk.injEq] at hw
      obtain ⟨rfl, rfl, rfl, rfl, rfl⟩ := hw
      rw [ren, rn, nrm]
      simp [renL, mpP, word]
    · rw [isN, if_neg hd] at hN
      rw [ren, rn, nrm, if_neg (by omega)]
      rcases hN with ⟨rfl, rfl, rfl, rfl⟩ | ⟨rfl, rfl, rfl, rfl⟩ | ⟨rfl, rfl, rfl, h4⟩ | ⟨rfl, rfl, rfl, ⟨a, rfl, ha⟩, h5, h6, h7⟩
      · simp
      · simp [renL, mpP, word]
      · have ih := ihL h4 r1 (by omega)
        simp [ih, mpP]
      · have ih := ihL h5 r1 (by omega)
        simp only [renL, nrmL, rnL, List.cons.injEq, and_true] at ih
        have hne := mp_ne B r2 h6 h7
        simp only [renL, nrmL, ih, rnL, if_neg (show ¬ (4 : Int) = 1 by decide), if_neg (show ¬ (4 : Int) = 2 by decide), if_neg (show ¬ (4 : Int) = 3 by decide), if_true]
        unfold pow
        rw [if_neg (by rw [rn_k];exact ha), if_neg hne]
theorem nrmL_ren {f g : Int → Int} (B : Bij f g) : ∀ (l : List T) (e e' : Nat), isNL e l → (∀ a ∈ atmL l, rg a) → e' ≤ e → nrmL e' (renL f l) = rnL f l
  | [], _, _, _, _, _ => rfl
  | a::l, e, e', hN, hr, he => by
    have h1 := nrm_ren B a e e' hN.1 (rng_cons hr).1 he
    have h2 := nrmL_ren B l e e' hN.2 (rng_cons hr).2 he
    rw [renL, nrmL, rnL, h1, h2]
end
mutual
theorem rn_back {f g : Int → Int} (B : Bij f g) : ∀ (x : T) (e : Nat), isN e x → rng x → rn g (rn f x) = x
  | .mk k i s xs ps, e, hN, hr => by
    obtain ⟨r1, r2, r3⟩ := rng_kids hr
    have ihL := rnL_back B xs (e + 1)
    by_cases hd : 40 < e
    · have hw := (isN_deep hd).1 hN
      simp only [word, mk.injEq] at hw
      obtain ⟨rfl, rfl, rfl, rfl, rfl⟩ := hw
      simp [rn]
    · rw [isN, if_neg hd] at hN
      rcases hN with ⟨rfl, rfl, rfl, rfl⟩ | ⟨rfl, rfl, rfl, rfl⟩ | ⟨rfl, rfl, rfl, h4⟩ | ⟨rfl, rfl, rfl, ⟨a, rfl, ha⟩, h5, h6, h7⟩
      · simp [rn, atom, B.gf i (r3 rfl)]
      · simp [rn]
      · have ih := ihL h4 r1
        simp [rn, ih]
      · have ih := ihL h5 r1
        simp [rn, ih, mp_back B r2 h6]
theorem rnL_back {f g : Int → Int} (B : Bij f g) : ∀ (l : List T) (e : Nat), isNL e l → (∀ a ∈ atmL l, rg a) → rnL g (rnL f l) = l
  | [], _, _, _ => rfl
  | a::l, e, hN, hr => by rw [rnL, rnL, rn_back B a e hN.1 (rng_cons hr).1, rnL_back B l e hN.2 (rng_cons hr).2]
end
mutual
theorem rn_atm {f g : Int → Int} (B : Bij f g) : ∀ (x : T) (e : Nat), isN e x → rng x → ∀ a, a ∈ atm (rn f x) ↔ ∃ b ∈ atm x, f b = a
  | .mk k i s xs ps, e, hN, hr, a => by
    obtain ⟨r1, r2, r3⟩ := rng_kids hr
    have ihL := rnL_atm B xs (e + 1)
    by_cases hd : 40 < e
    · have hw := (isN_deep hd).1 hN
      simp only [word, mk.injEq] at hw
      obtain ⟨rfl, rfl, rfl, rfl, rfl⟩ := hw
      simp [rn, atm, atmL]
    · rw [isN, if_neg hd] at hN
      rcases hN with ⟨rfl, rfl, rfl, rfl⟩ | ⟨rfl, rfl, rfl, rfl⟩ | ⟨rfl, rfl, rfl, h4⟩ | ⟨rfl, rfl, rfl, ⟨y, rfl, ha⟩, h5, h6, h7⟩
      · simp [rn, atom, atm, atmL, eq_comm]
      · simp [rn, atm, atmL]
      · have ih := ihL h4 r1 a
        simp [rn, atm, ih]
      · have ih := ihL h5 r1 a
        simp only [rn, if_neg (show ¬ (4 : Int) = 1 by decide), if_neg (show ¬ (4 : Int) = 3 by decide), if_true, atm_mk', List.nil_append, List.mem_append, ih, List.mem_map]
        constructor
        · rintro (⟨p, hp, rfl⟩ | ⟨b, hb, rfl⟩)
          · obtain ⟨q, hq, e⟩ := prod_src' hp
            obtain ⟨q', hq', rfl⟩ := List.mem_map.1 hq
            exact ⟨q'.1, .inl ⟨q', hq', rfl⟩, e⟩
          · exact ⟨b, .inr hb, rfl⟩
        · rintro ⟨b, ⟨p, hp, rfl⟩ | hb, rfl⟩
          · exact .inl ⟨(f p.1, p.2), mem_mp B r2 h6 hp, rfl⟩
          · exact .inr ⟨b, hb, rfl⟩
theorem rnL_atm {f g : Int → Int} (B : Bij f g) : ∀ (l : List T) (e : Nat), isNL e l → (∀ a ∈ atmL l, rg a) → ∀ a, a ∈ atmL (rnL f l) ↔ ∃ b ∈ atmL l, f b = a
  | [], _, _, _, a => by simp [rnL, atmL]
  | y::l, e, hN, hr, a => by
    have h1 := rn_atm B y e hN.1 (rng_cons hr).1 a
    have h2 := rnL_atm B l e hN.2 (rng_cons hr).2 a
    rw [rnL]
    show a ∈ atm (rn f y) ++ atmL (rnL f l) ↔ ∃ b ∈ atm y ++ atmL l, f b = a
    rw [List.mem_append, h1, h2]
    constructor
    · rintro (⟨b, hb, e⟩ | ⟨b, hb, e⟩)
      · exact ⟨b, List.mem_append_left _ hb, e⟩
      · exact ⟨b, List.mem_append_right _ hb, e⟩
    · rintro ⟨b, hb, e⟩
      rcases List.mem_append.1 hb with hb | hb
      · exact .inl ⟨b, hb, e⟩
      · exact .inr ⟨b, hb, e⟩
end
mutual
theorem atm_okn : ∀ (t : T), okn t → rng t
  | .mk k i s xs ps, h => by
    obtain ⟨h1, h2, h3, h4⟩ := h
    have ih := atmL_okn xs h4
    intro a ha
    rw [atm_mk'] at ha
    rcases List.mem_append.1 ha with ha | ha
    · rcases List.mem_append.1 ha with ha | ha
      · split at ha
        · rcases List.mem_singleton.1 ha with rfl;exact h2
        · cases ha
      · obtain ⟨p, hp, rfl⟩ := List.mem_map.1 ha
        exact (h3 p hp).1
    · exact ih a ha
theorem atmL_okn : ∀ (l : List T), oknL l → ∀ a ∈ atmL l, rg a
  | [], _, a, ha => by cases ha
  | x::l, h, a, ha => by
    rcases List.mem_append.1 ha with ha | ha
    · exact atm_okn x h.1 a ha
    · exact atmL_okn l h.2 a ha
end
def rnm (f : Int → Int) (t : T) : T := nrm 1 (ren f (nrm 1 t))
theorem rnm_eq {f g : Int → Int} (B : Bij f g) {t : T} (h : okn t) : rnm f t = rn f (nrm 1 t) := nrm_ren B _ 1 1 (isN_nrm 1 t) (atm_okn _ (okn_nrm 1 h)) (Nat.le_refl _)
theorem rnm_nrm (f : Int → Int) (t : T) : nrm 1 (rnm f t) = rnm f t := nrm_nrm 1 _
theorem rn_rng {f g : Int → Int} (B : Bij f g) {x : T} (hN : isN 1 x) (h : rng x) : rng (rn f x) := fun a ha => by
  obtain ⟨b, hb, rfl⟩ := (rn_atm B x 1 hN h a).1 ha
  exact B.fr _ (h b hb)
theorem rnm_back {f g : Int → Int} (B : Bij f g) {t : T} (h : okn t) : rnm g (rnm f t) = nrm 1 t := by
  have hN := isN_nrm 1 t
  have hr := atm_okn _ (okn_nrm 1 h)
  have e := rnm_eq B h
  have hN2 : isN 1 (rn f (nrm 1 t)) := e ▸ isN_nrm 1 _
  unfold rnm
  rw [nrm_nrm, show nrm 1 (ren f (nrm 1 t)) = rn f (nrm 1 t) from e, nrm_ren B.symm _ 1 1 hN2 (rn_rng B hN hr) (Nat.le_refl _), rn_back B _ 1 hN hr]
end T
def fX (bz : Int) : Int → Int := fun a => bXor .u32 a bz
theorem fX_eq {bz a : Int} (hb : 0 ≤ bz∧bz ≤ 4294967295) (ha : 0 ≤ a∧a ≤ 4294967295) : fX bz a = ((a.toNat ^^^ bz.toNat : Nat) : Int)∧(a.toNat ^^^ bz.toNat) < 4294967296 := by
  have h1 : (a.toNat ^^^ bz.toNat) < 2 ^ 32 := Nat.xor_lt_two_pow (by omega) (by omega)
  have h2 : ∀ x : Int, IntKind.u32.wrap x = x % 4294967296 := fun x => by simp [IntKind.wrap, IntKind.bits, IntKind.signed]
  have h3 : (2 : Int) ^ IntKind.u32.bits = 4294967296 := by decide
  unfold fX
  rw [bXor_nn ha.1 (by omega) hb.1 (by omega), h2]
  exact ⟨by omega, by omega⟩
theorem bijX {bz : Int} (hb : 0 ≤ bz∧bz ≤ 4294967295) : Bij (fX bz) (fX bz) := by
  have hr : ∀ a : Int, 0 ≤ a∧a ≤ 4294967295 → 0 ≤ fX bz a∧fX bz a ≤ 4294967295 := fun a ha => by
    have := fX_eq hb ha;omega
  have hi : ∀ a : Int, 0 ≤ a∧a ≤ 4294967295 → fX bz (fX bz a) = a := fun a ha => by
    have h1 := fX_eq hb ha
    rw [(fX_eq hb (hr a ha)).1, h1.1]
    show (((a.toNat ^^^ bz.toNat) ^^^ bz.toNat : Nat) : Int) = a
    rw [Nat.xor_assoc, Nat.xor_self, Nat.xor_zero];omega
  exact ⟨hr, hr, hi, hi⟩
theorem T.rnm_inj {f h : Int → Int} (B : Bij f h) {x y : T} (hx : x.okn) (hy : y.okn) (e : T.rnm f x = T.rnm f y) : T.nrm 1 x = T.nrm 1 y := by
  rw [← T.rnm_back B hx, ← T.rnm_back B hy, e]
theorem rn_word {f : Int → Int} {x : T} {d : Nat} (hx : T.isN d x) (hk : x.k = 2) : T.rn f x = x := by
  cases Tl.sh_of hx with
  | word s => rw [T.rn];simp [T.rnL]
  | _ => simp [T.k] at hk
end Go.Proofs.YtehbmooelcjfoaaDoor
namespace Go.Proofs.YtehbmooelcjfoaaDoor
open Vc Go
set_option linter.unusedVariables false
set_option linter.unusedSimpArgs false
theorem cells_rows {R : RO} {B O : Nat} {ts : Nat → L} : ∀ {n : Nat}, 0 < n → (∀ j, j < n → R.cells B (O + j * 5) (ts j).row) → R.cells B O (rowsL ((List.range n).map ts))
  | 1, _, h => by simpa [rowsL] using h 0 (by omega)
  | n + 2, _, h => by
    have ih := cells_rows (n := n + 1) (by omega) fun j hj => h j (by omega)
    rw [List.range_succ, List.map_append, List.map_singleton, rowsL_snoc]
    refine cells_snoc ih ?_
    rw [rowsL_len, List.length_map, List.length_range]
    exact h (n + 1) (by omega)
theorem src_rows {R : RO} {H : Hp} {lv : Option Addr} {ln lc LB LO : Nat} {ts : Nat → L} (hx : ∀ j, j < ln → lv = some ⟨LB, LO, none⟩∧R.cells LB (LO + j * 5) (ts j).row) :
    Src R H 5 ln (.slice lv ln lc) (rowsL ((List.range ln).map ts)) := by
  refine ⟨by rw [rowsL_len, List.length_map, List.length_range], ?_⟩
  rcases Nat.eq_zero_or_pos ln with h | h
  · subst h;exact .inr (.inl ⟨rfl, lv, lc, rfl⟩)
  · refine .inr (.inr ⟨LB, LO, lc, ?_, .inr (cells_rows h fun j hj => (hx j hj).2)⟩)
    rw [(hx 0 h).1]
theorem rowsL_one (l : List L) : ∀ v ∈ rowsL l, v.oneCell' = true := by
  intro v hv
  simp only [rowsL, List.mem_flatMap] at hv
  obtain ⟨p, _, hp⟩ := hv
  simp only [L.row, List.mem_cons, List.not_mem_nil, or_false] at hp
  rcases hp with rfl | rfl | rfl | rfl | rfl <;> rfl
theorem GivesX.padB {P : Program} {f : FuncId} {args : List Value} {R : RO} {o : Value} {X : Type} {g : X → Value×Hp} (h : Gives P f args R [] (.ret o) []) (x : X) (h1 : o = (g x).1) (h2 : (g x).2 = [none]) : GivesX P f args R [] X g :=
  fun Rx w hR hs => (h Rx w hR hs).mono fun e w' ⟨o', G, B, Rx', e1, ⟨h3, h4, h5⟩, h6, h7⟩ => by
    subst h5
    refine ⟨o', G, [none], Rx', e1, ⟨h3, x, by rw [h4, h1], h2.symm⟩, h6, ?_⟩
    exact ⟨h7.ro, fun i a C hi => h7.own i a C (Hp.at_pad (H := []) (k := 1) hi), fun i a C hi => h7.off i a C (Hp.at_pad (H := []) (k := 1) hi), fun i j a C D hi hj => h7.one i j a C D (Hp.at_pad (H := []) (k := 1) hi) (Hp.at_pad (H := []) (k := 1) hj), h7.os, h7.tape, h7.out⟩
theorem cloneP_some (f : Nat → PW) (ad : Addr) (ln lc LB LO : Nat) (R : RO) (hn : ln ≤ 1048576) (hx : ∀ j, j < ln → some ad = some ⟨LB, LO, none⟩∧R.cells LB (LO + j * 2) [vu (f j).1, vi (f j).2]) : GivesX Tryd.prog 31 [.slice (some ad) ln lc] R [] ({y : Option Nat×Nat // ln ≤ y.2∧y.2 ≤ maxLen∧(y.1 = none → y.2 = 0)}) (fun y => (gsv y.1.1 ln y.1.2, [gsb y.1.1 (powR ((List.range ln).map f)) 58 (y.1.2 * 2)])) :=
  Does.of_wp_eq (VC := (∀ a0 : Nat, (PrimOK Tryd.prog (.app 27 27 27 (slA a0 0 0) (.slice (some ad) ln lc)) R [gsb (some a0) [] 58 0] (Option Nat×Nat) (fun y1 => 0 + ln ≤ y1.2∧y1.2 ≤ maxLen∧(y1.1 = none → y1.2 = 0∧(some a0) = none)) (fun y1 => (gsv y1.1 (0 + ln) y1.2, [gsb y1.1 ([] ++ (powR ((List.range ln).map f))) 58 (y1.2 * 2)])))∧∀ y1 : Option Nat×Nat, (0 + ln ≤ y1.2∧y1.2 ≤ maxLen∧(y1.1 = none → y1.2 = 0∧(some a0) = none)) → GX R ({y : Option Nat×Nat // ln ≤ y.2∧y.2 ≤ maxLen∧(y.1 = none → y.2 = 0)}) (fun y => (gsv y.1.1 ln y.1.2, [gsb y.1.1 (powR ((List.range ln).map f)) 58 (y.1.2 * 2)])) (.ret (gsv y1.1 (0 + ln) y1.2)) R [gsb y1.1 ([] ++ (powR ((List.range ln).map f))) 58 (y1.2 * 2)])) (ops [.d, .d, .d] (.opn 0 (fun a0 => (ops [.d] (.opp [0] [] (Option Nat×Nat) (fun y1 => 0 + ln ≤ y1.2∧y1.2 ≤ maxLen∧(y1.1 = none → y1.2 = 0∧(some a0) = none)) (fun y1 => (gsv y1.1 (0 + ln) y1.2, [gsb y1.1 ([] ++ (powR ((List.range ln).map f))) 58 (y1.2 * 2)])) (fun y1 => (ops [.d] (.fin [0] [])))))))) Tryd.func31 (by kernel_rfl) (by kernel_rfl)
    (fun a0 => ⟨(app_ok (e := 58) (e' := 58) (z := 2) (by' := 16) (zc := [vu 0, vi 0]) (b := (some a0)) (len := 0) (cap := 0) (n := ln) (cs := []) (new := powR ((List.range ln).map f)) (by kernel_rfl) (.inl (by kernel_rfl)) (by kernel_rfl) rfl rfl (Nat.zero_le _) (by simp [maxLen]) (fun h => by cases h) (src_pows hx) (powR_one _) (by omega) (by simp only [maxLen];omega)), fun y1 qy1 => ⟨rfl, ⟨y1, by have := qy1;omega, qy1.2.1, fun h => (qy1.2.2 h).1⟩, (by exact congrArg (fun z => Out.ret (gsv _ z _)) (by omega)), (by exact congrArg (fun z => [gsb _ z 58 _]) (by rw [List.nil_append]))⟩⟩)
theorem cloneP_none (lc : Nat) (R : RO)  : Gives Tryd.prog 31 [.slice none 0 lc] R [] (.ret (.slice none 0 0)) [] :=
  Does.of_wp_eq (VC := (GQ R (.ret (.slice none 0 0)) [] (.ret (.slice none 0 0)) R [])) (ops [.d, .d, .d, .d] (.fin [] [])) Tryd.func31 (by kernel_rfl) (by kernel_rfl)
    (⟨rfl, (by rfl), (by rfl)⟩)
theorem cloneP_ok (f : Nat → PW) (lv : Option Addr) (ln lc LB LO : Nat) (R : RO) (hn : ln ≤ 1048576) (hx : ∀ j, j < ln → lv = some ⟨LB, LO, none⟩∧R.cells LB (LO + j * 2) [vu (f j).1, vi (f j).2]) :
    GivesX Tryd.prog 31 [.slice lv ln lc] R [] {y : Option Nat×Nat // ln ≤ y.2∧y.2 ≤ maxLen∧(y.1 = none → y.2 = 0)} (fun y => (gsv y.1.1 ln y.1.2, [gsb y.1.1 (powR ((List.range ln).map f)) 58 (y.1.2 * 2)])) := by
  cases lv with
  | none =>
    have h0 : ln = 0 := by
      rcases Nat.eq_zero_or_pos ln with h | h
      · exact h
      · have := (hx 0 h).1;cases this
    subst h0
    exact GivesX.padB (cloneP_none lc R) ⟨(none, 0), Nat.le_refl _, by simp [maxLen], fun _ => rfl⟩ rfl rfl
  | some a =>
    exact cloneP_some f a ln lc LB LO R hn hx
theorem cloneT_some (ts : Nat → L) (ad : Addr) (ln lc LB LO : Nat) (R : RO) (hn : ln ≤ 1048576) (hx : ∀ j, j < ln → some ad = some ⟨LB, LO, none⟩∧R.cells LB (LO + j * 5) (ts j).row) : GivesX Tryd.prog 11 [.slice (some ad) ln lc] R [] ({y : Option Nat×Nat // ln ≤ y.2∧y.2 ≤ maxLen∧(y.1 = none → y.2 = 0)}) (fun y => (gsv y.1.1 ln y.1.2, [gsb y.1.1 (rowsL ((List.range ln).map ts)) 29 (y.1.2 * 5)])) :=
  Does.of_wp_eq (VC := (∀ a0 : Nat, (PrimOK Tryd.prog (.app 25 25 25 (slA a0 0 0) (.slice (some ad) ln lc)) R [gsb (some a0) [] 29 0] (Option Nat×Nat) (fun y1 => 0 + ln ≤ y1.2∧y1.2 ≤ maxLen∧(y1.1 = none → y1.2 = 0∧(some a0) = none)) (fun y1 => (gsv y1.1 (0 + ln) y1.2, [gsb y1.1 ([] ++ (rowsL ((List.range ln).map ts))) 29 (y1.2 * 5)])))∧∀ y1 : Option Nat×Nat, (0 + ln ≤ y1.2∧y1.2 ≤ maxLen∧(y1.1 = none → y1.2 = 0∧(some a0) = none)) → GX R ({y : Option Nat×Nat // ln ≤ y.2∧y.2 ≤ maxLen∧(y.1 = none → y.2 = 0)}) (fun y => (gsv y.1.1 ln y.1.2, [gsb y.1.1 (rowsL ((List.range ln).map ts)) 29 (y.1.2 * 5)])) (.ret (gsv y1.1 (0 + ln) y1.2)) R [gsb y1.1 ([] ++ (rowsL ((List.range ln).map ts))) 29 (y1.2 * 5)])) (ops [.d, .d, .d] (.opn 0 (fun a0 => (ops [.d] (.opp [0] [] (Option Nat×Nat) (fun y1 => 0 + ln ≤ y1.2∧y1.2 ≤ maxLen∧(y1.1 = none → y1.2 = 0∧(some a0) = none)) (fun y1 => (gsv y1.1 (0 + ln) y1.2, [gsb y1.1 ([] ++ (rowsL ((List.range ln).map ts))) 29 (y1.2 * 5)])) (fun y1 => (ops [.d] (.fin [0] [])))))))) Tryd.func11 (by kernel_rfl) (by kernel_rfl)
    (fun a0 => ⟨(app_ok (e := 29) (e' := 29) (z := 5) (by' := 80) (zc := [vi 0, vu 0, .string ByteArray.empty, .slice none 0 0, .slice none 0 0]) (b := (some a0)) (len := 0) (cap := 0) (n := ln) (cs := []) (new := rowsL ((List.range ln).map ts)) (by kernel_rfl) (.inl (by kernel_rfl)) (by kernel_rfl) rfl rfl (Nat.zero_le _) (by simp [maxLen]) (fun h => by cases h) (src_rows hx) (rowsL_one _) (by omega) (by simp only [maxLen];omega)), fun y1 qy1 => ⟨rfl, ⟨y1, by have := qy1;omega, qy1.2.1, fun h => (qy1.2.2 h).1⟩, (by exact congrArg (fun z => Out.ret (gsv _ z _)) (by omega)), (by exact congrArg (fun z => [gsb _ z 29 _]) (by rw [List.nil_append]))⟩⟩)
theorem cloneT_none (lc : Nat) (R : RO)  : Gives Tryd.prog 11 [.slice none 0 lc] R [] (.ret (.slice none 0 0)) [] :=
  Does.of_wp_eq (VC := (GQ R (.ret (.slice none 0 0)) [] (.ret (.slice none 0 0)) R [])) (ops [.d, .d, .d, .d] (.fin [] [])) Tryd.func11 (by kernel_rfl) (by kernel_rfl)
    (⟨rfl, (by rfl), (by rfl)⟩)
theorem cloneT_ok (ts : Nat → L) (lv : Option Addr) (ln lc LB LO : Nat) (R : RO) (hn : ln ≤ 1048576) (hx : ∀ j, j < ln → lv = some ⟨LB, LO, none⟩∧R.cells LB (LO + j * 5) (ts j).row) :
    GivesX Tryd.prog 11 [.slice lv ln lc] R [] {y : Option Nat×Nat // ln ≤ y.2∧y.2 ≤ maxLen∧(y.1 = none → y.2 = 0)} (fun y => (gsv y.1.1 ln y.1.2, [gsb y.1.1 (rowsL ((List.range ln).map ts)) 29 (y.1.2 * 5)])) := by
  cases lv with
  | none =>
    have h0 : ln = 0 := by
      rcases Nat.eq_zero_or_pos ln with h | h
      · exact h
      · have := (hx 0 h).1;cases this
    subst h0
    exact GivesX.padB (cloneT_none lc R) ⟨(none, 0), Nat.le_refl _, by simp [maxLen], fun _ => rfl⟩ rfl rfl
  | some a =>
    exact cloneT_some ts a ln lc LB LO R hn hx
end Go.Proofs.YtehbmooelcjfoaaDoor
