import Derived.Test.YtejpoojgbnppoaaDoorVcF
import Derived.ProofKit
import Derived.SizedLaws
import Derived.Below
import Derived.Carry
/- Vc, part L: a law: whatever the input, it answers true, and the input reads as it did. -/
set_option linter.unusedVariables false
set_option linter.unusedSimpArgs false
namespace Vc
open Go

def memRO (W : World) : RO := ⟨fun b => W.heap[b]?, W.os, W.tape, W.output⟩

theorem sat_memRO (W : World) : Sat W (memRO W) [] :=
  ⟨fun b o h => h, fun i a B h => by simp [Hp.at_nil] at h, fun i a B h => by simp [Hp.at_nil] at h, fun i j a B C h => by simp [Hp.at_nil] at h, rfl, rfl, rfl⟩

theorem below_of {W W' : World} {R' : RO} {H : Hp} (h : (memRO W).le R') (hs : Sat W' R' H) : RowKit.Below W.heap.size W W' := by
  have keep : ∀ k, k < W.heap.size → W'.heap[k]? = W.heap[k]? := fun k hk => by
    have h1 : W.heap[k]? = some W.heap[k] := Array.getElem?_eq_getElem hk
    rw [h1]
    exact hs.ro k _ (h.mem k _ h1)
  refine ⟨hs.os.trans h.os, hs.tape.trans h.tape, hs.out.trans h.out, ?_, keep⟩
  rcases Nat.lt_or_ge W'.heap.size W.heap.size with hl | hl
  · have := keep W'.heap.size hl
    rw [Array.getElem?_eq_getElem hl] at this
    simp at this
  · exact hl

/-! ## What can be read as data: bools, whole numbers, texts, slices, structs, arrays -/

def FitC (P : Program) (R : RO) : Nat → TypeId → List Value → Prop
  | 0, _, _ => False
  | n + 1, t, cs => match P.underlying t with
    | some .bool => ∃ b, cs = [.bool b]
    | some (.int k) => ∃ i, cs = [.int k i] ∧ k.min ≤ i ∧ i ≤ k.max
    | some .string => ∃ s, cs = [.string s] ∧ s.size ≤ maxLen
    | some (.slice e) => ∃ a len cap, cs = [.slice a len cap] ∧ len ≤ cap ∧ cap ≤ maxLen ∧
        ∀ i, i < len → ∃ b off ecs, a = some ⟨b, off, none⟩ ∧ R.cells b (off + i * P.cellsOf e) ecs ∧ ecs.length = P.cellsOf e ∧ FitC P R n e ecs
    | some (.struct fs) => cs.length = P.cellsOf t ∧ ∀ f ∈ fs.toList, FitC P R n f.type ((cs.drop f.offset).take (P.cellsOf f.type))
    | some (.array m e) => cs.length = P.cellsOf t ∧ ∀ i, i < m → FitC P R n e ((cs.drop (i * P.cellsOf e)).take (P.cellsOf e))
    | _ => False

/-- Only such kinds occur in a type. -/
def plainT (P : Program) : Nat → TypeId → Bool
  | 0, _ => false
  | n + 1, t => match P.underlying t with
    | some .bool | some (.int _) | some .string => true
    | some (.slice e) => Nat.blt 0 (P.cellsOf e) && plainT P n e
    | some (.struct fs) => fs.toList.all fun f => plainT P n f.type
    | some (.array _ e) => plainT P n e
    | _ => false

theorem mapM_get {α β : Type} {f : α → Option β} : ∀ {l : List α} {ys : List β}, l.mapM f = some ys → ∀ x ∈ l, ∃ y, f x = some y
  | [], _, _, x, hx => by cases hx
  | a :: l, ys, h, x, hx => by
    rw [List.mapM_cons] at h
    cases ha : f a with
    | none => simp [ha] at h
    | some b =>
      cases hl : l.mapM f with
      | none => simp [ha, hl] at h
      | some bs =>
        cases hx with
        | head => exact ⟨b, ha⟩
        | tail _ hm => exact mapM_get hl x hm

theorem mapM_length {α β : Type} {f : α → Option β} : ∀ {l : List α} {ys : List β}, l.mapM f = some ys → ys.length = l.length ∧ ∀ (i : Nat) x y, l[i]? = some x → ys[i]? = some y → f x = some y
  | [], ys, h => by simp at h; subst h; simp
  | a :: l, ys, h => by
    rw [List.mapM_cons] at h
    cases ha : f a with
    | none => simp [ha] at h
    | some b =>
      cases hl : l.mapM f with
      | none => simp [ha, hl] at h
      | some bs =>
        simp [ha, hl] at h
        subst h
        obtain ⟨h1, h2⟩ := mapM_length hl
        refine ⟨by simp [h1], fun i x y hx hy => ?_⟩
        cases i with
        | zero => simp at hx hy; subst hx; subst hy; exact ha
        | succ i => exact h2 i x y (by simpa using hx) (by simpa using hy)

theorem cells_of {w : World} {base : Nat} {a : Addr} {n : Nat} {cs : List Value} (hn : 0 < n) (h : w.cells? base a n = some cs) :
    a.spot = none ∧ cs.length = n ∧ (memRO w).cells a.block a.off cs := by
  unfold World.cells? at h
  split at h
  · obtain ⟨h1, h2⟩ := mapM_length h
    simp at h1
    have get : ∀ i, i < n → ∃ y, cs[i]? = some y ∧ w.cell? (a.add i) = some y := fun i hi => by
      have hc : i < cs.length := by omega
      exact ⟨cs[i], by simp [hc], h2 i i cs[i] (by simp [hi]) (by simp [hc])⟩
    obtain ⟨y, hy, h3⟩ := get 0 hn
    have h3' : w.cell? a = some y := h3
    unfold World.cell? at h3'
    split at h3'
    · rename_i c t fr hc
      split at h3'
      · cases h3'
      · rename_i hsp
        have hspot : a.spot = none := by
          cases hx : a.spot with
          | none => rfl
          | some k => rw [hx] at hsp; simp at hsp
        refine ⟨hspot, h1, c, t, fr, hc, ?_⟩
        apply List.ext_getElem?
        intro i
        by_cases hi : i < n
        · obtain ⟨y, hy, h4⟩ := get i hi
          have ha : a = ⟨a.block, a.off, none⟩ := by cases a; simp at hspot; subst hspot; rfl
          rw [ha, add_eq] at h4
          simp only [World.cell?, hc, Option.isSome_none, Bool.false_eq_true, if_false] at h4
          rw [hy, List.getElem?_take_of_lt (by omega), List.getElem?_drop]
          simpa using h4
        · rw [List.getElem?_eq_none (by simp; omega), List.getElem?_eq_none (by omega)]
    · cases h3'
  · cases h

theorem fit_of_trod {H : Type} {enc : TypeId × Value → H} {P : Program} {w : World} {spare : Nat → Bool} {held : Bool} : ∀ (k fuel : Nat) (t : TypeId) (cs : List Value) (x : DataW H × List MemPlace),
    plainT P k t = true → DataW.trod enc P w 0 spare held fuel t cs = some x → FitC P (memRO w) k t cs
  | 0, fuel, t, cs, x, hp, h => by simp [plainT] at hp
  | k + 1, 0, t, cs, x, hp, h => by simp [DataW.trod] at h
  | k + 1, fuel + 1, t, cs, x, hp, h => by
    unfold plainT at hp
    unfold FitC
    cases hu : P.underlying t with
    | none => simp [hu] at hp
    | some d =>
      cases d with
      | bool =>
        rcases cs with _ | ⟨v, _ | ⟨u, l⟩⟩ <;> simp [DataW.trod, hu] at h
        cases v <;> simp [hu] at h
        exact ⟨_, rfl⟩
      | int q =>
        rcases cs with _ | ⟨v, _ | ⟨u, l⟩⟩ <;> simp [DataW.trod, hu] at h
        cases v <;> simp [hu] at h
        obtain ⟨⟨rfl, h1⟩, _⟩ := h
        simp [Lit.wf] at h1
        exact ⟨_, rfl, h1.1, h1.2⟩
      | string =>
        rcases cs with _ | ⟨v, _ | ⟨u, l⟩⟩ <;> simp [DataW.trod, hu] at h
        cases v <;> simp [hu] at h
        exact ⟨_, rfl, h.1⟩
      | slice e =>
        simp only [hu, Bool.and_eq_true] at hp
        have hz : 0 < P.cellsOf e := by simpa using hp.1
        rcases cs with _ | ⟨v, _ | ⟨u, l⟩⟩ <;> simp [DataW.trod, hu] at h
        cases v with
        | slice a len cap =>
          cases a with
          | none =>
            cases len <;> cases cap <;> simp at h
            exact ⟨none, 0, 0, rfl, Nat.le_refl _, by simp [maxLen], fun i hi => by omega⟩
          | some a =>
            simp only at h
            split at h
            · rename_i hc
              cases hm : (List.range len).mapM (fun i => (w.cells? 0 (a.add (i * P.cellsOf e)) (P.cellsOf e)).bind (DataW.trod enc P w 0 spare held fuel e)) with
              | none => rw [hm] at h; simp at h
              | some ys =>
                refine ⟨some a, len, cap, rfl, hc.1, hc.2, fun i hi => ?_⟩
                have h0 : a.spot = none := by
                  obtain ⟨y, hy⟩ := mapM_get hm 0 (by simp; omega)
                  rw [Nat.zero_mul, add_zero] at hy
                  cases hq : w.cells? 0 a (P.cellsOf e) with
                  | none => rw [hq] at hy; cases hy
                  | some ecs => exact (cells_of hz hq).1
                have ha : a = ⟨a.block, a.off, none⟩ := by
                  cases a; simp at h0; subst h0; rfl
                obtain ⟨y, hy⟩ := mapM_get hm i (by simpa using hi)
                cases hq : w.cells? 0 (a.add (i * P.cellsOf e)) (P.cellsOf e) with
                | none => rw [hq] at hy; cases hy
                | some ecs =>
                  rw [hq] at hy
                  obtain ⟨_, q2, q3⟩ := cells_of hz hq
                  rw [ha, add_eq] at q3
                  exact ⟨a.block, a.off, ecs, congrArg some ha, q3, q2, fit_of_trod k fuel e ecs y hp.2 hy⟩
            · cases h
        | _ => simp at h
      | struct fs =>
        simp only [hu, List.all_eq_true] at hp
        have h' : (if cs.length = P.cellsOf t then (fs.toList.mapM fun f => DataW.trod enc P w 0 spare held fuel f.type ((cs.drop f.offset).take (P.cellsOf f.type))).map fun xs => (DataW.agg (xs.map (·.1)), xs.flatMap (·.2)) else none) = some x := by
          rw [← h]
          conv => rhs; unfold DataW.trod
          simp only [hu]
        split at h'
        · rename_i hl
          cases hm : fs.toList.mapM (fun f => DataW.trod enc P w 0 spare held fuel f.type ((cs.drop f.offset).take (P.cellsOf f.type))) with
          | none => simp [hm] at h'
          | some ys =>
            refine ⟨hl, fun f hf => ?_⟩
            obtain ⟨y, hy⟩ := mapM_get hm f hf
            exact fit_of_trod k fuel f.type _ y (hp f hf) hy
        · cases h'
      | array m e =>
        simp only [hu] at hp
        have h' : (if cs.length = P.cellsOf t then ((List.range m).mapM fun i => DataW.trod enc P w 0 spare held fuel e ((cs.drop (i * P.cellsOf e)).take (P.cellsOf e))).map fun xs => (DataW.agg (xs.map (·.1)), xs.flatMap (·.2)) else none) = some x := by
          rw [← h]
          conv => rhs; unfold DataW.trod
          simp only [hu]
        split at h'
        · rename_i hl
          cases hm : (List.range m).mapM (fun i => DataW.trod enc P w 0 spare held fuel e ((cs.drop (i * P.cellsOf e)).take (P.cellsOf e))) with
          | none => simp [hm] at h'
          | some ys =>
            refine ⟨hl, fun i hi => ?_⟩
            obtain ⟨y, hy⟩ := mapM_get hm i (by simpa using hi)
            exact fit_of_trod k fuel e _ y hp hy
        · cases h'
      | _ => simp [hu] at hp

/-- A value, by its type: one cell, or a struct's, or an array's. -/
def FitV (P : Program) (R : RO) (k : Nat) (t : TypeId) (v : Value) : Prop :=
  match P.underlying t with
  | some (.struct _) | some (.array _ _) => ∃ cs, v = .agg cs ∧ FitC P R k t cs.toList
  | _ => FitC P R k t [v]

def FitAll (P : Program) (R : RO) (k : Nat) : List TypeId → List Value → Prop
  | [], vs => vs = []
  | t :: ts, vs => ∃ v ws, vs = v :: ws ∧ FitV P R k t v ∧ FitAll P R k ts ws

theorem fitV_of {H : Type} {enc : TypeId × Value → H} {P : Program} {w : World} {base : Nat} {k : Nat} {t : TypeId} {v : Value} {d : DataW H} {ps : List MemPlace} {spare : Nat → Bool} {held : Bool}
    (hp : plainT P k t = true) (hok : Value.okWide P w .any base t v) (h : DataW.Trod enc P w 0 spare held t v d ps) : FitV P (memRO w) k t v := by
  obtain ⟨fuel, h⟩ := h
  have hf := fit_of_trod k fuel t _ _ hp h
  unfold FitV
  unfold Value.okWide at hok
  cases hu : P.underlying t with
  | none => cases k <;> simp [plainT, hu] at hp
  | some x =>
    have one : (match x with | .struct _ | .array _ _ => False | _ => True) → Cell.okWide P w .any base t v → FitC P (memRO w) k t [v] := by
      intro _ hc
      cases v with
      | agg cs =>
        exfalso
        unfold Cell.okWide at hc
        rw [hu] at hc
        cases x <;> simp [Cell.ok, hu] at hc
      | _ => exact hf
    cases x with
    | struct fs =>
      simp only [hu] at hok ⊢
      obtain ⟨cs, rfl, _⟩ := hok
      exact ⟨cs, rfl, hf⟩
    | array m e =>
      simp only [hu] at hok ⊢
      obtain ⟨cs, rfl, _⟩ := hok
      exact ⟨cs, rfl, hf⟩
    | _ => simp only [hu] at hok ⊢; exact one trivial hok

theorem fitAll_of {H : Type} {enc : TypeId × Value → H} {P : Program} {w : World} {base : Nat} {k : Nat} : ∀ (ts : List TypeId) (vs : List Value) (ds : List (DataW H)) (ps : List MemPlace),
    ts.all (plainT P k) = true → (∀ (j : Nat) t v, ts[j]? = some t → vs[j]? = some v → Value.okWide P w .any base t v) →
    DataW.TrodAll enc P w 0 (fun _ => true) true ts vs ds ps → FitAll P (memRO w) k ts vs
  | [], [], [], ps, _, _, _ => rfl
  | [], [], _ :: _, ps, _, _, h => by simp [DataW.TrodAll] at h
  | [], _ :: _, _, ps, _, _, h => by simp [DataW.TrodAll] at h
  | t :: ts, [], _, ps, _, _, h => by simp [DataW.TrodAll] at h
  | t :: ts, v :: vs, [], ps, _, _, h => by simp [DataW.TrodAll] at h
  | t :: ts, v :: vs, d :: ds, ps, hp, hok, h => by
    obtain ⟨p, q, h1, h2, _⟩ := h
    simp only [List.all_cons, Bool.and_eq_true] at hp
    exact ⟨v, vs, rfl, fitV_of hp.1 (hok 0 t v rfl rfl) h1, fitAll_of ts vs ds q hp.2 (fun j t' v' ht hv => hok (j + 1) t' v' (by simpa using ht) (by simpa using hv)) h2⟩

theorem trodAll_lt {H : Type} {enc : TypeId × Value → H} {P : Program} {w : World} {spare : Nat → Bool} {held : Bool} : ∀ {ts : List TypeId} {vs : List Value} {ds : List (DataW H)} {ps : List MemPlace},
    DataW.TrodAll enc P w 0 spare held ts vs ds ps → ∀ x ∈ ps, x.block < w.heap.size
  | [], [], [], ps, h, x, hx => by simp [DataW.TrodAll] at h; subst h; cases hx
  | [], [], _ :: _, ps, h, x, hx => by simp [DataW.TrodAll] at h
  | [], _ :: _, _, ps, h, x, hx => by simp [DataW.TrodAll] at h
  | t :: ts, [], _, ps, h, x, hx => by simp [DataW.TrodAll] at h
  | t :: ts, v :: vs, [], ps, h, x, hx => by simp [DataW.TrodAll] at h
  | t :: ts, v :: vs, d :: ds, ps, h, x, hx => by
    obtain ⟨p, q, ⟨m, h1⟩, h2, rfl⟩ := h
    rcases List.mem_append.1 hx with hx | hx
    · exact DataW.trod_lt m _ _ _ h1 x hx
    · exact trodAll_lt h2 x hx

theorem trodAll_back {H : Type} {enc : TypeId × Value → H} {P : Program} (hl : laidOutB P = true) {w w' : World} (hb : RowKit.Below w.heap.size w w') : ∀ {ts : List TypeId} {vs : List Value} {ds : List (DataW H)} {ps : List MemPlace},
    (ts.all fun t => P.readableRec t && decide (t < P.types.size)) = true → DataW.TrodAll enc P w 0 (fun _ => true) true ts vs ds ps →
    DataW.TrodAll enc P w' 0 (fun b => decide (b < w.heap.size)) true ts vs ds ps
  | [], [], [], ps, _, h => h
  | [], [], _ :: _, ps, _, h => by simp [DataW.TrodAll] at h
  | [], _ :: _, _, ps, _, h => by simp [DataW.TrodAll] at h
  | t :: ts, [], _, ps, _, h => by simp [DataW.TrodAll] at h
  | t :: ts, v :: vs, [], ps, _, h => by simp [DataW.TrodAll] at h
  | t :: ts, v :: vs, d :: ds, ps, hr, h => by
    obtain ⟨p, q, h1, h2, rfl⟩ := h
    simp only [List.all_cons, Bool.and_eq_true, decide_eq_true_eq] at hr
    have hlt : ∀ x ∈ p, x.block < w.heap.size := by obtain ⟨m, hm⟩ := h1; exact DataW.trod_lt m _ _ _ hm
    exact ⟨p, q, RowKit.Below.trod hl hr.1.1 hr.1.2 h1 hb hlt, trodAll_back hl hb (by simpa using hr.2) h2, rfl⟩

/-! ## For all that fits, told as the kernel computes it -/

/-- What lies in a slice that came in: each of its elements fits. -/
def Lies (P : Program) (R : RO) (e : TypeId) (a : Option Addr) (len : Nat) : Prop :=
  ∀ i, i < len → ∃ b off ecs k, a = some ⟨b, off, none⟩ ∧ R.cells b (off + i * P.cellsOf e) ecs ∧ ecs.length = P.cellsOf e ∧ FitC P R k e ecs

mutual
def AllC (P : Program) (R : RO) : Nat → TypeId → (List Value → Prop) → Prop
  | 0, _, _ => False
  | n + 1, t, K => match P.underlying t with
    | some .bool => ∀ b : Bool, K [.bool b]
    | some (.int q) => ∀ i : Int, q.min ≤ i → i ≤ q.max → K [.int q i]
    | some .string => ∀ s : ByteArray, s.size ≤ maxLen → K [.string s]
    | some (.slice e) => ∀ (a : Option Addr) (len cap : Nat), len ≤ cap → cap ≤ maxLen → Lies P R e a len → K [.slice a len cap]
    | some (.struct fs) => AllF P R n fs.toList 0 (P.cellsOf t) [] K
    | some (.array m e) => ∀ cs : List Value, cs.length = P.cellsOf t → (∀ i, i < m → ∃ k, FitC P R k e ((cs.drop (i * P.cellsOf e)).take (P.cellsOf e))) → K cs
    | _ => False
def AllF (P : Program) (R : RO) : Nat → List Field → Nat → Nat → List Value → (List Value → Prop) → Prop
  | 0, _, _, _, _, _ => False
  | _ + 1, [], off, total, acc, K => match Nat.beq off total with
    | true => K acc
    | false => False
  | n + 1, f :: fs, off, total, acc, K => match Nat.beq f.offset off with
    | true => AllC P R n f.type fun cs => AllF P R n fs (off + P.cellsOf f.type) total (acc ++ cs) K
    | false => False
end

theorem allC_sound {P : Program} {R : RO} : ∀ (n : Nat),
    (∀ (m : Nat) (t : TypeId) (K : List Value → Prop) (cs : List Value), AllC P R n t K → FitC P R m t cs → K cs) ∧
    (∀ (m : Nat) (fs : List Field) (off total : Nat) (acc cs : List Value) (K : List Value → Prop), AllF P R n fs off total acc K → acc = cs.take off → cs.length = total →
      (∀ f ∈ fs, FitC P R m f.type ((cs.drop f.offset).take (P.cellsOf f.type))) → K cs) := by
  intro n
  induction n with
  | zero => exact ⟨fun m t K cs h => by simp [AllC] at h, fun m fs off total acc cs K h => by simp [AllF] at h⟩
  | succ n ih =>
    constructor
    · intro m t K cs h hf
      cases m with
      | zero => exact hf.elim
      | succ m =>
        unfold FitC at hf
        unfold AllC at h
        cases hu : P.underlying t with
        | none => simp [hu] at hf
        | some d =>
          cases d with
          | bool => simp only [hu] at h hf; obtain ⟨b, rfl⟩ := hf; exact h b
          | int q => simp only [hu] at h hf; obtain ⟨i, rfl, h1, h2⟩ := hf; exact h i h1 h2
          | string => simp only [hu] at h hf; obtain ⟨s, rfl, h1⟩ := hf; exact h s h1
          | slice e =>
            simp only [hu] at h hf
            obtain ⟨a, len, cap, rfl, h1, h2, h3⟩ := hf
            refine h a len cap h1 h2 fun i hi => ?_
            obtain ⟨b, off, ecs, q1, q2, q3, q4⟩ := h3 i hi
            exact ⟨b, off, ecs, m, q1, q2, q3, q4⟩
          | struct fs =>
            simp only [hu] at h hf
            exact ih.2 m fs.toList 0 (P.cellsOf t) [] cs K h (by simp) hf.1 hf.2
          | array l e =>
            simp only [hu] at h hf
            exact h cs hf.1 fun i hi => ⟨m, hf.2 i hi⟩
          | _ => simp [hu] at hf
    · intro m fs off total acc cs K h hacc hlen hf
      cases fs with
      | nil =>
        simp only [AllF] at h
        split at h
        · rename_i hb
          have := Nat.eq_of_beq_eq_true hb
          rw [hacc, List.take_of_length_le (by omega)] at h
          exact h
        · exact h.elim
      | cons f fs =>
        simp only [AllF] at h
        split at h
        · rename_i hb
          have he := Nat.eq_of_beq_eq_true hb
          have h1 := ih.1 m f.type _ _ h (hf f (List.mem_cons_self ..))
          refine ih.2 m fs _ total _ cs K h1 ?_ hlen (fun f' hf' => hf f' (List.mem_cons_of_mem _ hf'))
          rw [hacc, he, List.take_add]
        · exact h.elim

def AllV (P : Program) (R : RO) (n : Nat) (t : TypeId) (K : Value → Prop) : Prop :=
  match P.underlying t with
  | some (.struct _) | some (.array _ _) => AllC P R n t fun cs => K (.agg cs.toArray)
  | _ => AllC P R n t fun cs => match cs with
    | [v] => K v
    | _ => False

def AllA (P : Program) (R : RO) (n : Nat) : List TypeId → List Value → (List Value → Prop) → Prop
  | [], acc, K => K acc
  | t :: ts, acc, K => AllV P R n t fun v => AllA P R n ts (acc ++ [v]) K

theorem allV_sound {P : Program} {R : RO} {n k : Nat} {t : TypeId} {K : Value → Prop} {v : Value} (h : AllV P R n t K) (hf : FitV P R k t v) : K v := by
  unfold AllV at h
  unfold FitV at hf
  cases hu : P.underlying t with
  | none => cases n <;> simp [hu, AllC] at h
  | some d =>
    cases d with
    | struct fs =>
      simp only [hu] at h hf
      obtain ⟨cs, rfl, hf⟩ := hf
      simpa using (allC_sound n).1 k t _ _ h hf
    | array m e =>
      simp only [hu] at h hf
      obtain ⟨cs, rfl, hf⟩ := hf
      simpa using (allC_sound n).1 k t _ _ h hf
    | _ => simp only [hu] at h hf; exact (allC_sound n).1 k t _ _ h hf

theorem allA_sound {P : Program} {R : RO} {n k : Nat} : ∀ {ts : List TypeId} {vs acc : List Value} {K : List Value → Prop}, AllA P R n ts acc K → FitAll P R k ts vs → K (acc ++ vs)
  | [], vs, acc, K, h, hf => by cases (show vs = [] from hf); simpa [AllA] using h
  | t :: ts, vs, acc, K, h, hf => by
    obtain ⟨v, ws, rfl, h1, h2⟩ := hf
    have := allA_sound (allV_sound h h1) h2
    simpa using this

theorem fitAll_args {P : Program} {R : RO} {n k : Nat} {ts : List TypeId} {vs : List Value} {K : List Value → Prop} {E : Prop} (he : AllA P R n ts [] K = E) (h : E) (hf : FitAll P R k ts vs) : K vs := by
  have := allA_sound (he ▸ h : AllA P R n ts [] K) hf
  simpa using this

/-- What a slice that came in holds, told by a function. -/
theorem Lies.fn {P : Program} {R : RO} {e : TypeId} {a : Option Addr} {len : Nat} {α : Type} [Inhabited α] (h : Lies P R e a len) (m : Nat) (f : α → List Value) (q : α → Prop) {E : Prop} {z : Nat}
    (hz : P.cellsOf e = z) (he : AllC P R m e (fun cs => ∃ x : α, cs = f x ∧ q x) = E) (hE : E) :
    ∃ (B O : Nat) (xs : Nat → α), ∀ i, i < len → a = some ⟨B, O, none⟩ ∧ R.cells B (O + i * z) (f (xs i)) ∧ q (xs i) := by
  subst hz
  rw [← he] at hE
  have key : ∀ i, i < len → ∃ (b off : Nat) (x : α), a = some ⟨b, off, none⟩ ∧ R.cells b (off + i * P.cellsOf e) (f x) ∧ q x := by
    intro i hi
    obtain ⟨b, off, ecs, k, h1, h2, h3, h4⟩ := h i hi
    obtain ⟨x, rfl, hq⟩ := (allC_sound m).1 k e _ ecs hE h4
    exact ⟨b, off, x, h1, h2, hq⟩
  cases a with
  | none =>
    refine ⟨0, 0, fun _ => default, fun i hi => ?_⟩
    obtain ⟨b, off, x, h1, _⟩ := key i hi
    cases h1
  | some ad =>
    have key2 : ∀ i, i < len → ∃ x : α, some ad = some ⟨ad.block, ad.off, none⟩ ∧ R.cells ad.block (ad.off + i * P.cellsOf e) (f x) ∧ q x := by
      intro i hi
      obtain ⟨b, off, x, h1, h2, h3⟩ := key i hi
      cases h1
      exact ⟨x, rfl, h2, h3⟩
    refine ⟨ad.block, ad.off, fun i => if hi : i < len then (key2 i hi).choose else default, fun i hi => ?_⟩
    have hs := (key2 i hi).choose_spec
    simp only [dif_pos hi]
    exact hs

/-- A law's row, out of what its call does. -/
theorem law_lifted {C : Checked} {os : Os} {f : FuncId} {fn : Func} {s : ChangeSpec} {H : Type} {enc : TypeId × Value → H} {conds : List PathCond} {tb : TypeId} (k : Nat)
    (own : ownKnob C.prog.godebug = none) (started : os.Started) (noInit : C.prog.inits.idxOf? f = none) (hfn : C.prog.funcs[f]? = some fn)
    (witness : ∃ (w : World) (tape : Tape) (i : Input), w.os = os ∧ (w.forCall tape i).Shaped C.prog ∧ i.vars = [] ∧ Input.okWide C.prog (w.forCall tape i) .any w.heap.size f i ∧
      s.pre6 enc C.prog fn conds false (w.forCall tape i).memory i.args ∧ Assume.holds {} C.prog (lone (Frame.enter C.prog f i.args .normal) [] (w.forCall tape i)))
    (hl : laidOutB C.prog = true) (hpl : fn.params.toList.all (plainT C.prog k) = true) (hrd : (fn.params.toList.all fun t => C.prog.readableRec t && decide (t < C.prog.types.size)) = true)
    (hvars : s.vars = []) (hres : fn.resultTypes = #[tb]) (hb : C.prog.underlying tb = some .bool) (hspec : ∀ ds : List (DataW H), ds.length = fn.params.size → s.fn H ds = ({ results := [.lit (.bool true)], args := ds } : Left H))
    (hdoes : ∀ (R : RO) (args : List Value), FitAll C.prog R k fn.params.toList args → Gives C.prog f args R [] (.ret (.bool true)) []) :
    ReturnsInHanded {} C os f .any (s.pre6 enc C.prog fn conds false) (s.post enc C.prog fn false true false false) := by
  refine returnsInHanded_of_change_sized own started noInit hfn witness ?_
  intro W base args ds gs before hval hW hcnd hsz _
  have hW' := hW
  obtain ⟨p, q, hA, hV, rfl, hfz, hnd⟩ := hW
  have hgs : gs = [] ∧ q = [] := by
    rw [hvars] at hV
    cases gs with
    | nil => exact ⟨rfl, hV⟩
    | cons _ _ => simp [DataW.TrodVars] at hV
  obtain ⟨rfl, rfl⟩ := hgs
  have hfit := fitAll_of fn.params.toList args.toList ds p hpl (fun j t v ht hv => hval j t v (by simpa using ht) (by simpa using hv)) hA
  have hd := hdoes (memRO W) args.toList hfit (memRO W) W (RO.le_refl _) (sat_memRO W)
  have hlen : ds.length = fn.params.size := by
    have key : ∀ (ts : List TypeId) (vs : List Value) (ds : List (DataW H)) (ps : List MemPlace), DataW.TrodAll enc C.prog W 0 (fun _ => true) true ts vs ds ps → ds.length = ts.length := by
      intro ts
      induction ts with
      | nil => intro vs ds ps h; cases vs <;> cases ds <;> simp [DataW.TrodAll] at h <;> rfl
      | cons t ts ih =>
        intro vs ds ps h
        cases vs <;> cases ds <;> simp only [DataW.TrodAll] at h
        obtain ⟨p, q, _, h2, _⟩ := h
        simp [ih _ _ _ h2]
    simpa using key _ _ _ _ hA
  refine hd.mono fun e W' ⟨o, G, H', Rx', he, ⟨hG, ho, hH⟩, hx, hs'⟩ => ?_
  subst ho
  have bel := below_of hx.lex hs'
  refine ⟨_, he, ds, [], p, [], p, [], by simpa using hW', ?_, ?_, ?_, ?_, fun h => by cases h⟩
  · rw [List.append_nil, hspec ds hlen, hres]
    exact ChangeShapes.trodAll_mk1 (RowKit.shut_bool hb _)
  · rw [List.append_nil, hspec ds hlen]
    exact trodAll_back hl bel hrd hA
  · rw [List.append_nil, hspec ds hlen, hvars]
    rfl
  · exact bel.frame _

theorem len0 {α : Type} {l : List α} (h : l.length = 0) : l = [] := List.length_eq_zero_iff.1 h
theorem len1 {α : Type} {l : List α} (h : l.length = 1) : ∃ a, l = [a] := by
  rcases l with _ | ⟨a, l⟩ <;> simp at h
  exact ⟨a, by rw [h]⟩
theorem len2 {α : Type} {l : List α} (h : l.length = 2) : ∃ a b, l = [a, b] := by
  rcases l with _ | ⟨a, l⟩ <;> simp at h
  obtain ⟨b, rfl⟩ := len1 h; exact ⟨a, b, rfl⟩
theorem len3 {α : Type} {l : List α} (h : l.length = 3) : ∃ a b c, l = [a, b, c] := by
  rcases l with _ | ⟨a, l⟩ <;> simp at h
  obtain ⟨b, c, rfl⟩ := len2 h; exact ⟨a, b, c, rfl⟩
theorem len4 {α : Type} {l : List α} (h : l.length = 4) : ∃ a b c d, l = [a, b, c, d] := by
  rcases l with _ | ⟨a, l⟩ <;> simp at h
  obtain ⟨b, c, d, rfl⟩ := len3 h; exact ⟨a, b, c, d, rfl⟩
theorem len5 {α : Type} {l : List α} (h : l.length = 5) : ∃ a b c d e, l = [a, b, c, d, e] := by
  rcases l with _ | ⟨a, l⟩ <;> simp at h
  obtain ⟨b, c, d, e, rfl⟩ := len4 h; exact ⟨a, b, c, d, e, rfl⟩
end Vc
