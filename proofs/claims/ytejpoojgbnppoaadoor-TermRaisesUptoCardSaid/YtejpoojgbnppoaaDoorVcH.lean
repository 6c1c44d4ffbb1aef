import Derived.Test.YtejpoojgbnppoaaDoorVcG
/- Vc, part H: a drawn region's condition, as the kernel computes it. -/
set_option linter.unusedVariables false
set_option linter.unusedSimpArgs false
namespace Vc
open Go

def nth : List Nat → Nat → Nat
  | [], _ => 0
  | x :: _, 0 => x
  | _ :: l, n + 1 => nth l n

def orE (acc : List Nat) : List Edge → Nat → Nat
  | [], m => m
  | e :: es, m => match Region.binds .any e with
    | true => orE acc es (m ||| 2 ^ e.on ||| nth acc e.on)
    | false => orE acc es m

def masks : List Oper → List Nat → List Nat
  | [], acc => acc
  | o :: l, acc => masks l (acc ++ [orE acc o.after.toList 0])

def backB : Nat → List Oper → Bool
  | _, [] => true
  | i, o :: l => match go i o.after.toList with
    | true => backB (i + 1) l
    | false => false
  where
  go (i : Nat) : List Edge → Bool
    | [] => true
    | e :: es => match Region.binds .any e with
      | true => match Nat.ble (e.on + 1) i with
        | true => go i es
        | false => false
      | false => go i es

def noSel : List Oper → Bool
  | [] => true
  | o :: l => match o.op with
    | .select .. => false
    | _ => noSel l

def itms : Nat → List Oper → List (Option Hint) → List Itm
  | i, o :: l, h :: hs => (i, o, h) :: itms (i + 1) l hs
  | _, _, _ => []

def pairOK (all : Array Oper) (ms : List Nat) (b : Itm) : List Itm → Bool
  | [] => true
  | a :: l => match (nth ms b.1).testBit a.1 with
    | true => pairOK all ms b l
    | false => match indB all a b with
      | true => pairOK all ms b l
      | false => false

def pairsOK (all : Array Oper) (ms : List Nat) : List Itm → List Itm → Bool
  | _, [] => true
  | acc, b :: l => match pairOK all ms b acc with
    | true => pairsOK all ms (b :: acc) l
    | false => false

def drawOK (all : Array Oper) (hs : List (Option Hint)) : Bool :=
  match noSel all.toList, backB 0 all.toList, Nat.beq all.toList.length hs.length with
  | true, true, true => pairsOK all (masks all.toList []) [] (itms 0 all.toList hs)
  | _, _, _ => false

theorem nth_append : ∀ (l : List Nat) (x j : Nat), nth (l ++ [x]) j = if j = l.length then x else nth l j
  | [], x, 0 => by simp [nth]
  | [], x, j + 1 => by simp [nth]
  | a :: l, x, 0 => by simp [nth]
  | a :: l, x, j + 1 => by simp [nth, nth_append l x j]

theorem nth_out : ∀ (l : List Nat) (j : Nat), l.length ≤ j → nth l j = 0
  | [], j, _ => by cases j <;> rfl
  | a :: l, 0, h => by simp at h
  | a :: l, j + 1, h => by simp at h; simp [nth, nth_out l j h]

section
variable {all : Array Oper}

/-- What the masks told so far are worth. -/
def mInv (all : Array Oper) (acc : List Nat) : Prop :=
  ∀ (S : Nat → Prop), (∀ i o, all[i]? = some o → S i → ∀ e ∈ o.after, Region.binds .any e = true → S e.on) →
    ∀ j, j < acc.length → ∀ o, all[j]? = some o → (∀ e ∈ o.after, Region.binds .any e = true → S e.on) → ∀ i, (nth acc j).testBit i = true → S i

theorem orE_bits {acc : List Nat} (hacc : mInv all acc) (hlen : acc.length ≤ all.size) {S : Nat → Prop}
    (hS : ∀ i o, all[i]? = some o → S i → ∀ e ∈ o.after, Region.binds .any e = true → S e.on) :
    ∀ (es : List Edge) (m : Nat), (∀ e ∈ es, Region.binds .any e = true → S e.on) → (∀ i, m.testBit i = true → S i) → ∀ i, (orE acc es m).testBit i = true → S i
  | [], m, he, hm, i, h => hm i h
  | e :: es, m, he, hm, i, h => by
    simp only [orE] at h
    split at h
    · rename_i hb
      have hon := he e (List.mem_cons_self ..) hb
      refine orE_bits hacc hlen hS es _ (fun e' h' => he e' (List.mem_cons_of_mem _ h')) (fun i hi => ?_) i h
      simp only [Nat.testBit_or, Bool.or_eq_true] at hi
      rcases hi with (hi | hi) | hi
      · exact hm i hi
      · rw [Nat.testBit_two_pow] at hi
        simp at hi
        exact hi ▸ hon
      · rcases Nat.lt_or_ge e.on acc.length with hl | hl
        · have hlt : e.on < all.size := by omega
          have ho : all[e.on]? = some all[e.on] := Array.getElem?_eq_getElem hlt
          exact hacc S hS e.on hl _ ho (hS e.on _ ho hon) i hi
        · rw [nth_out _ _ hl] at hi; simp at hi
    · exact orE_bits hacc hlen hS es m (fun e' h' => he e' (List.mem_cons_of_mem _ h')) hm i h

theorem masks_inv : ∀ (l : List Oper) (acc : List Nat), (∀ k o, l[k]? = some o → all[acc.length + k]? = some o) → acc.length + l.length ≤ all.size → mInv all acc → mInv all (masks l acc)
  | [], acc, _, _, h => h
  | o :: l, acc, hl, hlen, h => by
    simp only [masks]
    simp at hlen
    refine masks_inv l _ (fun k o' hk => ?_) (by simp; omega) ?_
    · have := hl (k + 1) o' (by simpa using hk)
      simp only [List.length_append, List.length_cons, List.length_nil]
      rw [show acc.length + (0 + 1) + k = acc.length + (k + 1) by omega]
      exact this
    · intro S hS j hj o' ho' he i hi
      rw [nth_append] at hi
      split at hi
      · rename_i hj'
        subst hj'
        have h0 := hl 0 o (by simp)
        simp only [Nat.add_zero] at h0
        rw [h0] at ho'; cases ho'
        exact orE_bits h (by omega) hS o.after.toList 0 (fun e h' hb => he e (by simpa using h') hb) (fun i h' => by simp at h') i hi
      · rename_i hj'
        simp at hj
        exact h S hS j (by omega) o' ho' he i hi

theorem masks_ahead : isAhead all fun j i => (nth (masks all.toList []) j).testBit i = true := by
  intro S hS j o ho he i hi
  have hlen : ∀ (l : List Oper) (acc : List Nat), (masks l acc).length = acc.length + l.length := by
    intro l
    induction l with
    | nil => intro acc; simp [masks]
    | cons o l ih => intro acc; simp [masks, ih]; omega
  have hj : j < all.size := by
    rcases Nat.lt_or_ge j all.size with h | h
    · exact h
    · simp [Array.getElem?_eq_none h] at ho
  exact masks_inv all.toList [] (fun k o h => by simpa using h) (by simp) (fun _ _ j hj => by simp at hj) S hS j (by rw [hlen]; simpa using hj) o ho he i hi

theorem noSel_spec : ∀ {l : List Oper}, noSel l = true → ∀ o ∈ l, ∀ cs b, o.op ≠ .select cs b
  | [], _, o, ho => by cases ho
  | x :: l, h, o, ho => by
    simp only [noSel] at h
    split at h
    · cases h
    · rename_i hne
      cases ho with
      | head => exact fun cs b he => hne cs b he
      | tail _ hm => exact noSel_spec h o hm

theorem noSelect_of (h : noSel all.toList = true) : Region.noSelect all = true := by
  unfold Region.noSelect
  rw [Array.all_eq_true_iff_forall_mem]
  intro o ho
  have := noSel_spec h o (by simpa using ho)
  split
  · rename_i cs b he; exact (this cs b he).elim
  · rfl

theorem back_go {i : Nat} : ∀ {es : List Edge}, backB.go i es = true → ∀ e ∈ es, Region.binds .any e = true → e.on < i
  | [], _, e, he, _ => by cases he
  | x :: es, h, e, he, hb => by
    simp only [backB.go] at h
    split at h
    · split at h
      · rename_i h2
        cases he with
        | head => have := Nat.le_of_ble_eq_true h2; omega
        | tail _ hm => exact back_go h e hm hb
      · cases h
    · rename_i h1
      cases he with
      | head => rw [hb] at h1; cases h1
      | tail _ hm => exact back_go h e hm hb

theorem backB_spec : ∀ {l : List Oper} {i : Nat}, backB i l = true → ∀ k o, l[k]? = some o → ∀ e ∈ o.after, Region.binds .any e = true → e.on < i + k
  | [], i, _, k, o, hk, _, _, _ => by simp at hk
  | x :: l, i, h, 0, o, hk, e, he, hb => by
    simp only [backB] at h
    split at h
    · rename_i h1
      simp at hk; subst hk
      exact back_go h1 e (by simpa using he) hb
    · cases h
  | x :: l, i, h, k + 1, o, hk, e, he, hb => by
    simp only [backB] at h
    split at h
    · have := backB_spec h k o (by simpa using hk) e he hb
      omega
    · cases h

theorem itms_spec : ∀ (i : Nat) (l : List Oper) (hs : List (Option Hint)) (hl : l.length = hs.length),
    (itms i l hs).length = l.length ∧ (∀ a ∈ itms i l hs, i ≤ a.1 ∧ l[a.1 - i]? = some a.2.1) ∧ (itms i l hs).Pairwise (fun a b => a.1 < b.1) ∧ (∀ k, k < l.length → ∃ a ∈ itms i l hs, a.1 = i + k)
  | i, [], [], _ => by simp [itms]
  | i, [], _ :: _, h => by simp at h
  | i, _ :: _, [], h => by simp at h
  | i, o :: l, h :: hs, hl => by
    obtain ⟨h1, h2, h3, h4⟩ := itms_spec (i + 1) l hs (by simpa using hl)
    simp only [itms]
    refine ⟨by simp [h1], ?_, ?_, ?_⟩
    · intro a ha
      cases ha with
      | head => simp
      | tail _ hm =>
        obtain ⟨q1, q2⟩ := h2 a hm
        refine ⟨by omega, ?_⟩
        rw [show a.1 - i = (a.1 - (i + 1)) + 1 by omega]
        simpa using q2
    · refine List.pairwise_cons.2 ⟨fun a ha => ?_, h3⟩
      have := (h2 a ha).1
      show i < a.1
      omega
    · intro k hk
      cases k with
      | zero => exact ⟨(i, o, h), List.mem_cons_self .., rfl⟩
      | succ k =>
        obtain ⟨a, q1, q2⟩ := h4 k (by simpa using hk)
        exact ⟨a, List.mem_cons_of_mem _ q1, by omega⟩

theorem pairOK_spec {ms : List Nat} {b : Itm} : ∀ {l : List Itm}, pairOK all ms b l = true → ∀ a ∈ l, (nth ms b.1).testBit a.1 = true ∨ Ind all a b
  | [], _, a, ha => by cases ha
  | x :: l, h, a, ha => by
    simp only [pairOK] at h
    split at h
    · rename_i h1
      cases ha with
      | head => exact .inl h1
      | tail _ hm => exact pairOK_spec h a hm
    · split at h
      · rename_i h2
        cases ha with
        | head => exact .inr (indB_spec h2)
        | tail _ hm => exact pairOK_spec h a hm
      · cases h

theorem pairsOK_spec {ms : List Nat} : ∀ {l acc : List Itm}, pairsOK all ms acc l = true → l.Pairwise (fun a b => (nth ms b.1).testBit a.1 = true ∨ Ind all a b) ∧
      ∀ a ∈ acc, ∀ b ∈ l, (nth ms b.1).testBit a.1 = true ∨ Ind all a b
  | [], acc, _ => ⟨List.Pairwise.nil, fun _ _ _ h => by cases h⟩
  | b :: l, acc, h => by
    simp only [pairsOK] at h
    split at h
    · rename_i h1
      obtain ⟨h2, h3⟩ := pairsOK_spec h
      refine ⟨List.pairwise_cons.2 ⟨fun c hc => h3 b (List.mem_cons_self ..) c hc, h2⟩, fun a ha c hc => ?_⟩
      cases hc with
      | head => exact pairOK_spec h1 a ha
      | tail _ hm => exact h3 a (List.mem_cons_of_mem _ ha) c hm
    · cases h

variable (P : Program)

def okE : Hint → Bool
  | .dfr => false
  | _ => true

def wopsD (all : Array Oper) : List Oper → List (Option Hint) → St → RO → (St → RO → Prop) → Prop
  | [], [], s, R, k => k s R
  | o :: l, none :: hs, s, R, k => match gd all s.tm o with
    | some false => wopsD all l hs ⟨put s.tm o.dst undef, s.df, s.hp⟩ R k
    | _ => False
  | o :: l, some h :: hs, s, R, k => match gd all s.tm o, okE h with
    | some true, true => (eff P o s R h).run s R o.dst (fun s' R' => wopsD all l hs s' R' k) (fun _ _ _ => False)
    | _, _ => False
  | _, _, _, _, _ => False

variable {P}

theorem toG_of_run {o : Oper} {s : St} {R : RO} {h : Hint} {k : St → RO → Prop} (hh : okE h = true) (hr : (eff P o s R h).run s R o.dst k (fun _ _ _ => False)) :
    ∃ ge, (eff P o s R h).toG = some ge := by
  generalize he : eff P o s R h = E at hr
  cases E with
  | no => exact hr.elim
  | pan v => exact hr.elim
  | panc p v u => exact hr.2.elim
  | dfr d =>
    exfalso
    cases h with
    | dfr => simp [okE] at hh
    | d => simp only [eff, effD] at he; (repeat' split at he) <;> cases he
    | db b => simp only [eff, effDb] at he; (repeat' split at he) <;> cases he
    | cv v => simp only [eff, effCv] at he; cases he
    | pan => simp only [eff, effPan] at he; (repeat' split at he) <;> cases he
    | nw => simp only [eff, effNw] at he; (repeat' split at he) <;> cases he
    | dv => simp only [eff, effDv] at he; (repeat' split at he) <;> cases he
    | sh => simp only [eff, effSh] at he; (repeat' split at he) <;> cases he
    | cat => simp only [eff, effCat] at he; (repeat' split at he) <;> cases he
    | eqs => simp only [eff, effEq] at he; (repeat' split at he) <;> cases he
    | ix => simp only [eff, effIx] at he; (repeat' split at he) <;> cases he
    | ib B O => simp only [eff, effIb] at he; (repeat' split at he) <;> cases he
    | pr fp nn X q g => simp only [eff, effPr] at he; (repeat' split at he) <;> cases he
    | pr0 fp nn v B => simp only [eff, effPr0] at he; (repeat' split at he) <;> cases he
    | ia => simp only [eff, effIa] at he; (repeat' split at he) <;> cases he
    | ss => simp only [eff, effSs] at he; (repeat' split at he) <;> cases he
    | sl0 => simp only [eff, effSl0] at he; (repeat' split at he) <;> cases he
    | sl => simp only [eff, effSl] at he; (repeat' split at he) <;> cases he
    | ro cs => simp only [eff, effRo] at he; (repeat' split at he) <;> cases he
    | p i => simp only [eff, effP] at he; (repeat' split at he) <;> cases he
    | q i v => simp only [eff, effQ] at he; (repeat' split at he) <;> cases he
    | sq i cs => simp only [eff, effSq] at he; (repeat' split at he) <;> cases he
    | n i => simp only [eff, effN] at he; (repeat' split at he) <;> cases he
    | call fp nn X g => simp only [eff, effCall] at he; (repeat' split at he) <;> cases he
    | callG fp nn X q g => simp only [eff, effCallG] at he; (repeat' split at he) <;> cases he
    | callR fp r => simp only [eff, effCallR] at he; (repeat' split at he) <;> cases he
    | call0 fp nn r B => simp only [eff, effCall0] at he; (repeat' split at he) <;> cases he
  | val v => exact ⟨_, rfl⟩
  | det p v u => exact ⟨_, rfl⟩
  | new f => exact ⟨_, rfl⟩
  | gen p X g f => exact ⟨_, rfl⟩
  | genG p X q f => exact ⟨_, rfl⟩

theorem wopsD_GD : ∀ (l : List Oper) (hs : List (Option Hint)) (i : Nat) (s : St) (R : RO) (k : St → RO → Prop), wopsD P all l hs s R k → GD P all (itms i l hs) s R k
  | [], [], i, s, R, k, h => h
  | [], _ :: _, i, s, R, k, h => by simp [wopsD] at h
  | _ :: _, [], i, s, R, k, h => by simp [wopsD] at h
  | o :: l, none :: hs, i, s, R, k, h => by
    simp only [wopsD] at h
    split at h
    · rename_i hg
      refine ⟨hg, ?_⟩
      rintro s' G ⟨rfl, rfl⟩
      exact wopsD_GD l hs (i + 1) _ _ k h
    · exact h.elim
  | o :: l, some hh :: hs, i, s, R, k, h => by
    simp only [wopsD] at h
    split at h
    · rename_i hg hk
      obtain ⟨ge, hge⟩ := toG_of_run hk h
      rw [Eff.run_toG hge] at h
      refine ⟨⟨hg, ge, hge, h.1⟩, ?_⟩
      rintro s' G ⟨ge', hge', x, hx, rfl⟩
      rw [hge] at hge'; cases hge'
      exact wopsD_GD l hs (i + 1) _ _ k (h.2 x G hx)
    · exact h.elim

theorem draw_sound {id : Nat} {hs : List (Option Hint)} (hm : P.follows .mixedOrders = true) (hd : drawOK all hs = true) {s : St} {R : RO} {k : St → RO → Prop}
    (h : wopsD P all all.toList hs s R k) : CT P (.region id all true) s R fun e s' G => match e with | .normal => k s' G | _ => False := by
  intro Rx w hR hsat
  unfold drawOK at hd
  split at hd
  · rename_i h1 h2 h3
    have hlen : all.toList.length = hs.length := Nat.eq_of_beq_eq_true h3
    obtain ⟨i1, i2, i3, i4⟩ := itms_spec 0 all.toList hs hlen
    refine wp_region_any hm ?_
    refine wpAny_of (noSelect_of h1) masks_ahead (fun i o ho e he hb => ?_) R Rx k all.size (itms 0 all.toList hs) (by rw [i1]; simp) _ (by simp) (fun i hi => ?_) (fun a ha => ?_) i3
      (pairsOK_spec hd).1 (fun i o ho hl => ?_) s R Rx _ (.refl hR) (hsat.heap rfl ⟨rfl, rfl, rfl⟩) (wopsD_GD _ _ 0 s R k h)
    · have := backB_spec h2 i o (by simpa using ho) e he hb
      omega
    · constructor
      · intro _
        obtain ⟨a, ha, he⟩ := i4 i (by simpa using hi)
        exact ⟨a, ha, by omega⟩
      · intro _
        simp [Array.getD]
    · have := (i2 a ha).2
      simpa using this
    · have hlt : i < all.size := by
        rcases Nat.lt_or_ge i all.size with h | h
        · exact h
        · simp [Array.getElem?_eq_none h] at ho
      simp [Array.getD] at hl
  · cases hd
end
end Vc
