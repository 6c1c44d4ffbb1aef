import Derived.Test.YtlfhlbhgmgkbpaaGreatVcF
/- Vc, part X: a drawn region in which an operation panics, behind all that comes ahead of it. -/
set_option linter.unusedVariables false
set_option linter.unusedSimpArgs false
namespace Vc
open Go

section
variable {P : Program}

def PanOk (P : Program) (all : Array Oper) (o : Oper) (h : Hint) (K : Value → St → RO → Prop) (s : St) (R : RO) : Prop :=
  gd all s.tm o = some true ∧ (eff P o s R h).run s R o.dst (fun _ _ => False) K

theorem ahead_lt {all : Array Oper} {ahead : Nat → Nat → Prop} (hah : isAhead all ahead) (hback : ∀ i o, all[i]? = some o → ∀ e ∈ o.after, Region.binds .any e = true → e.on < i)
    {j i : Nat} {o : Oper} (ho : all[j]? = some o) (h : ahead j i) : i < j :=
  hah (fun i => i < j) (fun i o' ho' hi e he hb => Nat.lt_trans (hback i o' ho' e he hb) hi) j o ho (fun e he hb => hback j o ho e he hb) i h

theorem upOk_nil {u : Upd} (h : upOk [] u) : u = [] := by
  cases u with
  | nil => rfl
  | cons x u => obtain ⟨n, b⟩ := x; exact absurd (h n b (List.mem_cons_self ..)) (by simp)

theorem run_skip {E : Eff} {s : St} {R : RO} {dst d : Option Tmp} {x : Value} {K : Value → St → RO → Prop} (hK : ∀ v x s R, K v (s.set d x []) R → K v s R) (h : E.run (s.set d x []) R dst (fun _ _ => False) K) : E.run s R dst (fun _ _ => False) K := by
  cases E with
  | pan v => exact hK v x s R h
  | panc p v u => exact ⟨h.1, hK v x _ R h.2⟩
  | no => exact h
  | val v => exact h
  | det p v u => exact ⟨h.1, h.2⟩
  | new f => exact h
  | gen p X g f => exact ⟨h.1, h.2⟩
  | genG p X q f => exact ⟨h.1, h.2⟩
  | dfr v => exact h

theorem skip_pan {all : Array Oper} (hsel : Region.noSelect all = true) {p : Nat} {op : Oper} {hp : Hint} (hpt : all[p]? = some op) {K : Value → St → RO → Prop} : ∀ (L : List Itm) (s : St) (R Rx : RO) (w : World),
    (∀ a ∈ L, all[a.1]? = some a.2.1 ∧ Ind all a (p, op, some hp) ∧ wnI a.2.1 a.2.2 = [] ∧ grI a.2.2 = false ∧ ∀ v x s R, K v (s.set a.2.1.dst x []) R → K v s R) →
    R.le Rx → Sat w Rx s.hp → GD P all L s R (PanOk P all op hp K) → PanOk P all op hp K s R
  | [], s, R, Rx, w, _, _, _, h => h
  | a :: L, s, R, Rx, w, hL, hR, hs, h => by
    obtain ⟨h1, h2⟩ := h
    obtain ⟨ha, hi, hw, hg, hK⟩ := hL a (List.mem_cons_self ..)
    obtain ⟨s', G, Rx', w', t, hx, hs'⟩ := tr_exists ha h1 hR hs
    obtain ⟨g1, g2⟩ := skip_pan hsel hpt L s' G Rx' w' (fun b hb => hL b (List.mem_cons_of_mem _ hb)) hx.leg hs' (h2 s' G t)
    have e1 := eff_same hsel (b := (p, op, some hp)) hpt hi t rfl
    have e2 := gd_same hi t
    obtain ⟨v, u, rfl, q2, q3, q4⟩ := t.shape
    have hG := q3 hg
    subst hG
    rw [hw] at q2
    have hu := upOk_nil q2
    subst hu
    refine ⟨e2 ▸ g1, ?_⟩
    have e3 : eff P op (s.set a.2.1.dst v []) G hp = eff P op s G hp := e1
    rw [e3] at g2
    exact run_skip hK g2

theorem wpAny_pan {all : Array Oper} (hsel : Region.noSelect all = true) {ahead : Nat → Nat → Prop} (hah : isAhead all ahead)
    (hback : ∀ i o, all[i]? = some o → ∀ e ∈ o.after, Region.binds .any e = true → e.on < i) (R₀ Rx₀ : RO) (p : Nat) (op : Oper) (hp : Hint) (hpt : all[p]? = some op) (W : Nat → Prop) (hW : ∀ i, i < all.size → W i → ahead i p) (hWp : ¬ W p) (K : Value → St → RO → Prop) (m : Nat) :
    ∀ (n : Nat) (L : List Itm) (hn : L.length = n) (listed : Array Bool) (hsz : listed.size = all.size) (hmem : ∀ i, i < all.size → (listed.getD i false = false ↔ (∃ a ∈ L, a.1 = i) ∨ i = p ∨ W i))
      (hit : ∀ a ∈ L, all[a.1]? = some a.2.1) (hA : ∀ a ∈ L, ahead p a.1 ∨ (Ind all a (p, op, some hp) ∧ wnI a.2.1 a.2.2 = [] ∧ grI a.2.2 = false ∧ ∀ v x s R, K v (s.set a.2.1.dst x []) R → K v s R)) (hlp : ∀ a ∈ L, a.1 < p) (hLW : ∀ a ∈ L, ¬ W a.1) (hsort : L.Pairwise fun a b => a.1 < b.1) (hind : L.Pairwise fun a b => ahead b.1 a.1 ∨ Ind all a b)
      (hcl : ∀ i o, all[i]? = some o → listed.getD i false = true → ∀ e ∈ o.after, Region.binds .any e = true → listed.getD e.on false = true)
      (s : St) (R Rx : RO) (w : World), Ext R₀ Rx₀ R Rx → Sat w Rx s.hp → GD P all L s R (PanOk P all op hp K) →
      wpAny P .any all (Lift R₀ Rx₀ fun e s' G => match e with | .panic v => K v s' G | _ => False) (n + 1 + m) listed s.act w := by
  have lt_of : ∀ {i : Nat} {o : Oper}, all[i]? = some o → i < all.size := fun {i o} h => by
    rcases Nat.lt_or_ge i all.size with h' | h'
    · exact h'
    · simp [Array.getElem?_eq_none h'] at h
  have hpl := lt_of hpt
  have rd : ∀ (listed : Array Bool), listed.size = all.size → ∀ i ∈ Region.ready .any all listed,
      i < all.size ∧ listed.getD i false = false ∧ ∃ o, all[i]? = some o ∧ ∀ e ∈ o.after, Region.binds .any e = true → listed.getD e.on false = true := by
    intro listed hsz i hi
    obtain ⟨h1, o, h2, h3⟩ := mem_ready.1 hi
    have hlt := lt_of h2
    refine ⟨hlt, ?_, o, h2, h3⟩
    simp [Array.getD, show i < listed.size by omega] at h1 ⊢
    exact h1
  have listed_of : ∀ (listed : Array Bool), (∀ i o, all[i]? = some o → listed.getD i false = true → ∀ e ∈ o.after, Region.binds .any e = true → listed.getD e.on false = true) →
      ∀ i o, all[i]? = some o → (∀ e ∈ o.after, Region.binds .any e = true → listed.getD e.on false = true) → ∀ j, ahead i j → listed.getD j false = true :=
    fun listed hcl i o ho hdone j hj => hah (fun i => listed.getD i false = true) (fun i o ho hS e he hb => hcl i o ho hS e he hb) i o ho hdone j hj
  have rdy : ∀ (listed : Array Bool), listed.size = all.size → ∀ i o, all[i]? = some o → listed.getD i false = false → (∀ e ∈ o.after, Region.binds .any e = true → listed.getD e.on false = true) → i ∈ Region.ready .any all listed := by
    intro listed hsz i o ho hl hd
    refine mem_ready.2 ⟨?_, o, ho, hd⟩
    have := lt_of ho
    simp [Array.getD, show i < listed.size by omega] at hl ⊢
    exact hl
  intro n
  induction n with
  | zero =>
    intro L hn listed hsz hmem hit hA hlp hLW hsort hind hcl s R Rx w hx hs h
    have hL : L = [] := List.length_eq_zero_iff.1 hn
    subst hL
    have hpu : listed.getD p false = false := (hmem p hpl).2 (.inr (.inl rfl))
    rw [show 0 + 1 + m = m + 1 by omega]
    refine ⟨fun hr => ?_, fun i hi => ?_⟩
    · exfalso
      have : p ∈ Region.ready .any all listed := rdy listed hsz p op hpt hpu fun e he hb => by
        have h1 := hback p op hpt e he hb
        cases hl : listed.getD e.on false with
        | true => rfl
        | false =>
          rcases (hmem e.on (by omega)).1 hl with ⟨a, ha, _⟩ | h2 | h2
          · cases ha
          · omega
          · have h3 := hW e.on (by omega) h2
            obtain ⟨oe, hoe⟩ : ∃ o, all[e.on]? = some o := ⟨_, Array.getElem?_eq_getElem (by omega)⟩
            have := ahead_lt hah hback hoe h3
            omega
      rw [hr] at this; cases this
    · obtain ⟨hlt, hlu, o, ho, hd⟩ := rd listed hsz i hi
      have hip : i = p := by
        rcases (hmem i hlt).1 hlu with ⟨a, ha, _⟩ | h2 | h2
        · cases ha
        · exact h2
        · have h3 := listed_of listed hcl i o ho hd p (hW i hlt h2)
          rw [hpu] at h3; cases h3
      subst hip
      unfold wpOp
      simp only [hpt]
      obtain ⟨h1, h2⟩ := h
      rw [gd_spec h1]
      simp only [if_true]
      left
      exact eff_ok P op s R hp (fun _ _ => False) K h2 Rx w hx.leg hs _ _ (fun s' G Rx' w' hk => hk.elim) (fun v s' G Rx' w' hk hx' hs' => ⟨.panic v, s', G, Rx', rfl, rfl, hk, hx.trans hx', hs'⟩)
  | succ n ih =>
    intro L hn listed hsz hmem hit hA hlp hLW hsort hind hcl s R Rx w hx hs h
    have hpu : listed.getD p false = false := (hmem p hpl).2 (.inr (.inl rfl))
    rw [show n + 1 + 1 + m = (n + 1 + m) + 1 by omega]
    refine ⟨fun hr => ?_, fun i hi => ?_⟩
    · exfalso
      cases L with
      | nil => simp at hn
      | cons a L =>
        have ha := hit a (List.mem_cons_self ..)
        have hal := lt_of ha
        have hau : listed.getD a.1 false = false := (hmem a.1 hal).2 (.inl ⟨a, List.mem_cons_self .., rfl⟩)
        have hap := hlp a (List.mem_cons_self ..)
        have : a.1 ∈ Region.ready .any all listed := rdy listed hsz a.1 a.2.1 ha hau fun e he hb => by
          have h1 := hback _ _ ha e he hb
          cases hl : listed.getD e.on false with
          | true => rfl
          | false =>
            rcases (hmem e.on (by omega)).1 hl with ⟨b, hb1, hb2⟩ | h2 | h2
            · cases hb1 with
              | head => omega
              | tail _ hb1 =>
                have := (List.pairwise_cons.1 hsort).1 b hb1
                omega
            · omega
            · have h3 := hW e.on (by omega) h2
              obtain ⟨oe, hoe⟩ : ∃ o, all[e.on]? = some o := ⟨_, Array.getElem?_eq_getElem (by omega)⟩
              have := ahead_lt hah hback hoe h3
              omega
        rw [hr] at this; cases this
    · obtain ⟨hlt, hlu, oi, hoi, hdone⟩ := rd listed hsz i hi
      have hiL : (∃ a ∈ L, a.1 = i) ∨ i = p := by
        rcases (hmem i hlt).1 hlu with h2 | h2 | h2
        · exact .inl h2
        · exact .inr h2
        · have h3 := listed_of listed hcl i oi hoi hdone p (hW i hlt h2)
          rw [hpu] at h3; cases h3
      rcases hiL with hiL | rfl
      rotate_left
      · have hsk : ∀ a ∈ L, all[a.1]? = some a.2.1 ∧ Ind all a (i, op, some hp) ∧ wnI a.2.1 a.2.2 = [] ∧ grI a.2.2 = false ∧ ∀ v x s R, K v (s.set a.2.1.dst x []) R → K v s R := fun a ha => by
          refine ⟨hit a ha, (hA a ha).resolve_left fun hb => ?_⟩
          have h3 := listed_of listed hcl i oi hoi hdone a.1 hb
          rw [(hmem a.1 (lt_of (hit a ha))).2 (.inl ⟨a, ha, rfl⟩)] at h3
          cases h3
        obtain ⟨h1, h2⟩ := skip_pan hsel hpt L s R Rx w hsk hx.leg hs h
        unfold wpOp
        simp only [hpt]
        rw [gd_spec h1]
        simp only [if_true]
        left
        exact eff_ok P op s R hp (fun _ _ => False) K h2 Rx w hx.leg hs _ _ (fun s' G Rx' w' hk => hk.elim) (fun v s' G Rx' w' hk hx' hs' => ⟨.panic v, s', G, Rx', rfl, rfl, hk, hx.trans hx', hs'⟩)
      obtain ⟨it, hm, rfl⟩ := hiL
      obtain ⟨L1, L2, rfl⟩ := List.append_of_mem hm
      have hitt := hit it (by simp)
      rw [hitt] at hoi; cases hoi
      have hL1 : ∀ a ∈ L1, all[a.1]? = some a.2.1 ∧ Ind all a it := by
        intro a ha
        refine ⟨hit a (by simp [ha]), ?_⟩
        have h1 := (List.pairwise_append.1 hind).2.2 a ha it (by simp)
        refine h1.resolve_left fun hb => ?_
        have h2 := listed_of listed hcl it.1 it.2.1 hitt hdone a.1 hb
        have h3 := (hmem a.1 (lt_of (hit a (by simp [ha])))).2 (.inl ⟨a, by simp [ha], rfl⟩)
        rw [h3] at h2; cases h2
      have hok := ok_item hsel hitt L1 s R Rx w _ hL1 h hx.leg hs
      refine step_item hitt hok hx.leg hs fun s' G Rx' w' ht hx' hs' => ?_
      have hnd : ∀ a ∈ L1 ++ L2, a.1 ≠ it.1 := by
        intro a ha
        rcases List.mem_append.1 ha with ha | ha
        · have := (List.pairwise_append.1 hsort).2.2 a ha it (by simp); omega
        · have := (List.pairwise_cons.1 (List.pairwise_append.1 hsort).2.1).1 a ha; omega
      have hget : ∀ j, (listed.setIfInBounds it.1 true).getD j false = if j = it.1 then true else listed.getD j false := by
        intro j
        by_cases hj : j = it.1
        · subst hj; simp [Array.getD, show it.1 < listed.size by omega]
        · rw [if_neg hj, getD_set_ne]; exact fun he => hj he.symm
      have hsub : List.Sublist (L1 ++ L2) (L1 ++ it :: L2) := List.Sublist.append (List.Sublist.refl _) (List.sublist_cons_self ..)
      have hpi : it.1 ≠ p := by
        have := hlp it (by simp)
        omega
      refine ih (L1 ++ L2) (by simp at hn ⊢; omega) _ (by simpa using hsz) (fun j hj => ?_) (fun a ha => hit a (hsub.subset ha)) (fun a ha => hA a (hsub.subset ha)) (fun a ha => hlp a (hsub.subset ha)) (fun a ha => hLW a (hsub.subset ha)) (hsort.sublist hsub) (hind.sublist hsub) (fun j o ho hj e he hb => ?_)
        s' G Rx' w' (hx.trans hx') hs' (drop_item hsel hitt L1 s R _ hL1 h s' G ht)
      · rw [hget]
        by_cases hji : j = it.1
        · subst hji
          simp only [if_true]
          constructor
          · intro h; cases h
          · rintro (⟨a, ha, he⟩ | h2 | h2)
            · exact (hnd a ha he).elim
            · exact (hpi h2).elim
            · exact (hLW it (by simp) h2).elim
        · rw [if_neg hji, hmem j hj]
          constructor
          · rintro (⟨a, ha, rfl⟩ | h2 | h2)
            · refine .inl ⟨a, ?_, rfl⟩
              simp at ha ⊢
              rcases ha with ha | rfl | ha
              · exact .inl ha
              · exact (hji rfl).elim
              · exact .inr ha
            · exact .inr (.inl h2)
            · exact .inr (.inr h2)
          · rintro (⟨a, ha, rfl⟩ | h2 | h2)
            · exact .inl ⟨a, hsub.subset ha, rfl⟩
            · exact .inr (.inl h2)
            · exact .inr (.inr h2)
      · rw [hget]
        split
        · rfl
        · by_cases hji : j = it.1
          · subst hji
            rw [hitt] at ho; cases ho
            exact hdone e he hb
          · rw [hget, if_neg hji] at hj
            exact hcl j o ho hj e he hb

def wopsP (P : Program) (all : Array Oper) : List Oper → List (Option Hint) → St → RO → (Value → St → RO → Prop) → Prop
  | [], _, _, _, _ => False
  | _ :: _, [], _, _, _ => False
  | o :: _, [some h], s, R, K => match gd all s.tm o with
    | some true => (eff P o s R h).run s R o.dst (fun _ _ => False) K
    | _ => False
  | _ :: _, [none], _, _, _ => False
  | o :: l, none :: h2 :: hs, s, R, K => match gd all s.tm o with
    | some false => wopsP P all l (h2 :: hs) ⟨put s.tm o.dst undef, s.df, s.hp⟩ R K
    | _ => False
  | o :: l, some h :: h2 :: hs, s, R, K => match gd all s.tm o, okE h with
    | some true, true => (eff P o s R h).run s R o.dst (fun s' R' => wopsP P all l (h2 :: hs) s' R' K) (fun _ _ _ => False)
    | _, _ => False

/-- What comes ahead of the one that panics, or may come in either order, beside it. -/
def skB (all : Array Oper) (ms : List Nat) (pn : Itm) : List Itm → Bool
  | [] => true
  | a :: l => match (nth ms pn.1).testBit a.1 with
    | true => skB all ms pn l
    | false => match indB all a pn, wnI a.2.1 a.2.2, grI a.2.2 with
      | true, [], false => skB all ms pn l
      | _, _, _ => false
def skD (ms : List Nat) (p : Nat) : List Itm → List (Option Tmp)
  | [] => []
  | a :: l => match (nth ms p).testBit a.1 with
    | true => skD ms p l
    | false => a.2.1.dst :: skD ms p l
def wtB (ms : List Nat) (p : Nat) : Nat → Bool
  | 0 => true
  | n + 1 => match Nat.ble n p with
    | true => wtB ms p n
    | false => match (nth ms n).testBit p with
      | true => wtB ms p n
      | false => false
def preI (all : Array Oper) (hs : List (Option Hint)) : List Itm := itms 0 all.toList hs.dropLast
def panOK (all : Array Oper) (hs : List (Option Hint)) (op : Oper) (hp : Hint) : Bool :=
  match noSel all.toList, backB 0 all.toList, Nat.ble hs.length all.toList.length with
  | true, true, true => match pairsOK all (masks all.toList []) [] (preI all hs), skB all (masks all.toList []) (hs.length - 1, op, some hp) (preI all hs), wtB (masks all.toList []) (hs.length - 1) all.toList.length with
    | true, true, true => true
    | _, _, _ => false
  | _, _, _ => false

theorem skB_spec {all : Array Oper} {ms : List Nat} {pn : Itm} : ∀ {l : List Itm}, skB all ms pn l = true → ∀ a ∈ l, (nth ms pn.1).testBit a.1 = true ∨ (Ind all a pn ∧ wnI a.2.1 a.2.2 = [] ∧ grI a.2.2 = false ∧ a.2.1.dst ∈ skD ms pn.1 l)
  | [], _, a, ha => by cases ha
  | x :: l, h, a, ha => by
    simp only [skB] at h
    split at h
    · rename_i hx
      cases ha with
      | head => exact .inl hx
      | tail _ hm =>
        rcases skB_spec h a hm with h1 | ⟨h1, h2, h3, h4⟩
        · exact .inl h1
        · exact .inr ⟨h1, h2, h3, by simp only [skD, hx]; exact h4⟩
    · rename_i hx
      split at h
      · rename_i h1 h2 h3
        cases ha with
        | head => exact .inr ⟨indB_spec h1, h2, h3, by simp only [skD, hx]; exact List.mem_cons_self ..⟩
        | tail _ hm =>
          rcases skB_spec h a hm with g1 | ⟨g1, g2, g3, g4⟩
          · exact .inl g1
          · exact .inr ⟨g1, g2, g3, by simp only [skD, hx]; exact List.mem_cons_of_mem _ g4⟩
      · cases h
theorem wtB_spec {ms : List Nat} {p : Nat} : ∀ {n : Nat}, wtB ms p n = true → ∀ i, i < n → p < i → (nth ms i).testBit p = true
  | 0, _, i, hi, _ => by omega
  | n + 1, h, i, hi, hp => by
    simp only [wtB] at h
    split at h
    · rename_i h1
      have := Nat.le_of_ble_eq_true h1
      exact wtB_spec h i (by omega) hp
    · split at h
      · rename_i h2
        by_cases he : i = n
        · subst he; exact h2
        · exact wtB_spec h i (by omega) hp
      · cases h

theorem itms_pre : ∀ (i : Nat) (l : List Oper) (hs : List (Option Hint)) (hl : hs.length ≤ l.length),
    (itms i l hs).length = hs.length ∧ (∀ a ∈ itms i l hs, i ≤ a.1 ∧ a.1 < i + hs.length ∧ l[a.1 - i]? = some a.2.1) ∧ (itms i l hs).Pairwise (fun a b => a.1 < b.1) ∧ (∀ k, k < hs.length → ∃ a ∈ itms i l hs, a.1 = i + k)
  | i, [], [], _ => by simp [itms]
  | i, [], _ :: _, h => by simp at h
  | i, _ :: _, [], h => by simp [itms]
  | i, o :: l, h :: hs, hl => by
    obtain ⟨h1, h2, h3, h4⟩ := itms_pre (i + 1) l hs (by simpa using hl)
    simp only [itms]
    refine ⟨by simp [h1], ?_, ?_, ?_⟩
    · intro a ha
      cases ha with
      | head => simp
      | tail _ hm =>
        obtain ⟨q1, q2, q3⟩ := h2 a hm
        refine ⟨by omega, by simp; omega, ?_⟩
        rw [show a.1 - i = (a.1 - (i + 1)) + 1 by omega]
        simpa using q3
    · refine List.pairwise_cons.2 ⟨fun a ha => ?_, h3⟩
      have := (h2 a ha).1
      show i < a.1
      omega
    · intro k hk
      cases k with
      | zero => exact ⟨(i, o, h), List.mem_cons_self .., rfl⟩
      | succ k =>
        obtain ⟨a, q1, q2⟩ := h4 k (by simpa using hk)
        exact ⟨a, List.mem_cons_of_mem _ q1, by omega⟩

theorem wopsP_GD {all : Array Oper} {K : Value → St → RO → Prop} {op : Oper} {hp : Hint} : ∀ (l : List Oper) (hs : List (Option Hint)) (i : Nat) (s : St) (R : RO), l[hs.length]? = some op → wopsP P all l (hs ++ [some hp]) s R K →
    GD P all (itms i l hs) s R (PanOk P all op hp K)
  | [], hs, i, s, R, ho, h => by simp at ho
  | o :: l, [], i, s, R, ho, h => by
    simp at ho
    subst ho
    simp only [List.nil_append, wopsP] at h
    split at h
    · rename_i hg; exact ⟨hg, h⟩
    · exact h.elim
  | o :: l, none :: hs, i, s, R, ho, h => by
    obtain ⟨h2, hs2, he⟩ : ∃ h2 hs2, hs ++ [some hp] = h2 :: hs2 := by
      cases hs with
      | nil => exact ⟨_, _, rfl⟩
      | cons a b => exact ⟨_, _, rfl⟩
    rw [List.cons_append, he] at h
    simp only [wopsP] at h
    split at h
    · rename_i hg
      refine ⟨hg, ?_⟩
      rintro s' G ⟨rfl, rfl⟩
      rw [← he] at h
      exact wopsP_GD l hs (i + 1) _ _ (by simpa using ho) h
    · exact h.elim
  | o :: l, some hh :: hs, i, s, R, ho, h => by
    obtain ⟨h2, hs2, he⟩ : ∃ h2 hs2, hs ++ [some hp] = h2 :: hs2 := by
      cases hs with
      | nil => exact ⟨_, _, rfl⟩
      | cons a b => exact ⟨_, _, rfl⟩
    rw [List.cons_append, he] at h
    simp only [wopsP] at h
    split at h
    · rename_i hg hk
      obtain ⟨ge, hge⟩ := toG_of_run hk h
      rw [Eff.run_toG hge] at h
      refine ⟨⟨hg, ge, hge, h.1⟩, ?_⟩
      rintro s' G ⟨ge', hge', x, hx, rfl⟩
      rw [hge] at hge'; cases hge'
      have h3 := h.2 x G hx
      rw [← he] at h3
      exact wopsP_GD l hs (i + 1) _ _ (by simpa using ho) h3
    · exact h.elim

theorem draw_pan {all : Array Oper} {id : Nat} {hs : List (Option Hint)} {op : Oper} {hp : Hint} (hm : P.follows .mixedOrders = true) (hop : all.toList[hs.length]? = some op) (hd : panOK all (hs ++ [some hp]) op hp = true) {s : St} {R : RO} {K : Value → St → RO → Prop}
    (hK : ∀ d ∈ skD (masks all.toList []) hs.length (itms 0 all.toList hs), ∀ v x s R, K v (s.set d x []) R → K v s R)
    (h : wopsP P all all.toList (hs ++ [some hp]) s R K) : CT P (.region id all true) s R fun e s' G => match e with | .panic v => K v s' G | _ => False := by
  intro Rx w hR hsat
  unfold panOK at hd
  split at hd
  · rename_i h1 h2 h3
    split at hd
    · rename_i h4 h5 h6
      have hlen := Nat.le_of_ble_eq_true h3
      rw [List.length_append, List.length_singleton] at hlen
      have hsz : all.toList.length = all.size := Array.length_toList
      rw [preI, List.dropLast_concat] at h4 h5
      simp only [List.length_append, List.length_singleton, Nat.add_sub_cancel, Array.length_toList] at h5 h6
      obtain ⟨i1, i2, i3, i4⟩ := itms_pre 0 all.toList hs (by omega)
      have hpt : all[hs.length]? = some op := by rw [← Array.getElem?_toList]; exact hop
      refine wp_region_any hm ?_
      have hfu : all.size = hs.length + 1 + (all.size - hs.length - 1) := by omega
      rw [hfu]
      have hsk := skB_spec h5
      rw [← hfu]
      have main := wpAny_pan (P := P) (all := all) (noSelect_of h1) masks_ahead (fun i o ho e he hb => by
          have := backB_spec h2 i o (by simpa using ho) e he hb
          omega) R Rx hs.length op hp hpt (fun i => hs.length < i) (fun i hi hw => wtB_spec h6 i hi hw) (by omega) K (all.size - hs.length - 1) hs.length (itms 0 all.toList hs) i1 (Array.replicate all.size false) (by simp)
        (fun i hi => ⟨fun _ => by
          rcases Nat.lt_trichotomy i hs.length with hc | hc | hc
          · obtain ⟨a, ha, he⟩ := i4 i hc
            exact .inl ⟨a, ha, by omega⟩
          · exact .inr (.inl hc)
          · exact .inr (.inr hc), fun _ => by simp [Array.getD]⟩)
        (fun a ha => by have := (i2 a ha).2.2; simpa using this)
        (fun a ha => (hsk a ha).imp (fun h => h) (fun ⟨q1, q2, q3, q4⟩ => ⟨q1, q2, q3, hK _ q4⟩))
        (fun a ha => by have := (i2 a ha).2.1; omega)
        (fun a ha => by have := (i2 a ha).2.1; omega) i3 (pairsOK_spec h4).1
        (fun i o ho hl => by
          have hlt : i < all.size := by
            rcases Nat.lt_or_ge i all.size with h | h
            · exact h
            · simp [Array.getElem?_eq_none h] at ho
          simp [Array.getD] at hl)
        s R Rx { w with drawn := w.drawn + 1 } (.refl hR) (hsat.heap rfl ⟨rfl, rfl, rfl⟩) (wopsP_GD _ hs 0 s R (by simpa using hop) h)
      rw [← hfu] at main
      exact main
    · cases hd
  · cases hd

/-- The same, told by an alternative. -/
theorem CT.of_draw_pan_eq {all : Array Oper} {id : Nat} {s : St} {R : RO} {VC : Prop} (hs : List (Option Hint)) (op : Oper) (hp : Hint) (sc : Sc) (hm : P.follows .mixedOrders = true) (hop : all.toList[hs.length]? = some op) (hd : panOK all (hs ++ [some hp]) op hp = true)
    (hK : ∀ d ∈ skD (masks all.toList []) hs.length (itms 0 all.toList hs), ∀ v x s G, altPost R sc (.panic v) (s.set d x []) G → altPost R sc (.panic v) s G)
    (he : wopsP P all all.toList (hs ++ [some hp]) s R (fun v s' G => altPost R sc (.panic v) s' G) = VC) (h : VC) : CT P (.region id all true) s R (altPost R sc) :=
  (draw_pan hm hop hd hK (he ▸ h)).mono fun e s' G _ hk => by
    cases e with
    | panic v => exact hk
    | _ => exact hk.elim

theorem tput_back : ∀ (l : List Value) (d : Nat) (x : Value), tput (tput l d x) d (tget l d) = l
  | [], d, x => rfl
  | y :: l, 0, x => rfl
  | y :: l, d + 1, x => by simp only [tput, tget, tput_back l d x]
theorem skip_alt {s : St} {R : RO} {d : Nat} {x V v : Value} {L : Value → List Value} {df : List Deferred} {hp : Hp} {G : RO} (hL : ∀ u y, tput (L u) d y = L y)
    (h : altPost R (.alt Value (fun _ => True) (fun zx => (.panic V, ⟨L zx, df, hp⟩)) (fun _ => .altn) .altn) (.panic v) (s.set (some d) x []) G) :
    altPost R (.alt Value (fun _ => True) (fun zx => (.panic V, ⟨L zx, df, hp⟩)) (fun _ => .altn) .altn) (.panic v) s G := by
  rcases h with ⟨hG, u, _, he, c1, c2, c3⟩ | h
  · refine .inl ⟨hG, tget s.tm d, trivial, he, ?_, c2, c3⟩
    have h1 : tput s.tm d x = L u := c1
    show s.tm = L (tget s.tm d)
    rw [← hL u (tget s.tm d), ← h1, tput_back]
  · exact h.elim

def regOps : Code → Array Oper
  | .region _ ops _ => ops
  | _ => #[]
def regId : Code → Nat
  | .region id _ _ => id
  | _ => 0
def opAt (c : Code) (n : Nat) : Oper := ((regOps c).toList[n]?).getD default
theorem CT.draw_pan_c {c : Code} {s : St} {R : RO} {VC : Prop} (hs : List (Option Hint)) (hp : Hint) (sc : Sc) (hm : P.follows .mixedOrders = true) (hc : c = .region (regId c) (regOps c) true) (hop : (regOps c).toList[hs.length]? = some (opAt c hs.length)) (hd : panOK (regOps c) (hs ++ [some hp]) (opAt c hs.length) hp = true)
    (hK : ∀ d ∈ skD (masks (regOps c).toList []) hs.length (itms 0 (regOps c).toList hs), ∀ v x s G, altPost R sc (.panic v) (s.set d x []) G → altPost R sc (.panic v) s G)
    (he : wopsP P (regOps c) (regOps c).toList (hs ++ [some hp]) s R (fun v s' G => altPost R sc (.panic v) s' G) = VC) (h : VC) : CT P c s R (altPost R sc) := by
  rw [hc]
  exact CT.of_draw_pan_eq hs _ hp sc hm hop hd hK he h
theorem no_skip {l : List (Option Tmp)} {p : Option Tmp → Prop} (h : l = []) : ∀ d ∈ l, p d := by subst h; intro d hd; cases hd
theorem one_skip {l : List (Option Tmp)} {p : Option Tmp → Prop} {d0 : Option Tmp} (h : l = [d0]) (h2 : p d0) : ∀ d ∈ l, p d := by
  subst h; intro d hd; rw [List.mem_singleton] at hd; subst hd; exact h2
end
end Vc
