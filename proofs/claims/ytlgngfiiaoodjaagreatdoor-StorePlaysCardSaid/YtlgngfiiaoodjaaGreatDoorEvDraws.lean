/- An operation of the evaluator looks at the slots that it names, and at no others. -/
import Derived.Test.YtlgngfiiaoodjaaGreatDoorEvCtls
import Derived.Orders
set_option linter.unusedVariables false
set_option linter.unusedSimpArgs false
/- An operation of the evaluator looks at the slots that it names, and at no others. -/
namespace Go.Ev
def COp.Cong (c : COp) (T T' : Tr AV) : Prop :=
  match c with
  | .pure f => f T = f T'
  | .read f => ∀ H, f T H = f T' H
  | .slc f g h => (f T = f T' ∧ ∀ H, g T H = g T' H) ∧ h T = h T'
  | .alc f v => f T = f T' ∧ ∀ b, v T b = v T' b
  | .st f => f T = f T'
  | .eff g => ∀ H, g T H = g T' H
  | .call _ xs => getL xs T = getL xs T'
  | .dyn x xs => getO x T = getO x T' ∧ getL xs T = getL xs T'
  | .inv _ x xs => getO x T = getO x T' ∧ getL xs T = getL xs T'
  | .defer _ _ => True
  | .recover => True
/-- two frames agree on what some operands name -/
def Agree (xs : List Operand) (T T' : Tr AV) : Prop := ∀ t, Operand.tmp t ∈ xs → Tr.get (posOf t) T = Tr.get (posOf t) T'
section
variable {E : Env} {ng : Nat} {T T' : Tr AV}
theorem Agree.sub {xs ys : List Operand} (h : Agree xs T T') (hs : ∀ x ∈ ys, x ∈ xs) : Agree ys T T' := fun t ht => h t (hs _ ht)
theorem getO_cong {X : Operand} {x : Opd} (hx : opd ng X = some x) (h : Agree [X] T T') : getO x T = getO x T' := by
  cases X with
  | tmp t => cases hx; exact h t (by simp)
  | const v =>
    unfold opd at hx
    simp only at hx
    split at hx
    · cases hx; rfl
    · cases hx
  | global g =>
    unfold opd at hx
    simp only at hx
    split at hx
    · cases hx; rfl
    · cases hx
  | func f => cases hx; rfl
theorem omap_cong {α β : Type} {f g : α → Option β} : ∀ {l : List α}, (∀ x ∈ l, f x = g x) → omap f l = omap g l
  | [], _ => rfl
  | a :: l, h => by
    change (match f a with | none => none | some b => match omap f l with | none => none | some r => some (b :: r)) = (match g a with | none => none | some b => match omap g l with | none => none | some r => some (b :: r))
    rw [h a (by simp), omap_cong fun x hx => h x (List.mem_cons_of_mem _ hx)]
theorem opds_mem {Xs : List Operand} : ∀ {xs : List Opd}, omap (opd ng) Xs = some xs → ∀ x ∈ xs, ∃ X ∈ Xs, opd ng X = some x := by
  induction Xs with
  | nil => intro xs h; cases h; simp
  | cons X Xs ih =>
    intro xs h
    obtain ⟨y, ys, h1, h2, rfl⟩ := (omap_cons _ _ _ _).1 h
    intro x hx
    cases hx with
    | head => exact ⟨X, by simp, h1⟩
    | tail _ hx => obtain ⟨Y, hY, hy⟩ := ih h2 x hx; exact ⟨Y, List.mem_cons_of_mem _ hY, hy⟩
theorem getL_cong {A : Array Operand} {xs : List Opd} (hx : opds ng A = some xs) (h : Agree A.toList T T') : getL xs T = getL xs T' := by
  refine omap_cong fun x hm => ?_
  obtain ⟨X, hX, hX'⟩ := opds_mem hx x hm
  exact getO_cong hX' (h.sub (by intro y hy; simp at hy; subst hy; exact hX))
theorem natO_cong {X : Operand} {x : Opd} (hx : opd ng X = some x) (h : Agree [X] T T') : natO x T = natO x T' := by unfold natO; rw [getO_cong hx h]
theorem optNat_cong {X : Option Operand} {x : Option Opd} (hx : optOpd ng X = some x) (h : Agree X.toList T T') (d : Nat) : optNat x T d = optNat x T' d := by
  unfold optOpd at hx
  split at hx
  · cases hx; rfl
  · split at hx
    · next y hy => cases hx; exact natO_cong hy h
    · cases hx
theorem fillL_cong {ps : List (Nat × Nat × Opd)} (h : ∀ p ∈ ps, getO p.2.2 T = getO p.2.2 T') {X : Type} (n : X) : ∀ (z : List AV) (K : List AV → X), fillK n z ps T K = fillK n z ps T' K := by
  induction ps with
  | nil => intro z K; rfl
  | cons p ps ih =>
    intro z K
    change (match getO p.2.2 T with
      | some v => (match Nat.beq (len v.cells) p.2.1 with
        | true => putK n v.cells z p.1 fun z => fillK n z ps T K
        | false => n)
      | none => n) = (match getO p.2.2 T' with
      | some v => (match Nat.beq (len v.cells) p.2.1 with
        | true => putK n v.cells z p.1 fun z => fillK n z ps T' K
        | false => n)
      | none => n)
    rw [h p (by simp)]
    have : (fun z => fillK n z ps T K) = (fun z => fillK n z ps T' K) := funext fun z => ih (fun q hq => h q (List.mem_cons_of_mem _ hq)) z K
    simp only [this]
theorem parts_cong {place : Nat → Option (Nat × Nat)} {ps : Array (Nat × Operand)} {l : List (Nat × Nat × Opd)} (hl : partsOf ng place ps.toList = some l) (h : Agree (ps.toList.map (·.2)) T T') : ∀ p ∈ l, getO p.2.2 T = getO p.2.2 T' := by
  have key : ∀ (qs : List (Nat × Operand)) (l : List (Nat × Nat × Opd)), partsOf ng place qs = some l → (∀ q ∈ qs, q.2 ∈ ps.toList.map (·.2)) → ∀ p ∈ l, getO p.2.2 T = getO p.2.2 T' := by
    intro qs
    induction qs with
    | nil => intro l hl _ p hp; cases hl; simp at hp
    | cons q qs ih =>
      intro l hl hm p hp
      obtain ⟨b, r, h1, h2, rfl⟩ := (omap_cons _ _ _ _).1 hl
      cases hp with
      | head =>
        split at h1
        · next o s y _ hy =>
          cases h1
          exact getO_cong hy (h.sub (by intro x hx; simp at hx; subst hx; exact hm q (by simp)))
        · cases h1
      | tail _ hp => exact ih r h2 (fun q' hq' => hm q' (List.mem_cons_of_mem _ hq')) p hp
  exact key _ _ hl (fun q hq => List.mem_map.2 ⟨q, hq, rfl⟩)
theorem bounds_cong {α : Type} {lo hi : Option Opd} (h1 : ∀ d, optNat lo T d = optNat lo T' d) (h2 : ∀ d, optNat hi T d = optNat hi T' d) (dh cap : Nat) (K : Nat → Nat → Option α) : boundsV lo hi T dh cap K = boundsV lo hi T' dh cap K := by
  unfold boundsV; rw [h1, h2]
theorem cCall_cong {c : Call} {k : COp} (h : cCall E c = some k) (hg : Agree c.operands.toList T T') : k.Cong T T' := by
  have hA : Agree c.args.toList T T' := hg.sub (fun x hx => by simp only [Call.operands, Array.toList_append, List.mem_append]; exact .inr hx)
  unfold cCall at h
  split at h
  · obtain ⟨l, hl, h⟩ := ob_some.1 h
    cases h
    exact getL_cong hl hA
  · next X _ hc =>
    obtain ⟨y, hy, h⟩ := ob_some.1 h
    obtain ⟨l, hl, h⟩ := ob_some.1 h
    cases h
    exact ⟨getO_cong hy (hg.sub fun x hx => by simp at hx; subst hx; simp [Call.operands, hc]), getL_cong hl hA⟩
  · next X _ hc =>
    obtain ⟨y, hy, h⟩ := ob_some.1 h
    obtain ⟨l, hl, h⟩ := ob_some.1 h
    cases h
    exact ⟨getO_cong hy (hg.sub fun x hx => by simp at hx; subst hx; simp [Call.operands, hc]), getL_cong hl hA⟩
  · next b hc =>
    have hone : ∀ {x : Opd}, opds E.ng c.args = some [x] → getO x T = getO x T' := by
      intro x hx
      obtain ⟨X, hX, hx'⟩ := opds_mem hx x (by simp)
      exact getO_cong hx' (hA.sub (by intro y hy; simp at hy; subst hy; exact hX))
    have htwo : ∀ {x y : Opd}, opds E.ng c.args = some [x, y] → getO x T = getO x T' ∧ getO y T = getO y T' := by
      intro x y hx
      obtain ⟨X, hX, hx'⟩ := opds_mem hx x (by simp)
      obtain ⟨Y, hY, hy'⟩ := opds_mem hx y (by simp)
      exact ⟨getO_cong hx' (hA.sub (by intro y hy; simp at hy; subst hy; exact hX)), getO_cong hy' (hA.sub (by intro y hy; simp at hy; subst hy; exact hY))⟩
    split at h
    · next x y t u hx ht =>
      split at h
      · obtain ⟨z, hz, h⟩ := ob_some.1 h
        split at h
        · cases h
          intro H
          simp only [appendR, htwo hx]
        · cases h
      · obtain ⟨z, hz, h⟩ := ob_some.1 h
        split at h
        · cases h
          intro H
          have hn : natO y T = natO y T' := by unfold natO; rw [(htwo hx).2]
          simp only [appendZR, (htwo hx).1, hn]
        · cases h
      · cases h
    · next x y t u hx ht =>
      obtain ⟨i, hi, h⟩ := ob_some.1 h
      cases h
      intro H
      simp only [copyR, htwo hx]
    · next x t u hx ht =>
      split at h
      · cases h; simp only [COp.Cong, lenSV, hone hx]
      · cases h; simp only [COp.Cong, lenV, hone hx]
      · cases h; intro H; simp only [lenMV, hone hx]
      · cases h; rfl
      · cases h
    · next x t u hx ht =>
      split at h
      · cases h; simp only [COp.Cong, capV, hone hx]
      · cases h; rfl
      · cases h
    · next x k' t u hx ht =>
      split at h
      · obtain ⟨kd, hkd, h⟩ := ob_some.1 h
        cases h
        intro H
        simp only [deleteR, htwo hx]
      · cases h
    · next l _ hx => cases h; simp only [COp.Cong, mmV, getL_cong hx hA]
    · next l _ hx => cases h; simp only [COp.Cong, mmV, getL_cong hx hA]
    · cases h; trivial
    · next x _ hx => cases h; simp only [COp.Cong, sdataV, hone hx]
    · next x y pt it hx ht =>
      split at h
      · split at h
        · cases h; intro H; simp only [ustrR, htwo hx]
        · cases h
      · cases h
    · cases h
theorem cop_cong {op : Op} {k : COp} (h : cop E op = some k) (hg : Agree op.operands.toList T T') : k.Cong T T' := by
  have one : ∀ {X : Operand} {x : Opd}, opd E.ng X = some x → X ∈ op.operands.toList → getO x T = getO x T' := fun hx hm => getO_cong hx (hg.sub (by intro y hy; simp at hy; subst hy; exact hm))
  cases op with
  | move x => obtain ⟨y, hy, h⟩ := ob_some.1 h; cases h; exact one hy (by simp [Op.operands])
  | assign x => obtain ⟨y, hy, h⟩ := ob_some.1 h; cases h; exact one hy (by simp [Op.operands])
  | pick c a b =>
    obtain ⟨x, hx, h⟩ := ob_some.1 h
    obtain ⟨y, hy, h⟩ := ob_some.1 h
    obtain ⟨z, hz, h⟩ := ob_some.1 h; cases h
    simp only [COp.Cong, pickV, one hx (by simp [Op.operands]), one hy (by simp [Op.operands]), one hz (by simp [Op.operands])]
  | alloc e => obtain ⟨z, hz, h⟩ := ob_some.1 h; cases h; exact ⟨rfl, fun _ => rfl⟩
  | box e x => obtain ⟨y, hy, h⟩ := ob_some.1 h; cases h; exact ⟨by simp only [newB, boxL, one hy (by simp [Op.operands])], fun _ => rfl⟩
  | build t ps =>
    obtain ⟨z, hz, h⟩ := ob_some.1 h
    split at h
    · split at h
      · obtain ⟨l, hl, h⟩ := ob_some.1 h; cases h
        exact fillL_cong (parts_cong hl (hg.sub (by simp [Op.operands]))) _ _ _
      · cases h
    · obtain ⟨s, hs, h⟩ := ob_some.1 h
      obtain ⟨l, hl, h⟩ := ob_some.1 h; cases h
      exact fillL_cong (parts_cong hl (hg.sub (by simp [Op.operands]))) _ _ _
    · cases h
  | buildSlice t n ps =>
    obtain ⟨e, he, h⟩ := ob_some.1 h
    obtain ⟨i, hi, h⟩ := ob_some.1 h
    obtain ⟨z, hz, h⟩ := ob_some.1 h
    split at h
    · obtain ⟨l, hl, h⟩ := ob_some.1 h; cases h
      have hc : bsliceL n z.cells l T = bsliceL n z.cells l T' := by
        unfold bsliceL
        rw [replK_eq, replK_eq]
        exact fillL_cong (parts_cong hl (hg.sub (by simp [Op.operands]))) _ _ _
      exact ⟨by simp only [newB, hc], fun _ => rfl⟩
    · cases h
  | load t x =>
    obtain ⟨y, hy, h⟩ := ob_some.1 h
    have := one hy (by simp [Op.operands])
    split at h
    · cases h; intro H; simp only [ldn, this]
    · cases h; intro H; simp only [ld1, this]
    · cases h
  | store t a x =>
    obtain ⟨n, hn, h⟩ := ob_some.1 h
    obtain ⟨y, hy, h⟩ := ob_some.1 h
    obtain ⟨z, hz, h⟩ := ob_some.1 h; cases h
    simp only [COp.Cong, stW, one hy (by simp [Op.operands]), one hz (by simp [Op.operands])]
  | nilCheck x => obtain ⟨y, hy, h⟩ := ob_some.1 h; cases h; simp only [COp.Cong, nilckV, one hy (by simp [Op.operands])]
  | binOp op t x y yt =>
    obtain ⟨a, ha, h1⟩ := ob_some.1 h; clear h
    obtain ⟨b, hb, h⟩ := ob_some.1 h1; clear h1
    have ga := one ha (by simp [Op.operands])
    have gb := one hb (by simp [Op.operands])
    split at h
    · cases h; simp only [COp.Cong, binV, ga, gb]
    · cases h; simp only [COp.Cong, binV, ga, gb]
    · cases h; simp only [COp.Cong, boolV, ga, gb]
    · cases h; simp only [COp.Cong, boolV, ga, gb]
    · cases h; intro H; simp only [eqV, ga, gb]
    · cases h; intro H; simp only [eqV, ga, gb]
    · cases h
  | unOp op t x => obtain ⟨y, hy, h⟩ := ob_some.1 h; cases h; simp only [COp.Cong, unV, one hy (by simp [Op.operands])]
  | convert s d x =>
    obtain ⟨y, hy, h⟩ := ob_some.1 h
    have g := one hy (by simp [Op.operands])
    split at h
    · cases h; simp only [COp.Cong, convV, g]
    · cases h; simp only [COp.Cong, sameV, g]
    · split at h
      · cases h; intro H; simp only [ptrUV, g]
      · cases h
    · split at h
      · cases h; intro H; simp only [uptrV, g]
      · cases h
    · split at h
      · cases h; intro H; simp only [b2sV, g]
      · cases h
    · split at h
      · cases h; intro H; simp only [s2bR, g]
      · cases h
    · cases h
  | makeInterface t x =>
    obtain ⟨y, hy, h⟩ := ob_some.1 h
    have g := one hy (by simp [Op.operands])
    split at h
    · cases h
    · cases h; simp only [COp.Cong, mkifV, g]
    · cases h
  | makeFunc fn a b =>
    cases fn with
    | method n =>
      obtain ⟨x, hx, h⟩ := ob_some.1 h
      obtain ⟨y, hy, h⟩ := ob_some.1 h; cases h
      simp only [COp.Cong, mkbV, getL_cong hx (hg.sub fun z hz => by simp only [Op.operands, Array.toList_append, List.mem_append]; exact .inl hz),
        getL_cong hy (hg.sub fun z hz => by simp only [Op.operands, Array.toList_append, List.mem_append]; exact .inr hz)]
    | func f =>
      obtain ⟨x, hx, h⟩ := ob_some.1 h
      obtain ⟨y, hy, h⟩ := ob_some.1 h; cases h
      simp only [COp.Cong, mkfnV, getL_cong hx (hg.sub fun z hz => by simp only [Op.operands, Array.toList_append, List.mem_append]; exact .inl hz),
        getL_cong hy (hg.sub fun z hz => by simp only [Op.operands, Array.toList_append, List.mem_append]; exact .inr hz)]
    | _ => cases h
  | makeMap t r =>
    simp only [cop] at h
    split at h
    · cases h; intro H; rfl
    · cases h; intro H; rfl
    · cases h
  | makeSlice t l c =>
    obtain ⟨e, he, h⟩ := ob_some.1 h
    obtain ⟨i, hi, h⟩ := ob_some.1 h
    obtain ⟨z, hz, h⟩ := ob_some.1 h
    obtain ⟨x, hx, h⟩ := ob_some.1 h
    obtain ⟨y, hy, h⟩ := ob_some.1 h
    have gx : natO x T = natO x T' := by unfold natO; rw [one hx (by simp [Op.operands])]
    have gy : natO y T = natO y T' := by unfold natO; rw [one hy (by simp [Op.operands])]
    split at h
    · cases h
      exact ⟨by simp only [newB, mksliceL, gx, gy], fun b => by simp only [mksliceV, gx, gy]⟩
    · cases h
  | slice t x lo hi mx =>
    obtain ⟨y, hy, h⟩ := ob_some.1 h
    obtain ⟨l, hl, h⟩ := ob_some.1 h
    obtain ⟨u, hu, h⟩ := ob_some.1 h
    obtain ⟨m, hm, h⟩ := ob_some.1 h
    have gy := one hy (by simp [Op.operands])
    have gl : ∀ d, optNat l T d = optNat l T' d := optNat_cong hl (hg.sub fun z hz => by simp [Op.operands] at hz ⊢; exact .inr (.inl hz))
    have gu : ∀ d, optNat u T d = optNat u T' d := optNat_cong hu (hg.sub fun z hz => by simp [Op.operands] at hz ⊢; exact .inr (.inr (.inl hz)))
    have gm : ∀ d, optNat m T d = optNat m T' d := optNat_cong hm (hg.sub fun z hz => by simp [Op.operands] at hz ⊢; exact .inr (.inr (.inr hz)))
    have gb : ∀ {α : Type} (dh cap : Nat) (K : Nat → Nat → Option α), boundsV l u T dh cap K = boundsV l u T' dh cap K := fun dh cap K => bounds_cong gl gu dh cap K
    have gm' : ∀ m', m = some m' → natO m' T = natO m' T' := fun m' e => by have := gm 0; rw [e] at this; exact this
    have gh : ∀ y', u = some y' → getO y' T = getO y' T' := by
      intro y' e
      subst e
      obtain ⟨Y, rfl, hy'⟩ := optOpd_some hu
      exact getO_cong hy' (hg.sub fun z hz => by simp [Op.operands] at hz ⊢; exact .inr (.inr (.inl hz)))
    split at h
    · cases h; simp only [COp.Cong, sliceSV, gy, gb]
    · obtain ⟨s, hs, h⟩ := ob_some.1 h
      split at h
      · cases h
        have gv : sliceV s y l u none T = sliceV s y l u none T' := by
          cases u with
          | none => simp only [sliceV, gy, gb, gm]
          | some y' => have gh' := gh y' rfl; cases l <;> simp only [sliceV, gy, gb, gm, gh']
        exact ⟨⟨gv, fun H => by simp only [sliceR, gy, gb]⟩, by simp only [sliceE, gv, gy, gb]⟩
      · split at h
        · cases h
          simp only [COp.Cong, sliceV, gy, gb, gm, gm' _ rfl]
        · cases h
    · obtain ⟨s, hs, h⟩ := ob_some.1 h
      split at h
      · cases h; simp only [COp.Cong, sliceAV, gy, gb]; rfl
      · cases h
    · cases h
  | fieldAddr s x f =>
    obtain ⟨y, hy, h⟩ := ob_some.1 h
    have g := one hy (by simp [Op.operands])
    split at h
    · obtain ⟨fl, hf, h⟩ := ob_some.1 h
      split at h
      · cases h; simp only [COp.Cong, faddrV, g]
      · cases h
    · cases h
  | field t x f =>
    obtain ⟨y, hy, h⟩ := ob_some.1 h
    have g := one hy (by simp [Op.operands])
    split at h
    · obtain ⟨fl, hf, h⟩ := ob_some.1 h
      obtain ⟨n, hn, h⟩ := ob_some.1 h
      obtain ⟨b, hb, h⟩ := ob_some.1 h; cases h
      simp only [COp.Cong, fieldV, g]
    · cases h
  | indexAddr t x i =>
    obtain ⟨y, hy, h⟩ := ob_some.1 h
    obtain ⟨j, hj, h⟩ := ob_some.1 h
    have g := one hy (by simp [Op.operands])
    have gj : natO j T = natO j T' := by unfold natO; rw [one hj (by simp [Op.operands])]
    split at h
    · obtain ⟨s, hs, h⟩ := ob_some.1 h; cases h; simp only [COp.Cong, iaddrSV, g, gj]
    · obtain ⟨s, hs, h⟩ := ob_some.1 h; cases h; simp only [COp.Cong, iaddrAV, g, gj]
    · cases h
  | index t x i =>
    obtain ⟨y, hy, h⟩ := ob_some.1 h
    obtain ⟨j, hj, h⟩ := ob_some.1 h
    have g := one hy (by simp [Op.operands])
    have gj : natO j T = natO j T' := by unfold natO; rw [one hj (by simp [Op.operands])]
    split at h
    · cases h; simp only [COp.Cong, idxSV, g, gj]
    · obtain ⟨s, hs, h⟩ := ob_some.1 h
      obtain ⟨b, hb, h⟩ := ob_some.1 h; cases h
      simp only [COp.Cong, idxAV, g, gj]
    · cases h
  | lookup t x i okk =>
    obtain ⟨y, hy, h⟩ := ob_some.1 h
    obtain ⟨j, hj, h⟩ := ob_some.1 h
    have g := one hy (by simp [Op.operands])
    have gj := one hj (by simp [Op.operands])
    split at h
    · obtain ⟨kd, hkd, h⟩ := ob_some.1 h
      obtain ⟨z, hz, h⟩ := ob_some.1 h
      split at h
      · cases h; intro H; simp only [lookupSV, g, gj]
      · cases h; intro H; simp only [lookupV, g, gj]
    · cases h
  | mapUpdate t m kk v =>
    obtain ⟨x, hx, h⟩ := ob_some.1 h
    obtain ⟨y, hy, h⟩ := ob_some.1 h
    obtain ⟨z, hz, h⟩ := ob_some.1 h
    split at h
    · obtain ⟨kd, hkd, h⟩ := ob_some.1 h
      split at h
      · cases h; intro H; simp only [mapsetSR, one hx (by simp [Op.operands]), one hy (by simp [Op.operands]), one hz (by simp [Op.operands])]
      · cases h; intro H; simp only [mapsetR, one hx (by simp [Op.operands]), one hy (by simp [Op.operands]), one hz (by simp [Op.operands])]
    · cases h
  | insert t m kk v =>
    obtain ⟨x, hx, h⟩ := ob_some.1 h
    obtain ⟨y, hy, h⟩ := ob_some.1 h
    obtain ⟨z, hz, h⟩ := ob_some.1 h
    split at h
    · obtain ⟨kd, hkd, h⟩ := ob_some.1 h
      split at h
      · cases h; intro H; simp only [mapsetSR, one hx (by simp [Op.operands]), one hy (by simp [Op.operands]), one hz (by simp [Op.operands])]
      · cases h; intro H; simp only [mapsetR, one hx (by simp [Op.operands]), one hy (by simp [Op.operands]), one hz (by simp [Op.operands])]
    · cases h
  | extract x i => obtain ⟨y, hy, h⟩ := ob_some.1 h; cases h; simp only [COp.Cong, extV, one hy (by simp [Op.operands])]
  | range t x =>
    obtain ⟨y, hy, h⟩ := ob_some.1 h
    split at h
    · cases h; intro H; simp only [rangeSR, one hy (by simp [Op.operands])]
    · cases h
  | next x s =>
    cases s
    · cases h
    · obtain ⟨y, hy, h⟩ := ob_some.1 h; cases h
      intro H; simp only [nextSR, one hy (by simp [Op.operands])]
  | typeAssert x xt t ok =>
    obtain ⟨y, hy, h⟩ := ob_some.1 h
    obtain ⟨d, hd, h⟩ := ob_some.1 h; cases h
    simp only [COp.Cong, tasV, one hy (by simp [Op.operands])]
  | call c => exact cCall_cong h (hg.sub fun x hx => by simpa [Op.operands] using hx)
  | defer c =>
    change (match cCall E c with | some (.call f l) => some (.defer (.c (.fn f [] [])) l) | some (.dyn x l) => some (.defer x l) | _ => none) = some k at h
    split at h
    · cases h; trivial
    · cases h; trivial
    · cases h
  | _ => cases h
end
end Go.Ev
/- Drawn regions: heaps as functions of names. -/
namespace Go.Ev
structure HRf (ng : Nat) (φ : Phi) (g : Pos → Blk → Prop) (nx : Pos) (w : World) : Prop where
  blk : ∀ b B, g b B → ∃ p o, φ b = some p ∧ w.heap[p.blk]? = some o ∧ BR φ p B o
  inj : ∀ b b' B B' p p', g b B → g b' B' → φ b = some p → φ b' = some p' → p.blk = p'.blk → b = b'
  new : ∀ b : Pos, nx.val ≤ b.val → φ b = none
  glob : ∀ n, n < ng → ∃ p, φ (posOf n) = some p ∧ p.blk = n ∧ p.off = 0
structure GLf (E : Env) (φ : Phi) (g : Pos → Blk → Prop) (w : World) : Prop where
  at_ : ∀ b l, Tr.get b E.gl = some l → ∃ p o t, φ b = some p ∧ w.heap[p.blk]? = some o ∧ BR φ p (.cells (t + 1) l) o
  sep : ∀ b l p b' B' p', Tr.get b E.gl = some l → φ b = some p → g b' B' → φ b' = some p' → p'.blk ≠ p.blk
  inj : ∀ b l b' l' p p', Tr.get b E.gl = some l → Tr.get b' E.gl = some l' → φ b = some p → φ b' = some p' → p.blk = p'.blk → b = b'
structure Keepf (lim : Nat) (φ : Phi) (g : Pos → Blk → Prop) (nx : Pos) (w : World) (φ' : Phi) (g' : Pos → Blk → Prop) (nx' : Pos) (w' : World) : Prop where
  le : φ.le φ'
  size : w.heap.size ≤ w'.heap.size
  old : ∀ i, i < w.heap.size → (∀ b B p, g b B → φ b = some p → p.blk ≠ i) → w'.heap[i]? = w.heap[i]?
  own : ∀ b B p, g' b B → φ' b = some p → p.blk < w.heap.size → ∃ b₀ B₀ p₀, g b₀ B₀ ∧ φ b₀ = some p₀ ∧ p₀.blk = p.blk
  tape : w'.tape = w.tape
  os : w'.os = w.os
  out : w'.output = w.output
  dom : ∀ b : Pos, b.val < lim → φ' b = φ b
  nx : nx.val ≤ nx'.val
def fn (H : Hp) : Pos → Blk → Prop := fun b B => Tr.get b H.t = some B
def Sub (H : Hp) (g : Pos → Blk → Prop) : Prop := ∀ b B, Tr.get b H.t = some B → g b B
section
variable {E : Env} {ng : Nat} {φ φ' : Phi} {g g' : Pos → Blk → Prop} {nx nx' : Pos} {w w' : World} {H H' : Hp}
theorem HRf.hr (h : HRf ng φ g nx w) (hs : Sub H g) (hn : H.nx = nx) : HR ng φ H w :=
  ⟨fun b B hb => h.blk b B (hs b B hb), fun b b' B B' p p' hb hb' => h.inj b b' B B' p p' (hs b B hb) (hs b' B' hb'), fun b hb => h.new b (hn ▸ hb), h.glob⟩
theorem HR.f (h : HR ng φ H w) : HRf ng φ (fn H) H.nx w := ⟨h.blk, h.inj, h.new, h.glob⟩
theorem HRf.sub (h : HRf ng φ g nx w) (hs : ∀ b B, g' b B → g b B) : HRf ng φ g' nx w :=
  ⟨fun b B hb => h.blk b B (hs b B hb), fun b b' B B' p p' hb hb' => h.inj b b' B B' p p' (hs b B hb) (hs b' B' hb'), h.new, h.glob⟩
theorem GLf.gl (h : GLf E φ g w) (hs : Sub H g) : GL E φ H w := ⟨h.at_, fun b l p b' B' p' hb hp hb' => h.sep b l p b' B' p' hb hp (hs b' B' hb'), h.inj⟩
theorem GL.f (h : GL E φ H w) : GLf E φ (fn H) w := ⟨h.at_, h.sep, h.inj⟩
theorem GLf.sub (h : GLf E φ g w) (hs : ∀ b B, g' b B → g b B) : GLf E φ g' w := ⟨h.at_, fun b l p b' B' p' hb hp hb' => h.sep b l p b' B' p' hb hp (hs b' B' hb'), h.inj⟩
theorem Keepf.refl (lim : Nat) : Keepf lim φ g nx w φ g nx w :=
  ⟨φ.le_refl, Nat.le_refl _, fun _ _ _ => rfl, fun b B p hb hp _ => ⟨b, B, p, hb, hp, rfl⟩, rfl, rfl, rfl, fun _ _ => rfl, Nat.le_refl _⟩
theorem Keepf.trans {lim : Nat} {φ'' : Phi} {g'' : Pos → Blk → Prop} {nx'' : Pos} {w'' : World} (h : Keepf lim φ g nx w φ' g' nx' w') (h' : Keepf lim φ' g' nx' w' φ'' g'' nx'' w'') : Keepf lim φ g nx w φ'' g'' nx'' w'' := by
  refine ⟨Phi.le_trans h.le h'.le, Nat.le_trans h.size h'.size, fun i hi hn => ?_, fun b B p hb hp hl => ?_, h'.tape.trans h.tape, h'.os.trans h.os, h'.out.trans h.out,
    fun b hb => (h'.dom b hb).trans (h.dom b hb), Nat.le_trans h.nx h'.nx⟩
  · rw [h'.old i (Nat.lt_of_lt_of_le hi h.size), h.old i hi hn]
    intro b B p hb hp he
    obtain ⟨b₀, B₀, p₀, hb₀, hp₀, he₀⟩ := h.own b B p hb hp (he ▸ hi)
    exact hn b₀ B₀ p₀ hb₀ hp₀ (he₀.trans he)
  · obtain ⟨b₁, B₁, p₁, hb₁, hp₁, he₁⟩ := h'.own b B p hb hp (Nat.lt_of_lt_of_le hl h.size)
    obtain ⟨b₀, B₀, p₀, hb₀, hp₀, he₀⟩ := h.own b₁ B₁ p₁ hb₁ hp₁ (he₁ ▸ hl)
    exact ⟨b₀, B₀, p₀, hb₀, hp₀, he₀.trans he₁⟩
/-- less is known in the end -/
theorem Keepf.less {lim : Nat} (h : Keepf lim φ g nx w φ' g' nx' w') {g'' : Pos → Blk → Prop} (hs : ∀ b B, g'' b B → g' b B) : Keepf lim φ g nx w φ' g'' nx' w' :=
  ⟨h.le, h.size, h.old, fun b B p hb hp hl => h.own b B p (hs b B hb) hp hl, h.tape, h.os, h.out, h.dom, h.nx⟩
theorem Keepf.keep {lim : Nat} (h : Keepf lim φ (fn H) nx w φ' g' nx' w') (hl : H.nx.val ≤ lim) (hn : H.nx.val ≤ H'.nx.val) (hs : Sub H' g') : Keep φ H w φ' H' w' :=
  ⟨h.le, h.size, h.old, fun b B p hb hp hl => h.own b B p (hs b B hb) hp hl, h.tape, h.os, h.out, fun b hb => h.dom b (Nat.lt_of_lt_of_le hb hl), hn⟩
/-- what a run on a part of the heap leaves: the rest as it was -/
def over (H : Hp) (g : Pos → Blk → Prop) (H' : Hp) : Pos → Blk → Prop := fun b B => (Tr.get b H.t = none ∧ g b B) ∨ Tr.get b H'.t = some B
theorem step_over {lim : Nat} (h : HRf ng φ g nx w) (hs : Sub H g) (hn : H.nx = nx) (hl : lim ≤ nx.val) (h' : HR ng φ' H' w') (hk : Keep φ H w φ' H' w') :
    HRf ng φ' (over H g H') H'.nx w' ∧ Keepf lim φ g nx w φ' (over H g H') H'.nx w' ∧ (GLf E φ g w → GLf E φ' (over H g H') w') := by
  -- a block of the rest
  have hrest : ∀ b B, Tr.get b H.t = none → g b B → ∃ p o, φ b = some p ∧ φ' b = some p ∧ w.heap[p.blk]? = some o ∧ w'.heap[p.blk]? = some o ∧ BR φ p B o ∧ (∀ b' B' p', Tr.get b' H.t = some B' → φ b' = some p' → p'.blk ≠ p.blk) := by
    intro b B hb hg
    obtain ⟨p, o, hp, ho, hB⟩ := h.blk b B hg
    have hsep : ∀ b' B' p', Tr.get b' H.t = some B' → φ b' = some p' → p'.blk ≠ p.blk := by
      intro b' B' p' hb' hp' he
      have := h.inj b' b B' B p' p (hs b' B' hb') hg hp' hp he
      subst this
      rw [hb] at hb'; cases hb'
    exact ⟨p, o, hp, hk.le.at_ _ _ hp, ho, by rw [hk.old p.blk (Array.getElem?_eq_some_iff.1 ho).1 hsep]; exact ho, hB, hsep⟩
  have hmix : ∀ b B b' B' p p', Tr.get b H.t = none → g b B → Tr.get b' H'.t = some B' → φ' b = some p → φ' b' = some p' → p.blk ≠ p'.blk := by
    intro b B b' B' p p' hb hg hb' hp hp' he
    obtain ⟨q, o, hq, hq', ho, _, _, hsep⟩ := hrest b B hb hg
    rw [hp] at hq'; cases hq'
    obtain ⟨b₀, B₀, p₀, hb₀, hp₀, he₀⟩ := hk.own b' B' p' hb' hp' (he ▸ (Array.getElem?_eq_some_iff.1 ho).1)
    exact hsep b₀ B₀ p₀ hb₀ hp₀ (he₀.trans he.symm)
  refine ⟨⟨fun b B hb => ?_, fun b b' B B' p p' hb hb' hp hp' he => ?_, h'.new, h'.glob⟩, ⟨hk.le, hk.size, fun i hi hnn => hk.old i hi fun b B p hb hp => hnn b B p (hs b B hb) hp, fun b B p hb hp hlt => ?_, hk.tape, hk.os, hk.out,
    fun b hb => hk.dom b (by rw [hn]; omega), by rw [← hn]; exact hk.nx⟩, fun hG => ⟨fun b l hb => ?_, fun b l p b' B' p' hb hp hb' hp' => ?_, fun b l b' l' p p' hb hb' hp hp' => ?_⟩⟩
  · rcases hb with ⟨h1, h2⟩ | h1
    · obtain ⟨p, o, _, hp, _, ho, hB, _⟩ := hrest b B h1 h2
      exact ⟨p, o, hp, ho, hB.mono hk.le⟩
    · exact h'.blk b B h1
  · rcases hb with ⟨h1, h2⟩ | h1 <;> rcases hb' with ⟨h3, h4⟩ | h3
    · obtain ⟨q, _, hq, hq', _⟩ := hrest b B h1 h2
      obtain ⟨r, _, hr, hr', _⟩ := hrest b' B' h3 h4
      rw [hp] at hq'; cases hq'
      rw [hp'] at hr'; cases hr'
      exact h.inj b b' B B' p p' h2 h4 hq hr he
    · exact absurd he (hmix b B b' B' p p' h1 h2 h3 hp hp')
    · exact absurd he.symm (hmix b' B' b B p' p h3 h4 h1 hp' hp)
    · exact h'.inj b b' B B' p p' h1 h3 hp hp' he
  · rcases hb with ⟨h1, h2⟩ | h1
    · obtain ⟨q, _, hq, hq', _⟩ := hrest b B h1 h2
      rw [hp] at hq'; cases hq'
      exact ⟨b, B, p, h2, hq, rfl⟩
    · obtain ⟨b₀, B₀, p₀, hb₀, hp₀, he₀⟩ := hk.own b B p h1 hp hlt
      exact ⟨b₀, B₀, p₀, hs _ _ hb₀, hp₀, he₀⟩
  · exact ((hG.gl hs).keep hk).at_ b l hb
  · rcases hb' with ⟨h1, h2⟩ | h1
    · obtain ⟨q, _, hq, hq', _⟩ := hrest b' B' h1 h2
      rw [hp'] at hq'; cases hq'
      obtain ⟨r, _, _, hr, _⟩ := hG.at_ b l hb
      have := hk.le.at_ _ _ hr
      rw [hp] at this; cases this
      exact hG.sep b l p b' B' p' hb hr h2 hq
    · exact ((hG.gl hs).keep hk).sep b l p b' B' p' hb hp h1 hp'
  · exact ((hG.gl hs).keep hk).inj b l b' l' p p' hb hb' hp hp'
/-- a new block, under a name put by -/
theorem alloc_over {lim : Nat} (h : HRf ng φ g nx w) {c : Pos} (hc : φ c = none) (hcn : c.val < nx.val) (hl : lim ≤ c.val) {l : List AV} {A : Array Value} {e : TypeId} (hA : VRL φ l A.toList) :
    let φ' := φ.upd c ⟨w.heap.size, 0, A.size, 0, 0⟩
    let w' : World := { w with heap := w.heap.push (.cells A e) }
    let g' : Pos → Blk → Prop := fun b B => if b = c then B = .cells (e + 1) l else g b B
    φ' c = some ⟨w.heap.size, 0, A.size, 0, 0⟩ ∧ HRf ng φ' g' nx w' ∧ Keepf lim φ g nx w φ' g' nx w' ∧ (GLf E φ g w → GLf E φ' g' w') := by
  intro φ' w' g'
  have hle : φ.le φ' := Phi.le_upd hc _
  have hself : φ' c = some ⟨w.heap.size, 0, A.size, 0, 0⟩ := Phi.upd_self _ _ _
  have hother : ∀ b, b ≠ c → φ' b = φ b := fun b hb => by show (if b = c then some _ else φ b) = φ b; rw [if_neg hb]
  have hgc : ∀ b, b ≠ c → g' b = g b := fun b hb => by funext B; show (if b = c then B = _ else g b B) = g b B; rw [if_neg hb]
  have hgs : g' c = fun B => B = .cells (e + 1) l := by funext B; show (if c = c then B = _ else g c B) = _; rw [if_pos rfl]
  have hkeep : ∀ i, i < w.heap.size → w'.heap[i]? = w.heap[i]? := fun i hi => by
    show (w.heap.push _)[i]? = _
    rw [Array.getElem?_push, if_neg (by omega)]
  have hlt : ∀ b B p, g b B → φ b = some p → p.blk < w.heap.size := fun b B p hb hp => by
    obtain ⟨q, o, hq, ho, _⟩ := h.blk b B hb
    rw [hp] at hq; cases hq
    exact (Array.getElem?_eq_some_iff.1 ho).1
  have hB : BR φ' ⟨w.heap.size, 0, A.size, 0, 0⟩ (.cells (e + 1) l) (.cells A e) := by
    refine .cells (by rw [hA.length]; simp) (by simp) (fun i v hv => ?_) (fun i _ => by simp) (fun t h => ⟨rfl, rfl, Nat.succ.inj h⟩)
    obtain ⟨x, hx, hr⟩ := hA.get hv
    exact ⟨x, by simp only [Nat.zero_add]; rw [← Array.getElem?_toList]; exact hx, hr.mono hle⟩
  refine ⟨hself, ⟨fun b B hb => ?_, fun b b' B B' p p' hb hb' hp hp' he => ?_, fun b hb => ?_, fun n hn => ?_⟩,
    ⟨hle, by show _ ≤ (w.heap.push _).size; simp, fun i hi _ => hkeep i hi, fun b B p hb hp hl => ?_, rfl, rfl, rfl, fun b hb => hother b (fun e => by subst e; omega), Nat.le_refl _⟩,
    fun hG => ⟨fun b l' hb => ?_, fun b l' p b' B' p' hb hp hb' hp' => ?_, fun b l' b' l'' p p' hb hb' hp hp' => ?_⟩⟩
  · by_cases hbc : b = c
    · subst hbc
      rw [hgs] at hb; cases hb
      exact ⟨_, .cells A e, hself, by show (w.heap.push _)[w.heap.size]? = _; simp, hB⟩
    · rw [hgc b hbc] at hb
      obtain ⟨p, o, hp, ho, hB⟩ := h.blk b B hb
      exact ⟨p, o, hle.at_ _ _ hp, by rw [hkeep _ (Array.getElem?_eq_some_iff.1 ho).1]; exact ho, hB.mono hle⟩
  · by_cases hbc : b = c <;> by_cases hbc' : b' = c
    · rw [hbc, hbc']
    · exfalso
      subst hbc
      rw [hself] at hp; cases hp
      rw [hother _ hbc'] at hp'
      rw [hgc _ hbc'] at hb'
      have := hlt b' B' p' hb' hp'
      simp only at he; omega
    · exfalso
      subst hbc'
      rw [hself] at hp'; cases hp'
      rw [hother _ hbc] at hp
      rw [hgc _ hbc] at hb
      have := hlt b B p hb hp
      simp only at he; omega
    · rw [hother _ hbc] at hp
      rw [hother _ hbc'] at hp'
      rw [hgc _ hbc] at hb
      rw [hgc _ hbc'] at hb'
      exact h.inj b b' B B' p p' hb hb' hp hp' he
  · rw [hother b (fun e => by subst e; omega)]; exact h.new b hb
  · obtain ⟨p, hp, h1, h2⟩ := h.glob n hn
    exact ⟨p, hle.at_ _ _ hp, h1, h2⟩
  · by_cases hbc : b = c
    · subst hbc
      rw [hself] at hp; cases hp
      simp only at hl; omega
    · rw [hother b hbc] at hp
      rw [hgc b hbc] at hb
      exact ⟨b, B, p, hb, hp, rfl⟩
  · obtain ⟨p, o, t, hp, ho, hB⟩ := hG.at_ b l' hb
    exact ⟨p, o, t, hle.at_ _ _ hp, by rw [hkeep _ (Array.getElem?_eq_some_iff.1 ho).1]; exact ho, hB.mono hle⟩
  · obtain ⟨q, o, _, hq, ho, _⟩ := hG.at_ b l' hb
    have := hle.at_ _ _ hq
    rw [hp] at this; cases this
    by_cases hbc : b' = c
    · subst hbc
      rw [hself] at hp'; cases hp'
      have := (Array.getElem?_eq_some_iff.1 ho).1
      simp only; omega
    · rw [hother b' hbc] at hp'
      rw [hgc b' hbc] at hb'
      exact hG.sep b l' p b' B' p' hb hq hb' hp'
  · obtain ⟨q, _, _, hq, _⟩ := hG.at_ b l' hb
    obtain ⟨q', _, _, hq', _⟩ := hG.at_ b' l'' hb'
    have h1 := hle.at_ _ _ hq
    have h2 := hle.at_ _ _ hq'
    rw [hp] at h1; cases h1
    rw [hp'] at h2; cases h2
    exact hG.inj b l' b' l'' p p' hb hb' hq hq'
end
/-! ### equal values, equal by their text -/
theorem allGo_eq {f : AV → AV → Bool} (hf : ∀ a b, f a b = true → a = b) : ∀ (l m : List AV), (lrec (X := List AV → Bool) (fun m => match m with | [] => true | _ => false)
      (fun a _ more m => match m with | [] => false | b :: m => (match f a b with | true => more () m | false => false)) l m) = true → l = m
  | [], [], _ => rfl
  | [], _ :: _, h => by cases h
  | a :: l, [], h => by cases h
  | a :: l, b :: m, h => by
    change (match f a b with | true => _ | false => false) = true at h
    split at h
    · next h1 => rw [hf a b h1, allGo_eq hf l m h]
    · cases h
theorem Cd.beq_eq (a b : Cd) (h : Cd.beq a b = true) : a = b := by
  unfold Cd.beq at h
  split at h
  all_goals first
    | (split at h
       · next h1 => rw [Tm.beq_eq _ _ h1, Tm.beq_eq _ _ h]
       · cases h)
    | cases h
theorem cdsEq_eq : ∀ (l m : List Cd), cdsEq l m = true → l = m
  | [], [], _ => rfl
  | [], _ :: _, h => by cases h
  | _ :: _, [], h => by cases h
  | a :: l, b :: m, h => by
    change (match Cd.beq a b with | true => cdsEq l m | false => false) = true at h
    split at h
    · next h1 => rw [Cd.beq_eq a b h1, cdsEq_eq l m h]
    · cases h
theorem avEq_eq : ∀ (d : Nat) (x y : AV), avEq d x y = true → x = y := by
  intro d
  induction d with
  | zero => intro x y h; cases h
  | succ d ih =>
    intro x y h
    have hall := allGo_eq (f := avEq d) ih
    cases x <;> cases y
    all_goals try rfl
    all_goals try (cases h; done)
    all_goals try ((rename_i b; cases b <;> cases h); done)
    all_goals try ((rename_i b _; cases b <;> cases h); done)
    all_goals try ((rename_i b _ _; cases b <;> cases h); done)
    all_goals try ((rename_i b _ _ _; cases b <;> cases h); done)
    all_goals try ((rename_i b _ _ _ _ _; cases b <;> cases h); done)
    case bool.bool a b => cases a <;> cases b <;> first | rfl | cases h
    case sym.sym D j a F k b =>
      change (match Nat.beq (kno j) (kno k), Tm.beq a b with | true, true => cdsEq D F | _, _ => false) = true at h
      split at h
      · next h1 h2 => rw [kinds_eq h1, Tm.beq_eq _ _ h2, cdsEq_eq _ _ h]
      · cases h
    case osl.osl D a F b =>
      change (match Tm.beq a b with | true => cdsEq D F | false => false) = true at h
      split at h
      · next h1 => rw [Tm.beq_eq _ _ h1, cdsEq_eq _ _ h]
      · cases h
    case int.int j a k b =>
      change (match Nat.beq (kno j) (kno k) with | true => ieq a b | false => false) = true at h
      split at h
      · next h1 => rw [kinds_eq h1, (ieq_iff _ _).1 h]
      · cases h
    case str.str n c m e =>
      change seq n c m e = true at h
      unfold seq at h
      split at h
      · next h1 => rw [Nat.eq_of_beq_eq_true h1, Nat.eq_of_beq_eq_true h]
      · cases h
    case ptr.ptr b o c p =>
      change (match Pos.beq b c with | true => Nat.beq o p | false => false) = true at h
      split at h
      · next h1 => rw [(Pos.beq_iff _ _).1 h1, Nat.eq_of_beq_eq_true h]
      · cases h
    case slice.slice b o l c op b' o' l' c' op' =>
      change (match Pos.beq b b', Nat.beq o o', Nat.beq l l', Nat.beq c c', Nat.beq op op' with | true, true, true, true, true => true | _, _, _, _, _ => false) = true at h
      split at h
      · next h1 h2 h3 h4 h5 => rw [(Pos.beq_iff _ _).1 h1, Nat.eq_of_beq_eq_true h2, Nat.eq_of_beq_eq_true h3, Nat.eq_of_beq_eq_true h4, Nat.eq_of_beq_eq_true h5]
      · cases h
    case map.map b c => rw [(Pos.beq_iff _ _).1 h]
    case fn.fn f a b g c e =>
      change (match Nat.beq f g with | true => (match _ with | true => _ | false => false) | false => false) = true at h
      split at h
      · next h1 =>
        split at h
        · next h2 => rw [Nat.eq_of_beq_eq_true h1, hall _ _ h2, hall _ _ h]
        · cases h
      · cases h
    case yld.yld b c => rw [(Pos.beq_iff _ _).1 h]
    case iface.iface t v u x =>
      change (match Nat.beq t u with | true => avEq d v x | false => false) = true at h
      split at h
      · next h1 => rw [Nat.eq_of_beq_eq_true h1, ih _ _ h]
      · cases h
    case agg.agg l m => rw [hall _ _ h]
    case tup.tup l m => rw [hall _ _ h]
    case opq.opq i j => rw [Nat.eq_of_beq_eq_true h]
end Go.Ev
/- Drawn regions: the plan, and the operations in the order of the text. -/
namespace Go.Ev
/-! ### small data -/
theorem mapL_eq {α β : Type} (f : α → β) : ∀ l : List α, mapL f l = l.map f
  | [] => rfl
  | a :: l => by rw [List.map_cons, ← mapL_eq f l]; rfl
theorem countL_eq {α : Type} (f : α → Bool) : ∀ l : List α, countL f l = l.countP f
  | [] => rfl
  | a :: l => by
    have ih := countL_eq f l
    change (match f a with | true => Nat.succ (countL f l) | false => countL f l) = _
    rw [List.countP_cons, ih]
    cases f a <;> simp
theorem allL_iff' {α : Type} (f : α → Bool) (l : List α) : allL f l = true ↔ ∀ v ∈ l, f v = true := allL_iff f l
theorem tb_eq (m i : Nat) : tb m i = m.testBit i := by
  rw [Nat.testBit_eq_decide_div_mod_eq]
  unfold tb
  show Nat.beq (m / 2 ^ i % 2) 1 = _
  cases h : Nat.beq (m / 2 ^ i % 2) 1 with
  | true => simp [Nat.eq_of_beq_eq_true h]
  | false => simp [Nat.ne_of_beq_eq_false h]
theorem mem_iff (t : Nat) : ∀ l : List Nat, mem t l = true ↔ t ∈ l
  | [] => by simp [mem, lrec]
  | a :: l => by
    have ih := mem_iff t l
    change (match Nat.beq t a with | true => true | false => mem t l) = true ↔ _
    cases h : Nat.beq t a with
    | true => simp [Nat.eq_of_beq_eq_true h]
    | false => have := Nat.ne_of_beq_eq_false h; simp [ih, this]
theorem tmpsOf_mem (t : Nat) : ∀ l : List Operand, t ∈ tmpsOf l ↔ Operand.tmp t ∈ l
  | [] => by simp [tmpsOf, lrec]
  | x :: l => by
    have ih := tmpsOf_mem t l
    change t ∈ (match x with | .tmp t => t :: tmpsOf l | _ => tmpsOf l) ↔ _
    cases x <;> simp [ih]
/-! ### the plan -/
structure PlanFact (E : Env) (n : Nat) (ops : Array Oper) (L : List PC) : Prop where
  len : L.length = ops.size
  at_ : ∀ (i : Nat) (p : PC), L[i]? = some p → ∃ o, ops[i]? = some o ∧ p.e.i = i ∧ cOper E n ops o = some p.e.c ∧ p.e.dst = o.dst ∧ p.e.names = namesOf ops o ∧ (∀ e ∈ o.after.toList, Region.binds .any e = true → e.on < i) ∧
    (∀ j, tb p.e.m j = true → ∃ e ∈ o.after.toList, Region.binds .any e = true ∧ (j = e.on ∨ ∃ y, L[e.on]? = some y ∧ tb y.e.m j = true))
  apart : ∀ (i j : Nat) (p q : PC), i < j → L[i]? = some p → L[j]? = some q → apartP p q = true
  lohi : ∀ p ∈ L, p.e.c.op.reads = true → p.lo = L.countP (fun q => q.chain && tb p.e.m q.e.i) ∧ p.hi = L.countP (fun q => q.chain && !tb q.e.m p.e.i)
section
variable {E : Env}
noncomputable def maskGo (ms : Tr Nat) (es : List Edge) (s : Nat) : Nat := lrec (X := Nat → Nat) (fun s => s) (fun e _ ih s => match Region.binds .any e with
    | true => ih () (Nat.lor (Nat.lor s (Nat.pow 2 e.on)) (match Tr.get (posOf e.on) ms with | some m => m | none => 0))
    | false => ih () s) es s
noncomputable def planGo (E : Env) (n : Nat) (ops : Array Oper) (l : List Oper) (k : Nat) (ms : Tr Nat) : Option (List PE) := lrec (X := Nat → Tr Nat → Option (List PE)) (fun _ _ => some [])
        (fun o _ ih i ms => match cOper E n ops o, edgesOk i o.after.toList with
          | some c, true => Tr.setK (some (maskOf o.after.toList ms)) (posOf i) ms fun ms' =>
            ob (ih () (Nat.succ i) ms') fun r => some (⟨i, c, o.dst, namesOf ops o, maskOf o.after.toList ms⟩ :: r)
          | _, _ => none) l k ms
theorem maskOf_bits (ms : Tr Nat) (j : Nat) : ∀ es : List Edge, tb (maskOf es ms) j = true → ∃ e ∈ es, Region.binds .any e = true ∧ (j = e.on ∨ ∃ m, Tr.get (posOf e.on) ms = some m ∧ tb m j = true) := by
  have key : ∀ (es : List Edge) (s : Nat), tb (maskGo ms es s) j = true → tb s j = true ∨ ∃ e ∈ es, Region.binds .any e = true ∧ (j = e.on ∨ ∃ m, Tr.get (posOf e.on) ms = some m ∧ tb m j = true) := by
    intro es
    induction es with
    | nil => intro s h; exact .inl h
    | cons e es ih =>
      intro s h
      change tb (match Region.binds .any e with
        | true => maskGo ms es (Nat.lor (Nat.lor s (Nat.pow 2 e.on)) (match Tr.get (posOf e.on) ms with | some m => m | none => 0))
        | false => maskGo ms es s) j = true at h
      split at h
      · next hb =>
        rcases ih _ h with h1 | ⟨e', he', h2⟩
        · rw [tb_eq] at h1
          have h1 : ((s ||| 2 ^ e.on) ||| (match Tr.get (posOf e.on) ms with | some m => m | none => 0)).testBit j = true := h1
          rw [Nat.testBit_or, Nat.testBit_or, Bool.or_eq_true, Bool.or_eq_true] at h1
          rcases h1 with (h1 | h1) | h1
          · exact .inl (by rw [tb_eq]; exact h1)
          · right
            refine ⟨e, by simp, hb, .inl ?_⟩
            rw [Nat.testBit_two_pow] at h1
            exact (of_decide_eq_true h1).symm
          · right
            refine ⟨e, by simp, hb, .inr ?_⟩
            split at h1
            · next m hm => exact ⟨m, hm, by rw [tb_eq]; exact h1⟩
            · simp at h1
        · exact .inr ⟨e', List.mem_cons_of_mem _ he', h2⟩
      · rcases ih _ h with h1 | ⟨e', he', h2⟩
        · exact .inl h1
        · exact .inr ⟨e', List.mem_cons_of_mem _ he', h2⟩
  intro es h
  rcases key es 0 h with h1 | h1
  · rw [tb_eq] at h1; simp at h1
  · exact h1
theorem edgesOk_ok {i : Nat} {es : List Edge} (h : edgesOk i es = true) : ∀ e ∈ es, Region.binds .any e = true → e.on < i := by
  intro e he hb
  have := (allL_iff' _ _).1 h e he
  rw [hb] at this
  exact lt_of_blt this
theorem planE_ok {n : Nat} {ops : Array Oper} {es : List PE} (h : planE E n ops ops.toList = some es) : es.length = ops.size ∧
    ∀ (i : Nat) (x : PE), es[i]? = some x → ∃ o, ops[i]? = some o ∧ x.i = i ∧ cOper E n ops o = some x.c ∧ x.dst = o.dst ∧ x.names = namesOf ops o ∧ (∀ e ∈ o.after.toList, Region.binds .any e = true → e.on < i) ∧
      (∀ j, tb x.m j = true → ∃ e ∈ o.after.toList, Region.binds .any e = true ∧ (j = e.on ∨ ∃ y, es[e.on]? = some y ∧ tb y.m j = true)) := by
  have key : ∀ (l : List Oper) (k : Nat) (ms : Tr Nat) (pre es : List PE), l = ops.toList.drop k → pre.length = k →
      (∀ i m, Tr.get (posOf i) ms = some m → ∃ y, pre[i]? = some y ∧ y.m = m) →
      planGo E n ops l k ms = some es →
      es.length = l.length ∧ ∀ (i : Nat) (x : PE), es[i]? = some x → ∃ o, ops[k + i]? = some o ∧ x.i = k + i ∧ cOper E n ops o = some x.c ∧ x.dst = o.dst ∧ x.names = namesOf ops o ∧ (∀ e ∈ o.after.toList, Region.binds .any e = true → e.on < k + i) ∧
        (∀ j, tb x.m j = true → ∃ e ∈ o.after.toList, Region.binds .any e = true ∧ (j = e.on ∨ ∃ y, (pre ++ es)[e.on]? = some y ∧ tb y.m j = true)) := by
    intro l
    induction l with
    | nil => intro k ms pre es hl hp hms h; cases h; exact ⟨rfl, fun i x hx => by simp at hx⟩
    | cons o l ih =>
      intro k ms pre es hl hp hms h
      change (match cOper E n ops o, edgesOk k o.after.toList with
          | some c, true => Tr.setK (some (maskOf o.after.toList ms)) (posOf k) ms fun ms' =>
            ob (planGo E n ops l (Nat.succ k) ms') fun r => some (⟨k, c, o.dst, namesOf ops o, maskOf o.after.toList ms⟩ :: r)
          | _, _ => none) = some es at h
      split at h
      case h_2 => cases h
      next c hc he =>
      rw [Tr.setK_eq] at h
      obtain ⟨r, hr, h⟩ := ob_some.1 h
      cases h
      have hl' : l = ops.toList.drop (k + 1) := by
        have := congrArg List.tail hl
        simpa [List.tail_drop] using this
      have ho : ops[k]? = some o := by
        have : (ops.toList.drop k)[0]? = some o := by rw [← hl]; rfl
        rw [List.getElem?_drop, Nat.add_zero, Array.getElem?_toList] at this
        exact this
      obtain ⟨h1, h2⟩ := ih (k + 1) _ (pre ++ [⟨k, c, o.dst, namesOf ops o, maskOf o.after.toList ms⟩]) r hl' (by simp [hp]) (by
        intro i m hm
        rw [Tr.get_set] at hm
        by_cases e : i = k
        · subst e; simp at hm; subst hm; exact ⟨⟨i, c, o.dst, namesOf ops o, maskOf o.after.toList ms⟩, by rw [List.getElem?_append_right (by omega)]; simp [hp], rfl⟩
        · rw [if_neg (fun hh => e (posOf_inj hh))] at hm
          obtain ⟨y, hy, hy'⟩ := hms i m hm
          exact ⟨y, by rw [List.getElem?_append_left (List.getElem?_eq_some_iff.1 hy).1]; exact hy, hy'⟩) hr
      refine ⟨by simp [h1], fun i x hx => ?_⟩
      cases i with
      | zero =>
        simp at hx; subst hx
        refine ⟨o, by simpa using ho, rfl, hc, rfl, rfl, by simpa using edgesOk_ok he, fun j hj => ?_⟩
        obtain ⟨e, he1, he2, he3⟩ := maskOf_bits ms j _ hj
        refine ⟨e, he1, he2, ?_⟩
        rcases he3 with he3 | ⟨m, hm, hm'⟩
        · exact .inl he3
        · obtain ⟨y, hy, rfl⟩ := hms _ _ hm
          exact .inr ⟨y, by rw [List.getElem?_append_left (List.getElem?_eq_some_iff.1 hy).1]; exact hy, hm'⟩
      | succ i =>
        simp at hx
        obtain ⟨o', g1, g2, g3, g4, g5, g6, g7⟩ := h2 i x hx
        rw [show k + (i + 1) = k + 1 + i by omega]
        refine ⟨o', g1, g2, g3, g4, g5, g6, fun j hj => ?_⟩
        obtain ⟨e, he1, he2, he3⟩ := g7 j hj
        refine ⟨e, he1, he2, ?_⟩
        rcases he3 with he3 | ⟨y, hy, hy'⟩
        · exact .inl he3
        · exact .inr ⟨y, by simpa [List.append_assoc] using hy, hy'⟩
  obtain ⟨h1, h2⟩ := key ops.toList 0 .e [] es rfl rfl (fun i m hm => by rw [Tr.get_e] at hm; cases hm) h
  refine ⟨by simpa using h1, fun i x hx => ?_⟩
  have := h2 i x hx
  simpa using this
theorem planOk_ok {L : List PC} (h : planOk L = true) : ∀ (i j : Nat) (p q : PC), i < j → L[i]? = some p → L[j]? = some q → apartP p q = true := by
  induction L with
  | nil => intro i j p q _ hp; simp at hp
  | cons x L ih =>
    change (match allL (fun y => apartP x y) L with | true => planOk L | false => false) = true at h
    split at h
    case h_2 => cases h
    next h1 =>
    have h1 := (allL_iff' _ _).1 h1
    intro i j p q hij hp hq
    cases j with
    | zero => omega
    | succ j =>
      simp at hq
      cases i with
      | zero => simp at hp; subst hp; exact h1 q (List.mem_of_getElem? hq)
      | succ i => simp at hp; exact ih h i j p q (by omega) hp hq
theorem pcOf_e (es : List PE) (x : PE) : (pcOf es x).e = x := by unfold pcOf; split <;> rfl
theorem reads_floats {c : COp} (h : c.reads = true) : c.floats = false ∧ c.effects = false := by cases c <;> simp_all [COp.reads, COp.floats, COp.effects]
theorem pcOf_chain (es : List PE) (x : PE) : (pcOf es x).chain = chainE es x := by
  unfold chainE PC.chain
  rw [pcOf_e]
  cases h : x.c.op.reads with
  | true =>
    obtain ⟨h1, h2⟩ := reads_floats h
    have h3 : floatPE es x = false := by unfold floatPE; rw [h1]
    have h4 : (pcOf es x).fl = false := by unfold pcOf; simp only [h]
    rw [h3, h4]
  | false =>
    have h4 : (pcOf es x).fl = floatPE es x := by unfold pcOf; simp only [h]
    rw [h4]
theorem plan_ok {n : Nat} {ops : Array Oper} {L : List PC} (h : plan E n ops = some L) : PlanFact E n ops L := by
  obtain ⟨es, hes, h⟩ := ob_some.1 h
  split at h
  case h_2 => cases h
  next hok =>
  cases h
  rw [mapL_eq] at hok ⊢
  obtain ⟨h1, h2⟩ := planE_ok hes
  have hget : ∀ (i : Nat) (p : PC), (es.map (pcOf es))[i]? = some p → ∃ x, es[i]? = some x ∧ p = pcOf es x := by
    intro i p hp
    rw [List.getElem?_map] at hp
    cases hx : es[i]? with
    | none => rw [hx] at hp; cases hp
    | some x => rw [hx] at hp; cases hp; exact ⟨x, rfl, rfl⟩
  refine ⟨by simp [h1], fun i p hp => ?_, planOk_ok hok, fun p hp hr => ?_⟩
  · obtain ⟨x, hx, rfl⟩ := hget i p hp
    rw [pcOf_e]
    obtain ⟨o, g1, g2, g3, g4, g5, g6, g7⟩ := h2 i x hx
    refine ⟨o, g1, g2, g3, g4, g5, g6, fun j hj => ?_⟩
    obtain ⟨e, he1, he2, he3⟩ := g7 j hj
    refine ⟨e, he1, he2, ?_⟩
    rcases he3 with he3 | ⟨y, hy, hy'⟩
    · exact .inl he3
    · exact .inr ⟨pcOf es y, by rw [List.getElem?_map, hy]; rfl, by rw [pcOf_e]; exact hy'⟩
  · obtain ⟨x, hx, rfl⟩ := List.mem_map.1 hp
    rw [pcOf_e] at hr ⊢
    have hlo : (pcOf es x).lo = countL (fun e => match chainE es e with | true => tb x.m e.i | false => false) es := by unfold pcOf; simp only [hr]; rfl
    have hhi : (pcOf es x).hi = countL (fun e => match chainE es e with | true => bnot (tb e.m x.i) | false => false) es := by unfold pcOf; simp only [hr]; rfl
    rw [hlo, hhi, countL_eq, countL_eq, List.countP_map, List.countP_map]
    constructor
    · congr 1; funext y; simp only [Function.comp, pcOf_chain, pcOf_e]; cases chainE es y <;> rfl
    · congr 1; funext y; simp only [Function.comp, pcOf_chain, pcOf_e, bnot_eq]; cases chainE es y <;> rfl
/-! ### in the order of the text -/
noncomputable def layH (m : Nat) (l : List Late) (H : Hp) : Hp := l.foldl (fun H x => if tb m x.i then H.set x.b (some x.B) else H) H
def restL (m : Nat) (l : List Late) : List Late := l.filter fun x => !tb m x.i
theorem layLate_eq (m : Nat) : ∀ (l : List Late) (H : Hp) (K : List Late → Hp → ORet), layLate m l H K = K (restL m l) (layH m l H)
  | [], _, _ => rfl
  | x :: l, H, K => by
    change (match tb m x.i with
      | true => Hp.setK x.b (some x.B) H fun H => layLate m l H K
      | false => layLate m l H fun r H => K (x :: r) H) = _
    cases h : tb m x.i with
    | true => simp only [Hp.setK_eq]; rw [layLate_eq m l]; simp [restL, layH, h]
    | false => simp only; rw [layLate_eq m l]; simp [restL, layH, h]
noncomputable def layAllH (l : List Late) (H : Hp) : Hp := l.foldl (fun H x => H.set x.b (some x.B)) H
theorem layAll_eq : ∀ (l : List Late) (H : Hp) (K : Hp → ORet), layAll l H K = K (layAllH l H)
  | [], _, _ => rfl
  | x :: l, H, K => by
    change Hp.setK x.b (some x.B) H (fun H => layAll l H K) = _
    rw [Hp.setK_eq, layAll_eq l]; rfl
inductive DStep (E : Env) (run : RunT) (p : PC) (s : DS) : AV → DS → Prop
  | skip (hs : p.st = true) (hg : p.e.c.guard = none) (hd : p.e.c.dst = none) : DStep E run p s (.tup []) s
  | alc {f : Tr AV → Option Blk} {v : Tr AV → Pos → Option AV} {l : Blk} {u : AV} (hfl : p.fl = true) (hg : p.e.c.guard = none) (hop : p.e.c.op = .alc f v) (hl : f s.T = some l) (hu : v s.T s.fp = some u) :
      DStep E run p s u ⟨setT p.e.c.dst u s.T, s.H, s.fp.succ, s.j, s.hs, s.rs, ⟨p.e.i, s.fp, l⟩ :: s.late⟩
  | chain {v : AV} {H' : Hp} (hfl : p.fl = false) (heff : p.e.c.op.effects = true) (h : actW E run p.e.c s.T (layH p.e.m s.late s.H) = .ok v H') :
      DStep E run p s v ⟨setT p.e.c.dst v s.T, H', s.fp, s.j + 1, (s.j, s.H) :: s.hs, s.rs, restL p.e.m s.late⟩
  | light {v : AV} (hfl : p.fl = false) (heff : p.e.c.op.effects = false) (h : lightV p.e.c s.T s.H = some v) :
      DStep E run p s v ⟨setT p.e.c.dst v s.T, s.H, s.fp, s.j, s.hs, (match p.e.c.op.reads with | true => ⟨p, s.T, v⟩ :: s.rs | false => s.rs), s.late⟩
theorem drawStep_ok {run : RunT} {p : PC} {s : DS} {K : DS → ORet} {T : Tr AV} {ds : List ADef} {H : Hp} (h : drawStep E run p s K = .ok T ds H) : ∃ v s', DStep E run p s v s' ∧ K s' = .ok T ds H := by
  unfold drawStep at h
  split at h
  · next hfl =>
    split at h
    · next f v hg hop =>
      split at h
      · next l u hl hu =>
        rw [setO_eq, Pos.succK_eq] at h
        exact ⟨_, _, .alc hfl hg hop hl hu, h⟩
      · cases h
    · next f hg hop =>
      split at h
      · next hd => exact ⟨_, _, .skip (by unfold PC.st; rw [hfl, hop]; rfl) hg hd, h⟩
      · cases h
    · cases h
  · next hfl =>
    split at h
    · next heff =>
      rw [layLate_eq] at h
      split at h
      · next v H' ha =>
        rw [setO_eq] at h
        exact ⟨_, _, .chain hfl heff ha, h⟩
      · cases h
    · next heff =>
      split at h
      · next v hv =>
        rw [setO_eq] at h
        exact ⟨_, _, .light hfl heff hv, h⟩
      · cases h
theorem drawGo_ok {run : RunT} {K : DS → ORet} {T : Tr AV} {ds : List ADef} {H : Hp} : ∀ (L : List PC) (s : DS), drawGo E run L s K = .ok T ds H →
    ∃ (ss : Nat → DS) (vv : Nat → AV), ss 0 = s ∧ (∀ (i : Nat) (p : PC), L[i]? = some p → DStep E run p (ss i) (vv i) (ss (i + 1))) ∧ K (ss L.length) = .ok T ds H
  | [], s, h => ⟨fun _ => s, fun _ => .nif, rfl, fun i p hp => by simp at hp, h⟩
  | p :: L, s, h => by
    change drawStep E run p s (fun s => drawGo E run L s K) = _ at h
    obtain ⟨v, s', h1, h2⟩ := drawStep_ok h
    obtain ⟨ss, vv, h3, h4, h5⟩ := drawGo_ok L s' h2
    refine ⟨fun | 0 => s | i + 1 => ss i, fun | 0 => v | i + 1 => vv i, rfl, fun i q hq => ?_, h5⟩
    cases i with
    | zero => simp at hq; subst hq; simp only [h3]; exact h1
    | succ i => simp at hq; exact h4 i q hq
/-! ### the late stores -/
structure StFact (L : List PC) (T : Tr AV) (H Hs : Hp) (sts : List Late) : Prop where
  from_ : ∀ x ∈ sts, ∃ p ∈ L, p.st = true ∧ p.e.i = x.i ∧ ∃ f o vs, p.e.c.op = .st f ∧ f T = some (x.b, o, vs) ∧ overB (Tr.get x.b H.t) o vs = some x.B
  all_ : ∀ p ∈ L, p.st = true → ∃ x ∈ sts, x.i = p.e.i
  dist : ∀ x ∈ sts, ∀ y ∈ sts, x.b = y.b → x = y
  less : ∀ b B, Tr.get b Hs.t = some B → Tr.get b H.t = some B ∧ ∀ x ∈ sts, x.b ≠ b
  nx : Hs.nx = H.nx
theorem storesGo_ok {K : Hp → List Late → ORet} {T' : Tr AV} {ds : List ADef} {H' : Hp} {T : Tr AV} {H : Hp} {L : List PC} (h : storesGo L T H [] K = .ok T' ds H') : ∃ Hs sts, StFact L T H Hs sts ∧ K Hs sts = .ok T' ds H' := by
  have key : ∀ (R Q : List PC) (Hc : Hp) (lt : List Late), Q ++ R = L → StFact Q T H Hc lt → storesGo R T Hc lt K = .ok T' ds H' → ∃ Hs sts, StFact L T H Hs sts ∧ K Hs sts = .ok T' ds H' := by
    clear h
    intro R
    induction R with
    | nil => intro Q Hc lt hQ hf h; rw [List.append_nil] at hQ; subst hQ; exact ⟨Hc, lt, hf, h⟩
    | cons p R ih =>
      intro Q Hc lt hQ hf h
      have hQ' : (Q ++ [p]) ++ R = L := by rw [← hQ]; simp
      change (match p.st with
      | false => storesGo R T Hc lt K
      | true => (match p.e.c.op with
        | .st f => (match f T with
          | some (b, o, vs) => (match overB (Tr.get b Hc.t) o vs with
            | some B => Hp.setK b none Hc fun H => storesGo R T H (⟨p.e.i, b, B⟩ :: lt) K
            | none => .no)
          | none => .no)
        | _ => .no)) = .ok T' ds H' at h
      split at h
      · next hst =>
        refine ih _ Hc lt hQ' ⟨fun x hx => ?_, fun q hq hqs => ?_, hf.dist, hf.less, hf.nx⟩ h
        · obtain ⟨q, hq, r⟩ := hf.from_ x hx; exact ⟨q, by simp [hq], r⟩
        · simp only [List.mem_append, List.mem_singleton] at hq
          rcases hq with hq | rfl
          · exact hf.all_ q hq hqs
          · rw [hst] at hqs; cases hqs
      · next hst =>
        split at h
        case h_2 => cases h
        next f hop =>
        split at h
        case h_2 => cases h
        next b o vs hfT =>
        split at h
        case h_2 => cases h
        next B hB =>
        rw [Hp.setK_eq] at h
        obtain ⟨pl, l, hb, _, _⟩ := overB_some hB
        obtain ⟨hb0, hbn⟩ := hf.less b _ hb
        refine ih _ (Hc.set b none) _ hQ' ⟨fun x hx => ?_, fun q hq hqs => ?_, fun x hx y hy he => ?_, fun c C hc => ?_, (show (Hc.set b none).nx = H.nx from hf.nx)⟩ h
        · cases hx with
          | head => exact ⟨p, by simp, hst, rfl, f, o, vs, hop, hfT, by rw [hb0, ← hb]; exact hB⟩
          | tail _ hx => obtain ⟨q, hq, r⟩ := hf.from_ x hx; exact ⟨q, by simp [hq], r⟩
        · simp only [List.mem_append, List.mem_singleton] at hq
          rcases hq with hq | rfl
          · obtain ⟨x, hx, he⟩ := hf.all_ q hq hqs; exact ⟨x, List.mem_cons_of_mem _ hx, he⟩
          · exact ⟨_, List.mem_cons_self .., rfl⟩
        · cases hx with
          | head => cases hy with
            | head => rfl
            | tail _ hy => exact absurd he.symm (hbn y hy)
          | tail _ hx => cases hy with
            | head => exact absurd he (hbn x hx)
            | tail _ hy => exact hf.dist x hx y hy he
        · simp only [Hp.set, Tr.get_set] at hc
          by_cases e : c = b
          · rw [if_pos e] at hc; cases hc
          · rw [if_neg e] at hc
            obtain ⟨h1, h2⟩ := hf.less c C hc
            refine ⟨h1, fun x hx => ?_⟩
            cases hx with
            | head => exact fun hh => e hh.symm
            | tail _ hx => exact h2 x hx
  exact key L [] H [] rfl ⟨fun x hx => by simp at hx, fun p hp => by simp at hp, fun x hx => by simp at hx, fun b B hb => ⟨hb, fun x hx => by simp at hx⟩, rfl⟩ h
theorem layAllH_some {b : Pos} {X : Blk} : ∀ (l : List Late) (H : Hp), Tr.get b (layAllH l H).t = some X → (∃ x ∈ l, x.b = b ∧ x.B = X) ∨ Tr.get b H.t = some X
  | [], _, h => .inr h
  | x :: l, H, h => by
    rcases layAllH_some l (H.set x.b (some x.B)) h with ⟨y, hy, r⟩ | h1
    · exact .inl ⟨y, List.mem_cons_of_mem _ hy, r⟩
    · simp only [Hp.set, Tr.get_set] at h1
      by_cases e : b = x.b
      · rw [if_pos e] at h1; cases h1; exact .inl ⟨x, List.mem_cons_self .., e.symm, rfl⟩
      · rw [if_neg e] at h1; exact .inr h1
theorem layAllH_nx : ∀ (l : List Late) (H : Hp), (layAllH l H).nx = H.nx
  | [], _ => rfl
  | x :: l, H => layAllH_nx l (H.set x.b (some x.B))
theorem layH_some {b : Pos} {X : Blk} {m : Nat} : ∀ (l : List Late) (H : Hp), Tr.get b (layH m l H).t = some X → (∃ x ∈ l, tb m x.i = true ∧ x.b = b ∧ x.B = X) ∨ Tr.get b H.t = some X
  | [], _, h => .inr h
  | x :: l, H, h => by
    change Tr.get b (layH m l (if tb m x.i then H.set x.b (some x.B) else H)).t = some X at h
    rcases layH_some l _ h with ⟨y, hy, r⟩ | h1
    · exact .inl ⟨y, List.mem_cons_of_mem _ hy, r⟩
    · split at h1
      · next ht =>
        simp only [Hp.set, Tr.get_set] at h1
        by_cases e : b = x.b
        · rw [if_pos e] at h1; cases h1; exact .inl ⟨x, List.mem_cons_self .., ht, e.symm, rfl⟩
        · rw [if_neg e] at h1; exact .inr h1
      · exact .inr h1
theorem layH_nx {m : Nat} : ∀ (l : List Late) (H : Hp), (layH m l H).nx = H.nx
  | [], _ => rfl
  | x :: l, H => by
    change (layH m l (if tb m x.i then H.set x.b (some x.B) else H)).nx = H.nx
    rw [layH_nx l]
    split <;> rfl
end
end Go.Ev
/- Drawn regions: what the order of the text tells of each operation. -/
namespace Go.Ev
/-- a new block that is laid late -/
def PC.al (p : PC) : Bool := match p.fl with | true => bnot p.e.c.op.stores | false => false
structure Text (E : Env) (run : RunT) (n : Nat) (ops : Array Oper) (T0 : Tr AV) (H0 : Hp) where
  L : List PC
  pf : PlanFact E n ops L
  ss : Nat → DS
  vv : Nat → AV
  nx0 : Pos
  h0 : ss 0 = ⟨T0, ⟨H0.t, nx0⟩, H0.nx, 0, [], [], []⟩
  hnx0 : nx0.val = H0.nx.val + L.countP PC.al
  step : ∀ (i : Nat) (p : PC), L[i]? = some p → DStep E run p (ss i) (vv i) (ss (i + 1))
  Hs : Hp
  sts : List Late
  stf : StFact L (ss L.length).T (ss L.length).H Hs sts
  again : ∀ r ∈ (ss L.length).rs, againOk (((ss L.length).j, Hs) :: (ss L.length).hs) r = true
/-! ### pairs -/
theorem chain_not_st {p : PC} (h : p.chain = true) : p.st = false := by unfold PC.chain at h; unfold PC.st; cases hf : p.fl <;> simp_all
theorem chain_not_al {p : PC} (h : p.chain = true) : p.al = false := by unfold PC.chain at h; unfold PC.al; cases hf : p.fl <;> simp_all
theorem st_not_al {p : PC} (h : p.st = true) : p.al = false := by unfold PC.st at h; unfold PC.al; cases hf : p.fl <;> simp_all [bnot_eq]
theorem apart_untied {p q : PC} (h : apartP p q = true) (ht : tb q.e.m p.e.i = false) : slotsOk p.e q.e = true := by
  unfold apartP at h
  rw [ht] at h
  split at h
  · split at h
    · exact h
    · cases h
  · simp only at h
    split at h
    · cases h
    · exact h
theorem apart_st {p q : PC} (h : apartP p q = true) (hp : p.st = true) : tb q.e.m p.e.i = false ∧ q.chain = false := by
  unfold apartP at h
  rw [hp] at h
  simp only at h
  split at h
  · next h1 h2 => exact ⟨h1, h2⟩
  · cases h
theorem apart_chain {p q : PC} (h : apartP p q = true) (hp : p.chain = true) (hq : q.chain = true ∨ q.st = true) : tb q.e.m p.e.i = true := by
  unfold apartP at h
  rw [chain_not_st hp] at h
  simp only at h
  split at h
  · assumption
  · rw [hp] at h
    rcases hq with hq | hq
    · rw [hq] at h; cases h
    · rw [hq] at h; cases hc : q.chain <;> rw [hc] at h <;> cases h
theorem slots_ok {x y : PE} (h : slotsOk x y = true) : (∀ t, x.dst = some t → t ∉ y.names ∧ y.dst ≠ some t) ∧ (∀ u, y.dst = some u → u ∉ x.names) := by
  unfold slotsOk at h
  split at h
  · cases h
  · next h1 =>
    constructor
    · intro t ht
      rw [ht] at h1
      simp only at h1
      split at h1
      · cases h1
      · next h2 =>
        refine ⟨(fun hm => by rw [(mem_iff t y.names).2 hm] at h2; cases h2), fun hy => ?_⟩
        rw [hy] at h1
        simp at h1
    · intro u hu hm
      rw [hu] at h
      simp only [(mem_iff u x.names).2 hm] at h
      cases h
theorem get_setT (d : Option Nat) (v : AV) (T : Tr AV) (t : Nat) : Tr.get (posOf t) (setT (d.map posOf) v T) = if d = some t then some v else Tr.get (posOf t) T := by
  cases d with
  | none => simp [setT]
  | some u =>
    simp only [Option.map_some, setT, Tr.get_set, Option.some.injEq]
    by_cases e : u = t
    · subst e; simp
    · rw [if_neg (fun h => e (posOf_inj h).symm), if_neg e]
section
variable {E : Env} {run : RunT} {n : Nat} {ops : Array Oper} {T0 : Tr AV} {H0 : Hp} (X : Text E run n ops T0 H0)
/-! ### the states, in the order of the text -/
theorem Text.idx {i : Nat} {p : PC} (hp : X.L[i]? = some p) : p.e.i = i := (X.pf.at_ i p hp).choose_spec.2.1
theorem Text.lt {i : Nat} {p : PC} (hp : X.L[i]? = some p) : i < X.L.length := (List.getElem?_eq_some_iff.1 hp).1
theorem Text.T_succ {i : Nat} {p : PC} (hp : X.L[i]? = some p) : (X.ss (i + 1)).T = setT p.e.c.dst (X.vv i) (X.ss i).T := by
  have := X.step i p hp
  generalize X.ss (i + 1) = s' at this
  generalize X.vv i = v at this
  cases this with
  | skip hs hg hd => rw [hd]; rfl
  | alc hfl hg hop hl hu => rfl
  | chain hfl heff h => rfl
  | light hfl heff h => rfl
theorem Text.j_succ {i : Nat} {p : PC} (hp : X.L[i]? = some p) : (X.ss (i + 1)).j = (X.ss i).j + (if p.chain then 1 else 0) := by
  have := X.step i p hp
  generalize X.ss (i + 1) = s' at this
  generalize X.vv i = v at this
  cases this with
  | skip hs hg hd => have : p.chain = false := by unfold PC.st at hs; unfold PC.chain; cases hf : p.fl <;> simp_all
                     simp [this]
  | alc hfl hg hop hl hu => have : p.chain = false := by unfold PC.chain; rw [hfl]
                            simp [this]
  | chain hfl heff h => have : p.chain = true := by unfold PC.chain; rw [hfl]; exact heff
                        simp [this]
  | light hfl heff h => have : p.chain = false := by unfold PC.chain; rw [hfl]; exact heff
                        simp [this]
theorem Text.H_succ {i : Nat} {p : PC} (hp : X.L[i]? = some p) (hc : p.chain = false) : (X.ss (i + 1)).H = (X.ss i).H := by
  have := X.step i p hp
  generalize X.ss (i + 1) = s' at this
  generalize X.vv i = v at this
  cases this with
  | skip hs hg hd => rfl
  | alc hfl hg hop hl hu => rfl
  | chain hfl heff h => unfold PC.chain at hc; rw [hfl, heff] at hc; cases hc
  | light hfl heff h => rfl
theorem Text.chain_step {i : Nat} {p : PC} (hp : X.L[i]? = some p) (hc : p.chain = true) :
    actW E run p.e.c (X.ss i).T (layH p.e.m (X.ss i).late (X.ss i).H) = .ok (X.vv i) (X.ss (i + 1)).H ∧ ((X.ss i).j, (X.ss i).H) ∈ (X.ss (i + 1)).hs := by
  have := X.step i p hp
  generalize X.ss (i + 1) = s' at this
  generalize X.vv i = v at this
  cases this with
  | skip hs hg hd => rw [chain_not_st hc] at hs; cases hs
  | alc hfl hg hop hl hu => unfold PC.chain at hc; rw [hfl] at hc; cases hc
  | chain hfl heff h => exact ⟨h, List.mem_cons_self ..⟩
  | light hfl heff h => unfold PC.chain at hc; rw [hfl, heff] at hc; cases hc
theorem Text.hs_mono {i : Nat} {p : PC} (hp : X.L[i]? = some p) {x : Nat × Hp} (hx : x ∈ (X.ss i).hs) : x ∈ (X.ss (i + 1)).hs := by
  have := X.step i p hp
  generalize X.ss (i + 1) = s' at this
  generalize X.vv i = v at this
  cases this with
  | skip hs hg hd => exact hx
  | alc hfl hg hop hl hu => exact hx
  | chain hfl heff h => exact List.mem_cons_of_mem _ hx
  | light hfl heff h => exact hx
theorem Text.rs_mono {i : Nat} {p : PC} (hp : X.L[i]? = some p) {x : Rec} (hx : x ∈ (X.ss i).rs) : x ∈ (X.ss (i + 1)).rs := by
  have := X.step i p hp
  generalize X.ss (i + 1) = s' at this
  generalize X.vv i = v at this
  cases this with
  | skip hs hg hd => exact hx
  | alc hfl hg hop hl hu => exact hx
  | chain hfl heff h => exact hx
  | light hfl heff h => show x ∈ (match p.e.c.op.reads with | true => _ | false => _); split; exact List.mem_cons_of_mem _ hx; exact hx
theorem Text.up {Q : Nat → Prop} (h : ∀ (i : Nat) (p : PC), X.L[i]? = some p → Q i → Q (i + 1)) {i k : Nat} (hik : i ≤ k) (hk : k ≤ X.L.length) (hi : Q i) : Q k := by
  induction k with
  | zero => obtain rfl : i = 0 := by omega
            exact hi
  | succ k ih =>
    by_cases e : i = k + 1
    · subst e; exact hi
    · exact h k X.L[k] (List.getElem?_eq_getElem (by omega)) (ih (by omega) (by omega))
theorem Text.j_eq : ∀ i, i ≤ X.L.length → (X.ss i).j = (X.L.take i).countP PC.chain
  | 0, _ => by rw [X.h0]; simp
  | i + 1, h => by
    have hp : X.L[i]? = some X.L[i] := List.getElem?_eq_getElem (by omega)
    rw [X.j_succ hp, Text.j_eq i (by omega), List.take_succ_eq_append_getElem (by omega), List.countP_append]
    simp [List.countP_cons]
theorem Text.fp_eq : ∀ i, i ≤ X.L.length → (X.ss i).fp.val = H0.nx.val + (X.L.take i).countP PC.al
  | 0, _ => by rw [X.h0]; simp
  | i + 1, h => by
    have hp : X.L[i]? = some X.L[i] := List.getElem?_eq_getElem (by omega)
    rw [List.take_succ_eq_append_getElem (by omega), List.countP_append]
    have ih := Text.fp_eq i (by omega)
    have := X.step i _ hp
    generalize X.ss (i + 1) = s' at this
    generalize X.vv i = v at this
    simp only [List.countP_cons, List.countP_nil]
    cases this with
    | skip hs hg hd => rw [st_not_al hs]; simpa using ih
    | alc hfl hg hop hl hu =>
      have : X.L[i].al = true := by unfold PC.al; rw [hfl, hop]; rfl
      rw [this, Pos.val_succ]; simp; omega
    | chain hfl heff h => rw [chain_not_al (by unfold PC.chain; rw [hfl]; exact heff)]; simpa using ih
    | light hfl heff h =>
      have : X.L[i].al = false := by unfold PC.al; rw [hfl]
      rw [this]; simpa using ih
theorem Text.j_mono {i k : Nat} (hik : i ≤ k) (hk : k ≤ X.L.length) : (X.ss i).j ≤ (X.ss k).j :=
  X.up (Q := fun k => (X.ss i).j ≤ (X.ss k).j) (fun k p hp h => by rw [X.j_succ hp]; omega) hik hk (Nat.le_refl _)
theorem Text.H_of_j {i k : Nat} (hik : i ≤ k) (hk : k ≤ X.L.length) (hj : (X.ss i).j = (X.ss k).j) : (X.ss i).H = (X.ss k).H := by
  induction k with
  | zero => obtain rfl : i = 0 := by omega
            rfl
  | succ k ih =>
    by_cases e : i = k + 1
    · subst e; rfl
    · have hp : X.L[k]? = some X.L[k] := List.getElem?_eq_getElem (by omega)
      have h1 := X.j_mono (show i ≤ k by omega) (by omega)
      have h2 := X.j_succ hp
      have hc : X.L[k].chain = false := by
        cases hc : X.L[k].chain with
        | false => rfl
        | true => rw [hc] at h2; simp at h2; omega
      rw [X.H_succ hp hc]
      exact ih (by omega) (by omega) (by rw [hc] at h2; simp at h2; omega)
/-- a version that is not the last: the operation that leads on -/
theorem Text.next_chain {j : Nat} (hj : j < (X.ss X.L.length).j) : ∃ i p, X.L[i]? = some p ∧ p.chain = true ∧ (X.ss i).j = j := by
  have key : ∀ k, k ≤ X.L.length → j < (X.ss k).j → ∃ i p, X.L[i]? = some p ∧ p.chain = true ∧ (X.ss i).j = j := by
    intro k
    induction k with
    | zero => intro _ h; rw [X.h0] at h; simp at h
    | succ k ih =>
      intro hk h
      have hp : X.L[k]? = some X.L[k] := List.getElem?_eq_getElem (by omega)
      have h2 := X.j_succ hp
      by_cases h3 : j < (X.ss k).j
      · exact ih (by omega) h3
      · cases hc : X.L[k].chain with
        | false => rw [hc] at h2; simp at h2; omega
        | true => rw [hc] at h2; simp at h2; exact ⟨k, _, hp, hc, by omega⟩
  exact key _ (Nat.le_refl _) hj
/-! ### new blocks that are laid late -/
def Text.nm (k : Nat) : Pos := (X.ss k).fp
def Text.Alc (k : Nat) (p : PC) (l : Blk) : Prop := ∃ f v, p.e.c.op = .alc f v ∧ p.e.c.guard = none ∧ f (X.ss k).T = some l ∧ v (X.ss k).T (X.nm k) = some (X.vv k)
theorem Text.alc_ok {k : Nat} {p : PC} (hp : X.L[k]? = some p) (ha : p.al = true) : ∃ l, X.Alc k p l := by
  have := X.step k p hp
  unfold Text.Alc Text.nm
  generalize X.ss (k + 1) = s' at this
  generalize hv : X.vv k = v at this
  cases this with
  | skip hs hg hd => rw [st_not_al hs] at ha; cases ha
  | alc hfl hg hop hl hu => exact ⟨_, _, _, hop, hg, hl, hu⟩
  | chain hfl heff h => unfold PC.al at ha; rw [hfl] at ha; cases ha
  | light hfl heff h => unfold PC.al at ha; rw [hfl] at ha; cases ha
theorem Text.alc_fun {k : Nat} {p : PC} {l l' : Blk} (h : X.Alc k p l) (h' : X.Alc k p l') : l = l' := by
  obtain ⟨f, v, h1, _, h2, _⟩ := h
  obtain ⟨f', v', h3, _, h4, _⟩ := h'
  rw [h1] at h3; cases h3
  rw [h2] at h4; cases h4; rfl
theorem Text.nm_lt {k : Nat} {p : PC} (hp : X.L[k]? = some p) (ha : p.al = true) : X.nm k = X.nm k ∧ H0.nx.val ≤ (X.nm k).val ∧ (X.nm k).val < X.nx0.val := by
  have hk := X.lt hp
  unfold Text.nm
  rw [X.fp_eq k (by omega), X.hnx0]
  refine ⟨rfl, by omega, ?_⟩
  have h1 : X.L.countP PC.al = (X.L.take (k + 1)).countP PC.al + (X.L.drop (k + 1)).countP PC.al := by
    rw [← List.countP_append, List.take_append_drop]
  have h2 : (X.L.take (k + 1)).countP PC.al = (X.L.take k).countP PC.al + 1 := by
    rw [List.take_succ_eq_append_getElem hk, List.countP_append]
    have : X.L[k].al = true := by rw [List.getElem?_eq_getElem hk] at hp; cases hp; exact ha
    simp [List.countP_cons, this]
  omega
theorem Text.nm_inj {k k' : Nat} {p p' : PC} (hp : X.L[k]? = some p) (hp' : X.L[k']? = some p') (ha : p.al = true) (ha' : p'.al = true) (h : X.nm k = X.nm k') : k = k' := by
  have key : ∀ {k k' : Nat} {p p' : PC}, X.L[k]? = some p → X.L[k']? = some p' → p.al = true → k < k' → (X.nm k).val < (X.nm k').val := by
    intro k k' p p' hp hp' ha hlt
    have hk := X.lt hp
    have hk' := X.lt hp'
    unfold Text.nm
    rw [X.fp_eq k (by omega), X.fp_eq k' (by omega)]
    have h2 : (X.L.take (k + 1)).countP PC.al = (X.L.take k).countP PC.al + 1 := by
      rw [List.take_succ_eq_append_getElem hk, List.countP_append]
      have : X.L[k].al = true := by rw [List.getElem?_eq_getElem hk] at hp; cases hp; exact ha
      simp [List.countP_cons, this]
    have h3 : (X.L.take (k + 1)).countP PC.al ≤ (X.L.take k').countP PC.al :=
      (List.take_sublist_take_left (by omega)).countP_le
    omega
  rcases Nat.lt_trichotomy k k' with h1 | h1 | h1
  · have := key hp hp' ha h1; rw [h] at this; omega
  · exact h1
  · have := key hp' hp ha' h1; rw [h] at this; omega
theorem Text.late_ok : ∀ i, i ≤ X.L.length → ∀ x ∈ (X.ss i).late, ∃ k p l, k < i ∧ X.L[k]? = some p ∧ p.al = true ∧ x = ⟨k, X.nm k, l⟩ ∧ X.Alc k p l ∧
    ∀ i' q, k < i' → i' < i → X.L[i']? = some q → q.chain = true → tb q.e.m k = false
  | 0, _, x, hx => by rw [X.h0] at hx; simp at hx
  | i + 1, h, x, hx => by
    have hp : X.L[i]? = some X.L[i] := List.getElem?_eq_getElem (by omega)
    have ih := Text.late_ok i (by omega)
    have old : x ∈ (X.ss i).late → (X.L[i].chain = true → tb X.L[i].e.m x.i = false) → ∃ k p l, k < i + 1 ∧ X.L[k]? = some p ∧ p.al = true ∧ x = ⟨k, X.nm k, l⟩ ∧ X.Alc k p l ∧
        ∀ i' q, k < i' → i' < i + 1 → X.L[i']? = some q → q.chain = true → tb q.e.m k = false := by
      intro hx hcc
      obtain ⟨k, p, l, h1, h2, h3, h4, h5, h6⟩ := ih x hx
      refine ⟨k, p, l, by omega, h2, h3, h4, h5, fun i' q hk hi' hq hqc => ?_⟩
      by_cases e : i' = i
      · subst e
        rw [hp] at hq; cases hq
        have := hcc hqc
        rw [h4] at this; exact this
      · exact h6 i' q hk (by omega) hq hqc
    have hst := X.step i _ hp
    have hal := X.alc_ok hp
    have hA : ∀ f v l u, X.L[i].e.c.op = .alc f v → X.L[i].e.c.guard = none → f (X.ss i).T = some l → v (X.ss i).T (X.ss i).fp = some u → u = X.vv i → X.Alc i X.L[i] l :=
      fun f v l u h1 h2 h3 h4 h5 => ⟨f, v, h1, h2, h3, by subst h5; exact h4⟩
    generalize X.ss (i + 1) = s' at hst hx
    generalize hv : X.vv i = v at hst
    cases hst with
    | skip hs hg hd => exact old hx (fun hc => by rw [chain_not_st hc] at hs; cases hs)
    | alc hfl hg hop hl hu =>
      have hal : X.L[i].al = true := by unfold PC.al; rw [hfl, hop]; rfl
      have hx' := List.mem_cons.1 hx
      rcases hx' with rfl | hx'
      · refine ⟨i, _, _, by omega, hp, hal, by rw [X.idx hp]; rfl, hA _ _ _ _ hop hg hl hu hv.symm, fun i' q h1 h2 => ?_⟩
        omega
      · exact old hx' (fun hc => by rw [chain_not_al hc] at hal; cases hal)
    | chain hfl heff hh =>
      have := List.mem_filter.1 hx
      exact old this.1 (fun _ => by simpa using this.2)
    | light hfl heff hh => exact old hx (fun hc => by unfold PC.chain at hc; rw [hfl, heff] at hc; cases hc)
/-- looks at the heap are written down -/
theorem Text.light_step {i : Nat} {p : PC} (hp : X.L[i]? = some p) (hfl : p.fl = false) (heff : p.e.c.op.effects = false) :
    lightV p.e.c (X.ss i).T (X.ss i).H = some (X.vv i) ∧ (p.e.c.op.reads = true → ⟨p, (X.ss i).T, X.vv i⟩ ∈ (X.ss X.L.length).rs) := by
  have hst := X.step i _ hp
  have hk := X.lt hp
  have hup : ∀ r : Rec, r ∈ (X.ss (i + 1)).rs → r ∈ (X.ss X.L.length).rs := fun r hr => X.up (Q := fun k => r ∈ (X.ss k).rs) (fun k q hq h => X.rs_mono hq h) (by omega) (Nat.le_refl _) hr
  generalize X.ss (i + 1) = s' at hst hup
  generalize hv : X.vv i = v at hst
  cases hst with
  | skip hs hg hd => unfold PC.st at hs; rw [hfl] at hs; cases hs
  | alc hfl' hg hop hl hu => rw [hfl] at hfl'; cases hfl'
  | chain hfl' heff' hh => rw [heff] at heff'; cases heff'
  | light hfl' heff' hh =>
    refine ⟨hh, fun hr => hup _ ?_⟩
    simp only [hr]
    exact List.mem_cons_self ..
end
end Go.Ev
/- Drawn regions: what holds whatever has been done. -/
namespace Go.Ev
section
variable {P : Program} {E : Env} {run : RunT} {n : Nat} {ops : Array Oper} {T0 : Tr AV} {H0 : Hp} (X : Text E run n ops T0 H0)
/-- whatever an operation waits for is done before it -/
def Text.Closed (done : Nat → Bool) : Prop := ∀ (i : Nat) (p : PC) (j : Nat), X.L[i]? = some p → done i = true → tb p.e.m j = true → done j = true
/-- the slots, when some operations are done -/
def Text.TD (done : Nat → Bool) : Nat → Tr AV
  | 0 => T0
  | k + 1 => match X.L[k]?, done k with
    | some p, true => setT p.e.c.dst (X.vv k) (Text.TD done k)
    | _, _ => Text.TD done k
theorem Text.upFrom {Q : Nat → Prop} {i : Nat} (h : ∀ (k : Nat) (p : PC), i ≤ k → X.L[k]? = some p → Q k → Q (k + 1)) {k : Nat} (hik : i ≤ k) (hk : k ≤ X.L.length) (hi : Q i) : Q k := by
  induction k with
  | zero => obtain rfl : i = 0 := by omega
            exact hi
  | succ k ih =>
    by_cases e : i = k + 1
    · subst e; exact hi
    · exact h k X.L[k] (by omega) (List.getElem?_eq_getElem (by omega)) (ih (by omega) (by omega))
/-- an operation may be done next -/
structure Text.Next (done : Nat → Bool) (i : Nat) (p : PC) : Prop where
  hp : X.L[i]? = some p
  hnd : done i = false
  hm : ∀ j, tb p.e.m j = true → done j = true
def also (done : Nat → Bool) (i : Nat) : Nat → Bool := fun j => if j = i then true else done j
theorem Text.cdst (hE : EnvOk P E) {i : Nat} {p : PC} (hp : X.L[i]? = some p) : ∃ o, ops[i]? = some o ∧ COk P E n ops o p.e.c ∧ p.e.dst = o.dst ∧ p.e.names = namesOf ops o ∧ p.e.c.dst = p.e.dst.map posOf := by
  obtain ⟨o, h1, _, h3, h4, h5, _⟩ := X.pf.at_ i p hp
  have hc := cOper_ok (P := P) hE h3
  exact ⟨o, h1, hc, h4, h5, by rw [hc.dst, h4]⟩
theorem Text.TD_get (hE : EnvOk P E) (done : Nat → Bool) {k : Nat} {q : PC} (hq : X.L[k]? = some q) (t : Nat) :
    Tr.get (posOf t) (X.TD done (k + 1)) = if done k = true ∧ q.e.dst = some t then some (X.vv k) else Tr.get (posOf t) (X.TD done k) := by
  obtain ⟨o, _, _, _, _, hd⟩ := X.cdst hE hq
  rw [Text.TD]
  rw [hq]
  cases hd' : done k with
  | true => simp only [true_and]; rw [hd, get_setT]
  | false => simp
theorem Text.apart {i j : Nat} {p q : PC} (hij : i < j) (hp : X.L[i]? = some p) (hq : X.L[j]? = some q) : apartP p q = true := X.pf.apart i j p q hij hp hq
/-- the slots that an operation names hold what they hold in the order of the text -/
theorem Text.slot_same (hE : EnvOk P E) {done : Nat → Bool} (hcl : X.Closed done) {i : Nat} {p : PC} (h : X.Next done i p) {t : Nat} (ht : t ∈ p.e.names) :
    Tr.get (posOf t) (X.TD done X.L.length) = Tr.get (posOf t) (X.ss i).T := by
  have hi := X.lt h.hp
  have h1 : ∀ k, k ≤ i → Tr.get (posOf t) (X.TD done k) = Tr.get (posOf t) (X.ss k).T := by
    intro k
    induction k with
    | zero => intro _; rw [Text.TD, X.h0]
    | succ k ih =>
      intro hk
      have hq : X.L[k]? = some X.L[k] := List.getElem?_eq_getElem (by omega)
      obtain ⟨o, _, _, _, _, hd⟩ := X.cdst hE hq
      rw [X.TD_get hE done hq, X.T_succ hq, hd, get_setT, ih (by omega)]
      cases hdk : done k with
      | true => simp
      | false =>
        simp only [Bool.false_eq_true, false_and, if_false]
        rw [if_neg]
        intro hdst
        have hu : tb p.e.m X.L[k].e.i = false := by
          cases hh : tb p.e.m X.L[k].e.i with
          | false => rfl
          | true => rw [X.idx hq] at hh; rw [h.hm k hh] at hdk; cases hdk
        exact ((slots_ok (apart_untied (X.apart (by omega) hq h.hp) hu)).1 t hdst).1 ht
  have h2 : Tr.get (posOf t) (X.TD done X.L.length) = Tr.get (posOf t) (X.TD done i) := by
    refine X.upFrom (Q := fun k => Tr.get (posOf t) (X.TD done k) = Tr.get (posOf t) (X.TD done i)) (fun k q hik hq ih => ?_) (Nat.le_of_lt hi) (Nat.le_refl _) rfl
    rw [X.TD_get hE done hq, if_neg, ih]
    rintro ⟨hdk, hdst⟩
    have hne : k ≠ i := fun e => by subst e; rw [h.hnd] at hdk; cases hdk
    have hu : tb q.e.m p.e.i = false := by
      cases hh : tb q.e.m p.e.i with
      | false => rfl
      | true => have := hcl k q _ hq hdk hh; rw [X.idx h.hp, h.hnd] at this; cases this
    exact (slots_ok (apart_untied (X.apart (by omega) h.hp hq) hu)).2 t hdst ht
  rw [h2, h1 i (Nat.le_refl _)]
theorem also_self (done : Nat → Bool) (i : Nat) : also done i i = true := by simp [also]
theorem also_ne {done : Nat → Bool} {i j : Nat} (h : j ≠ i) : also done i j = done j := by simp [also, h]
theorem also_mono {done : Nat → Bool} {i j : Nat} (h : done j = true) : also done i j = true := by unfold also; split <;> simp [h]
/-- the slots, behind one operation more -/
theorem Text.TD_also (hE : EnvOk P E) {done : Nat → Bool} (hcl : X.Closed done) {i : Nat} {p : PC} (h : X.Next done i p) (t : Nat) :
    Tr.get (posOf t) (X.TD (also done i) X.L.length) = if p.e.dst = some t then some (X.vv i) else Tr.get (posOf t) (X.TD done X.L.length) := by
  have hi := X.lt h.hp
  have h1 : ∀ k, k ≤ i → Tr.get (posOf t) (X.TD (also done i) k) = Tr.get (posOf t) (X.TD done k) := by
    intro k
    induction k with
    | zero => intro _; rfl
    | succ k ih =>
      intro hk
      have hq : X.L[k]? = some X.L[k] := List.getElem?_eq_getElem (by omega)
      rw [X.TD_get hE _ hq, X.TD_get hE _ hq, ih (by omega), also_ne (by omega)]
  have hs := X.TD_get hE (also done i) h.hp t
  have hs' := X.TD_get hE done h.hp t
  rw [also_self, h1 i (Nat.le_refl _)] at hs
  rw [h.hnd] at hs'
  simp only [true_and, Bool.false_eq_true, false_and, if_false] at hs hs'
  by_cases hd : p.e.dst = some t
  · rw [if_pos hd]
    rw [if_pos hd] at hs
    refine X.upFrom (i := i + 1) (Q := fun k => Tr.get (posOf t) (X.TD (also done i) k) = some (X.vv i)) (fun k q hik hq ih => ?_) (by omega) (Nat.le_refl _) hs
    rw [X.TD_get hE _ hq, if_neg, ih]
    rintro ⟨hdk, hdst⟩
    rw [also_ne (by omega)] at hdk
    have hu : tb q.e.m p.e.i = false := by
      cases hh : tb q.e.m p.e.i with
      | false => rfl
      | true => have := hcl k q _ hq hdk hh; rw [X.idx h.hp, h.hnd] at this; cases this
    exact ((slots_ok (apart_untied (X.apart (by omega) h.hp hq) hu)).1 t hd).2 hdst
  · rw [if_neg hd]
    rw [if_neg hd, ← hs'] at hs
    refine X.upFrom (i := i + 1) (Q := fun k => Tr.get (posOf t) (X.TD (also done i) k) = Tr.get (posOf t) (X.TD done k)) (fun k q hik hq ih => ?_) (by omega) (Nat.le_refl _) hs
    rw [X.TD_get hE _ hq, X.TD_get hE _ hq, ih, also_ne (by omega)]
theorem Text.TD_all : ∀ k, k ≤ X.L.length → X.TD (fun _ => true) k = (X.ss k).T
  | 0, _ => by rw [Text.TD, X.h0]
  | k + 1, h => by
    have hq : X.L[k]? = some X.L[k] := List.getElem?_eq_getElem (by omega)
    rw [Text.TD, hq, X.T_succ hq, Text.TD_all k (by omega)]
/-! ### how much of the chain is done -/
def Text.ver (done : Nat → Bool) : Nat := X.L.countP fun q => q.chain && done q.e.i
theorem Text.chain_ver {done : Nat → Bool} (hcl : X.Closed done) {i : Nat} {p : PC} (h : X.Next done i p) (hc : p.chain = true) : X.ver done = (X.ss i).j := by
  have hi := X.lt h.hp
  rw [X.j_eq i (by omega), Text.ver]
  have h1 : (X.L.take i).countP (fun q => q.chain && done q.e.i) = (X.L.take i).countP PC.chain := by
    refine List.countP_congr fun q hq => ?_
    obtain ⟨k, hk⟩ := List.getElem?_of_mem hq
    have hk' := (List.getElem?_eq_some_iff.1 hk).1
    simp only [List.length_take] at hk'
    rw [List.getElem?_take] at hk
    rw [if_pos (by omega)] at hk
    constructor
    · intro hh; simp at hh; exact hh.1
    · intro hh
      have := apart_chain (X.apart (by omega) hk h.hp) hh (.inl hc)
      simp [hh, h.hm _ this]
  have h2 : (X.L.drop i).countP (fun q => q.chain && done q.e.i) = 0 := by
    rw [List.countP_eq_zero]
    intro q hq
    obtain ⟨k, hk⟩ := List.getElem?_of_mem hq
    rw [List.getElem?_drop] at hk
    simp only [Bool.and_eq_true, not_and]
    intro hqc hqd
    rw [X.idx hk] at hqd
    by_cases e : k = 0
    · subst e; rw [Nat.add_zero, h.hnd] at hqd; cases hqd
    · have := apart_chain (X.apart (by omega) h.hp hk) hc (.inl hqc)
      have := hcl _ q _ hk hqd this
      rw [X.idx h.hp, h.hnd] at this; cases this
  rw [← h1]
  conv => lhs; rw [← List.take_append_drop i X.L]
  rw [List.countP_append, h2, Nat.add_zero]
theorem Text.ver_le (done : Nat → Bool) : X.ver done ≤ (X.ss X.L.length).j := by
  rw [X.j_eq _ (Nat.le_refl _), List.take_length, Text.ver]
  exact List.countP_mono_left fun q _ h => by simp at h; exact h.1
theorem countP_also {l : List PC} {done : Nat → Bool} {i : Nat} (hl : ∀ (k : Nat) (q : PC), l[k]? = some q → q.e.i = i → ¬ q.chain = true) : l.countP (fun q => q.chain && also done i q.e.i) = l.countP (fun q => q.chain && done q.e.i) := by
  refine List.countP_congr fun q hq => ?_
  obtain ⟨k, hk⟩ := List.getElem?_of_mem hq
  by_cases e : q.e.i = i
  · have := hl k q hk e
    simp [this]
  · simp [also_ne e]
theorem Text.ver_also {done : Nat → Bool} {i : Nat} {p : PC} (h : X.Next done i p) (hc : p.chain = false) : X.ver (also done i) = X.ver done := by
  refine countP_also fun k q hk e => ?_
  rw [X.idx hk] at e
  subst e
  rw [h.hp] at hk; cases hk
  simp [hc]
theorem Text.ver_chain {done : Nat → Bool} {i : Nat} {p : PC} (h : X.Next done i p) (hc : p.chain = true) : X.ver (also done i) = X.ver done + 1 := by
  have hi := X.lt h.hp
  have split : ∀ d : Nat → Bool, X.ver d = (X.L.take i).countP (fun q => q.chain && d q.e.i) + ((if p.chain && d i then 1 else 0) + (X.L.drop (i + 1)).countP (fun q => q.chain && d q.e.i)) := by
    intro d
    unfold Text.ver
    conv => lhs; rw [← List.take_append_drop i X.L]
    rw [List.countP_append, List.drop_eq_getElem_cons hi, List.countP_cons]
    have hp : X.L[i] = p := by have := h.hp; rw [List.getElem?_eq_getElem hi] at this; cases this; rfl
    rw [hp, X.idx h.hp]
    omega
  rw [split, split, also_self, h.hnd]
  rw [countP_also (l := X.L.take i), countP_also (l := X.L.drop (i + 1))]
  · simp [hc]; omega
  · intro k q hk e
    rw [List.getElem?_drop] at hk
    rw [X.idx hk] at e; omega
  · intro k q hk e
    have hk' := (List.getElem?_eq_some_iff.1 hk).1
    simp only [List.length_take] at hk'
    rw [List.getElem?_take, if_pos (by omega)] at hk
    rw [X.idx hk] at e; omega
theorem Text.closed_also {done : Nat → Bool} (hcl : X.Closed done) {i : Nat} {p : PC} (h : X.Next done i p) : X.Closed (also done i) := by
  intro k q j hq hd ht
  by_cases e : k = i
  · subst e
    have := h.hp
    rw [hq] at this; cases this
    exact also_mono (h.hm j ht)
  · rw [also_ne e] at hd
    exact also_mono (hcl k q j hq hd ht)
/-! ### the heap -/
/-- a new block has been laid -/
def Text.Laid (done : Nat → Bool) (k : Nat) : Prop := ∃ i q, k < i ∧ X.L[i]? = some q ∧ q.chain = true ∧ done i = true ∧ tb q.e.m k = true
/-- a new block is made and not laid -/
def Text.Pend (done : Nat → Bool) (b : Pos) (B : Blk) : Prop := ∃ k p l, X.L[k]? = some p ∧ p.al = true ∧ done k = true ∧ ¬ X.Laid done k ∧ b = X.nm k ∧ X.Alc k p l ∧ B = l
def Text.GF (done : Nat → Bool) (Hb : Hp) (b : Pos) (B : Blk) : Prop :=
  (∃ x ∈ X.sts, done x.i = true ∧ x.b = b ∧ x.B = B) ∨ ((∀ x ∈ X.sts, done x.i = true → x.b ≠ b) ∧ (Tr.get b Hb.t = some B ∨ X.Pend done b B))
structure Text.Inv (lim : Nat) (φ0 : Phi) (w0 : World) (ds : List ADef) (done : Nat → Bool) (Hb : Hp) (φ : Phi) (a : Act) (w : World) : Prop where
  base : ∀ i, i ≤ X.L.length → (X.ss i).j = X.ver done → (X.ss i).H = Hb
  hr : HRf E.ng φ (X.GF done Hb) Hb.nx w
  gl : GLf E φ (X.GF done Hb) w
  keep : Keepf lim φ0 (fn H0) H0.nx w0 φ (X.GF done Hb) Hb.nx w
  tr : TR φ n (X.TD done X.L.length) a.tmps
  dfr : DRL φ ds a.defers
  free : ∀ (k : Nat) (p : PC), X.L[k]? = some p → p.al = true → done k = false → φ (X.nm k) = none
  fresh : ∀ (k : Nat) (p : PC), X.L[k]? = some p → p.al = true → ¬ X.Laid done k → Tr.get (X.nm k) Hb.t = none
  nx : X.nx0.val ≤ Hb.nx.val
  cl : X.Closed done
/-- who stands behind a late store -/
theorem Text.st_at {x : Late} (hx : x ∈ X.sts) : ∃ k p, X.L[k]? = some p ∧ p.st = true ∧ k = x.i := by
  obtain ⟨p, hp, hs, hi, _⟩ := X.stf.from_ x hx
  obtain ⟨k, hk⟩ := List.getElem?_of_mem hp
  exact ⟨k, p, hk, hs, by rw [← X.idx hk]; exact hi⟩
theorem Text.GF_fun {lim : Nat} {φ0 : Phi} {w0 : World} {ds : List ADef} {done : Nat → Bool} {Hb : Hp} {φ : Phi} {a : Act} {w : World} (hI : X.Inv lim φ0 w0 ds done Hb φ a w) {b : Pos} {B C : Blk} (h : X.GF done Hb b B) (h' : X.GF done Hb b C) : B = C := by
  rcases h with ⟨x, hx, hd, rfl, rfl⟩ | ⟨hn, h⟩ <;> rcases h' with ⟨y, hy, hd', he, rfl⟩ | ⟨hn', h'⟩
  · rw [X.stf.dist y hy x hx he]
  · exact absurd rfl (hn' x hx hd)
  · exact absurd he (hn y hy hd')
  · rcases h with h | ⟨k, p, l, h1, h2, h3, h4, h5, h6, rfl⟩ <;> rcases h' with h' | ⟨k', p', l', g1, g2, g3, g4, g5, g6, rfl⟩
    · rw [h] at h'; cases h'; rfl
    · have := hI.fresh k' p' g1 g2 g4
      rw [← g5, h] at this; cases this
    · have := hI.fresh k p h1 h2 h4
      rw [← h5, h'] at this; cases this
    · have e : k = k' := X.nm_inj h1 g1 h2 g2 (h5.symm.trans g5)
      subst e
      rw [h1] at g1; cases g1
      rw [X.alc_fun h6 g6]
/-- one operation: its step, on a part of the heap -/
theorem Text.step_part (hE : EnvOk2 P E) (hrun : RunOk P E run) {lim : Nat} {φ0 : Phi} {w0 : World} {ds : List ADef} {done : Nat → Bool} {Hb : Hp} {φ : Phi} {a : Act} {w : World} (hlim : lim ≤ H0.nx.val)
    (hI : X.Inv lim φ0 w0 ds done Hb φ a w) {i : Nat} {p : PC} (h : X.Next done i p) {H H' Hb' : Hp} (hs : Sub H (X.GF done Hb)) (hn : H.nx = Hb.nx) {c' : CO} (hcc : ∀ o, COk P E n ops o p.e.c → COk P E n ops o c') (ha : actW E run c' (X.TD done X.L.length) H = .ok (X.vv i) H')
    (hnx : Hb'.nx = H'.nx) (hsub : ∀ b B, X.GF (also done i) Hb' b B → over H (X.GF done Hb) H' b B) (hbase : ∀ k, k ≤ X.L.length → (X.ss k).j = X.ver (also done i) → (X.ss k).H = Hb')
    (hnal : p.al = false)
    (hfresh : ∀ φ' w', HR E.ng φ' H' w' → Keep φ H w φ' H' w' → ∀ (k : Nat) (q : PC), X.L[k]? = some q → q.al = true → ¬ X.Laid (also done i) k → Tr.get (X.nm k) Hb'.t = none)
    {b : Frame} {rest : List Nat} {k : List Item} {cs : List Frame} :
    ∃ φ' a' w', Steps P (lone (b.atR a (.inRegion ops (i :: rest) :: k)) cs w) (lone (b.atR a' (.inRegion ops rest :: k)) cs w') ∧ X.Inv lim φ0 w0 ds (also done i) Hb' φ' a' w' := by
  obtain ⟨o, ho, hc, _, _, hd⟩ := X.cdst hE.toEnvOk h.hp
  have hH := hI.hr.hr hs hn
  have hG := hI.gl.gl hs
  obtain ⟨φ', x, w', h1, h2, h3, h4⟩ := actW_ok hE hrun (hcc o hc) ha (b := b) (rest := rest) (k := k) (cs := cs) ho hI.tr hH hG
  have hlim' : lim ≤ Hb.nx.val := by have := hI.nx; have := X.hnx0; omega
  obtain ⟨g1, g2, g3⟩ := step_over (lim := lim) hI.hr hs hn hlim' h3 h4
  refine ⟨φ', a.put o.dst x, w', h1, hbase, ?_, (g3 hI.gl).sub hsub, ?_, ?_, by rw [put_defers]; exact hI.dfr.mono h4.le, ?_, hfresh φ' w' h3 h4, ?_, X.closed_also hI.cl h⟩
  · rw [hnx]; exact g1.sub hsub
  · rw [hnx]; exact (hI.keep.trans g2).less hsub
  · refine ⟨?_, fun t v hv => ?_⟩
    · have := hI.tr.size; cases o.dst <;> simpa [Act.put] using this
    · rw [X.TD_also hE.toEnvOk hI.cl h] at hv
      by_cases hdt : p.e.dst = some t
      · rw [if_pos hdt] at hv; cases hv
        have hod : o.dst = some t := by
          have := hc.dst
          rw [hd, hdt] at this
          cases hh : o.dst with
          | none => rw [hh] at this; cases this
          | some u => rw [hh] at this; simp at this; rw [posOf_inj this]
        have hlt := hc.lt t hod
        refine ⟨x, ?_, h2⟩
        rw [hod]
        show (a.tmps.setIfInBounds t x)[t]? = _
        have hsz := hI.tr.size
        have hlt' : t < a.tmps.size := Nat.lt_of_lt_of_le hlt hsz
        rw [Array.getElem?_setIfInBounds]; simp [hlt']
      · rw [if_neg hdt] at hv
        obtain ⟨y, hy, hr⟩ := hI.tr.get t v hv
        refine ⟨y, ?_, hr.mono h4.le⟩
        cases hh : o.dst with
        | none => exact hy
        | some u =>
          have hne : u ≠ t := by
            intro e; subst e
            have := hc.dst
            rw [hd, hh] at this
            cases hpd : p.e.dst with
            | none => rw [hpd] at this; cases this
            | some u' => rw [hpd] at this; simp at this; rw [posOf_inj this] at hpd; exact hdt hpd
          show (a.tmps.setIfInBounds u x)[t]? = _
          rw [Array.getElem?_setIfInBounds, if_neg hne]; exact hy
  · intro k' q hq hqa hqd
    have hne : k' ≠ i := fun e => by subst e; rw [h.hp] at hq; cases hq; rw [hnal] at hqa; cases hqa
    rw [also_ne hne] at hqd
    have hlt := (X.nm_lt hq hqa).2.2
    rw [h4.dom _ (by rw [hn]; have := hI.nx; omega)]
    exact hI.free k' q hq hqa hqd
  · rw [hnx]
    have := h4.nx
    rw [hn] at this
    have := hI.nx
    omega
end
end Go.Ev
/- Drawn regions: each kind of operation; all of them, in whatever order. -/
namespace Go.Ev
section
variable {E : Env} {run : RunT}
/-! ### an operation looks at what it names -/
theorem act_cong {n : Nat} {ops : Array Oper} {o : Oper} {c : CO} (h : cOper E n ops o = some c) {T T' : Tr AV} (hg : ∀ t ∈ namesOf ops o, Tr.get (posOf t) T = Tr.get (posOf t) T') : wantedV c.guard T = wantedV c.guard T' ∧ c.op.Cong T T' := by
  obtain ⟨k, hk, h⟩ := ob_some.1 h
  have hop : ∀ t, Operand.tmp t ∈ o.op.operands.toList → t ∈ namesOf ops o := by
    intro t ht
    have := (tmpsOf_mem t _).2 ht
    unfold namesOf
    split
    · split
      · exact List.mem_cons_of_mem _ this
      · exact this
    · exact this
  have hcg : k.Cong T T' := cop_cong hk (fun t ht => hg t (hop t ht))
  split at h
  · cases h; exact ⟨rfl, hcg⟩
  · next j b _ hgd =>
    split at h
    · next t ht =>
      cases h
      refine ⟨?_, hcg⟩
      unfold wantedV
      simp only
      rw [hg t (by unfold namesOf; rw [hgd]; simp only; rw [ht]; exact List.mem_cons_self ..)]
    · cases h
  · cases h
theorem actW_cong {c : CO} {T T' : Tr AV} (h : wantedV c.guard T = wantedV c.guard T' ∧ c.op.Cong T T') (H : Hp) : actW E run c T H = actW E run c T' H := by
  obtain ⟨h1, h2⟩ := h
  unfold actW
  rw [h1]
  cases wantedV c.guard T' with
  | none => rfl
  | some b =>
    cases b with
    | false => rfl
    | true =>
      simp only
      unfold actR
      generalize c.op = op at h2
      cases op with
      | pure f => simp only [show f T = f T' from h2]
      | read f => simp only [show f T H = f T' H from h2 H]
      | slc f g h => simp only [show f T = f T' from h2.1.1, show g T H = g T' H from h2.1.2 H]
      | alc f v => simp only [show f T = f T' from h2.1, show v T H.nx = v T' H.nx from h2.2 H.nx]
      | st f => simp only [show f T = f T' from h2]
      | eff g => exact h2 H
      | call f xs => simp only [show getL xs T = getL xs T' from h2]
      | dyn x xs => simp only [show getO x T = getO x T' from h2.1, show getL xs T = getL xs T' from h2.2]
      | inv m x xs => simp only [show getO x T = getO x T' from h2.1, show getL xs T = getL xs T' from h2.2]
      | defer x xs => rfl
      | recover => rfl
theorem lightV_cong {c : CO} {T T' : Tr AV} (h : wantedV c.guard T = wantedV c.guard T' ∧ c.op.Cong T T') (H : Hp) : lightV c T H = lightV c T' H := by
  obtain ⟨h1, h2⟩ := h
  unfold lightV
  rw [h1]
  cases wantedV c.guard T' with
  | none => rfl
  | some b =>
    cases b with
    | false => rfl
    | true =>
      simp only
      generalize c.op = op at h2
      cases op with
      | pure f => exact h2
      | read f => exact h2 H
      | slc f g h => exact h2.2
      | _ => rfl
/-- an operation as it is run where no block may be made -/
def lightC (c : CO) : CO := { c with op := match c.op with | .slc _ _ h => .pure h | o => o }
theorem lightC_ok {P : Program} {E : Env} {n : Nat} {ops : Array Oper} {o : Oper} {c : CO} (h : COk P E n ops o c) : COk P E n ops o (lightC c) := by
  refine ⟨?_, h.dst, h.lt, h.guard⟩
  have h1 := h.op
  unfold lightC
  cases hop : c.op <;> rw [hop] at h1 <;> first | exact h1 | exact h1.2
theorem light_act {c : CO} {T : Tr AV} {H : Hp} {v : AV} (h : lightV c T H = some v) : actW E run (lightC c) T H = .ok v H := by
  unfold lightV at h
  unfold actW
  show (match wantedV c.guard T with | none => _ | some false => _ | some true => _) = _
  cases hw : wantedV c.guard T with
  | none => rw [hw] at h; cases h
  | some b =>
    rw [hw] at h
    cases b with
    | false => cases h; rfl
    | true =>
      simp only at h ⊢
      unfold actR lightC
      cases hop : c.op <;> rw [hop] at h <;> simp only at h ⊢ <;> first | cases h; done | (rw [h]) | cases h
theorem light_still {c : CO} (hr : c.op.reads = false) (he : c.op.effects = false) (T : Tr AV) (H H' : Hp) : lightV c T H = lightV c T H' := by
  unfold lightV
  cases wantedV c.guard T with
  | none => rfl
  | some b =>
    cases b with
    | false => rfl
    | true =>
      cases hop : c.op <;> rw [hop] at hr he <;> first | rfl | cases hr | cases he
end
section
variable {P : Program} {E : Env} {run : RunT} {n : Nat} {ops : Array Oper} {T0 : Tr AV} {H0 : Hp} (X : Text E run n ops T0 H0)
variable {lim : Nat} {φ0 : Phi} {w0 : World} {ds : List ADef} {done : Nat → Bool} {Hb : Hp} {φ : Phi} {a : Act} {w : World}
theorem Text.cong_at (hE : EnvOk P E) (hI : X.Inv lim φ0 w0 ds done Hb φ a w) {i : Nat} {p : PC} (h : X.Next done i p) :
    wantedV p.e.c.guard (X.TD done X.L.length) = wantedV p.e.c.guard (X.ss i).T ∧ p.e.c.op.Cong (X.TD done X.L.length) (X.ss i).T := by
  obtain ⟨o, h1, _, h3, h4, h5, _⟩ := X.pf.at_ i p h.hp
  exact act_cong h3 fun t ht => X.slot_same hE hI.cl h (by rw [h5]; exact ht)
/-- a late store that is done stands behind the whole chain -/
theorem Text.st_chain (hcl : X.Closed done) {k : Nat} {q : PC} (hq : X.L[k]? = some q) (hs : q.st = true) (hd : (∀ j, tb q.e.m j = true → done j = true)) {i : Nat} {p : PC} (hp : X.L[i]? = some p) (hc : p.chain = true) : done i = true := by
  rcases Nat.lt_trichotomy i k with h | h | h
  · have := apart_chain (X.apart h hp hq) hc (.inr hs)
    rw [X.idx hp] at this
    exact hd _ this
  · subst h; rw [hp] at hq; cases hq; rw [chain_not_st hc] at hs; cases hs
  · have := (apart_st (X.apart h hq hp) hs).2
    rw [hc] at this; cases this
theorem Text.ver_full (h : ∀ (i : Nat) (p : PC), X.L[i]? = some p → p.chain = true → done i = true) : X.ver done = (X.ss X.L.length).j := by
  rw [X.j_eq _ (Nat.le_refl _), List.take_length, Text.ver]
  refine List.countP_congr fun q hq => ?_
  obtain ⟨k, hk⟩ := List.getElem?_of_mem hq
  constructor
  · intro hh; simp at hh; exact hh.1
  · intro hh; simp [hh, X.idx hk, h k q hk hh]
theorem Text.sts_done_ver (hcl : X.Closed done) {x : Late} (hx : x ∈ X.sts) (hd : done x.i = true) : X.ver done = (X.ss X.L.length).j := by
  obtain ⟨k, q, hq, hs, rfl⟩ := X.st_at hx
  exact X.ver_full fun i p hp hc => X.st_chain hcl hq hs (fun j hj => hcl _ q j hq hd hj) hp hc
theorem Text.laid_also {i : Nat} {p : PC} (h : X.Next done i p) (hc : p.chain = false) (k : Nat) : X.Laid (also done i) k ↔ X.Laid done k := by
  constructor
  · rintro ⟨j, q, h1, h2, h3, h4, h5⟩
    have : j ≠ i := fun e => by subst e; have := h.hp; rw [h2] at this; cases this; rw [h3] at hc; cases hc
    rw [also_ne this] at h4
    exact ⟨j, q, h1, h2, h3, h4, h5⟩
  · rintro ⟨j, q, h1, h2, h3, h4, h5⟩
    exact ⟨j, q, h1, h2, h3, also_mono h4, h5⟩
theorem Text.sts_nm (hI : X.Inv lim φ0 w0 ds done Hb φ a w) {x : Late} (hx : x ∈ X.sts) (hv : X.ver done = (X.ss X.L.length).j) {k : Nat} {q : PC} (hq : X.L[k]? = some q) (ha : q.al = true) (hl : ¬ X.Laid done k) : x.b ≠ X.nm k := by
  intro he
  obtain ⟨p, _, _, _, f, o, vs, _, _, hB⟩ := X.stf.from_ x hx
  obtain ⟨pl, l, hb, _, _⟩ := overB_some hB
  have := hI.fresh k q hq ha hl
  rw [← he, ← hI.base X.L.length (Nat.le_refl _) hv.symm, hb] at this
  cases this
/-- the step of an operation of the chain -/
theorem Text.do_chain (hE : EnvOk2 P E) (hrun : RunOk P E run) (hlim : lim ≤ H0.nx.val) (hI : X.Inv lim φ0 w0 ds done Hb φ a w) {i : Nat} {p : PC} (h : X.Next done i p) (hc : p.chain = true) {b : Frame} {rest : List Nat} {k : List Item} {cs : List Frame} :
    ∃ Hb' φ' a' w', Steps P (lone (b.atR a (.inRegion ops (i :: rest) :: k)) cs w) (lone (b.atR a' (.inRegion ops rest :: k)) cs w') ∧ X.Inv lim φ0 w0 ds (also done i) Hb' φ' a' w' := by
  have hi := X.lt h.hp
  have hv := X.chain_ver hI.cl h hc
  have hHb := hI.base i (by omega) hv.symm
  obtain ⟨hact, _⟩ := X.chain_step h.hp hc
  rw [hHb] at hact
  -- no late store is done
  have hnst : ∀ x ∈ X.sts, done x.i = true → False := by
    intro x hx hd
    obtain ⟨j, q, hq, hs, rfl⟩ := X.st_at hx
    have := X.st_chain hI.cl hq hs (fun j hj => hI.cl _ q j hq hd hj) h.hp hc
    rw [h.hnd] at this; cases this
  have hnst' : ∀ x ∈ X.sts, also done i x.i = true → False := by
    intro x hx hd
    by_cases e : x.i = i
    · obtain ⟨j, q, hq, hs, rfl⟩ := X.st_at hx
      rw [e, h.hp] at hq; cases hq
      rw [chain_not_st hc] at hs; cases hs
    · rw [also_ne e] at hd; exact hnst x hx hd
  -- what is in the list now, and waited for, is not laid
  have hlate : ∀ x ∈ (X.ss i).late, ∃ k q l, k < i ∧ X.L[k]? = some q ∧ q.al = true ∧ x = ⟨k, X.nm k, l⟩ ∧ X.Alc k q l ∧ ¬ X.Laid done k := by
    intro x hx
    obtain ⟨k, q, l, h1, h2, h3, h4, h5, h6⟩ := X.late_ok i (by omega) x hx
    refine ⟨k, q, l, h1, h2, h3, h4, h5, ?_⟩
    rintro ⟨j, r, g1, g2, g3, g4, g5⟩
    rcases Nat.lt_trichotomy j i with hj | hj | hj
    · rw [h6 j r g1 hj g2 g3] at g5; cases g5
    · subst hj; rw [h.hnd] at g4; cases g4
    · have := apart_chain (X.apart hj h.hp g2) hc (.inl g3)
      have := hI.cl j r _ g2 g4 this
      rw [X.idx h.hp, h.hnd] at this; cases this
  have hsub : Sub (layH p.e.m (X.ss i).late Hb) (X.GF done Hb) := by
    intro b' B hb'
    right
    refine ⟨fun x hx hd => (hnst x hx hd).elim, ?_⟩
    rcases layH_some _ _ hb' with ⟨x, hx, ht, h1, h2⟩ | h1
    · obtain ⟨k, q, l, g1, g2, g3, rfl, g5, g6⟩ := hlate x hx
      exact .inr ⟨k, q, l, g2, g3, h.hm k ht, g6, h1.symm, g5, h2.symm⟩
    · exact .inl h1
  have hpend : ∀ b' B, X.Pend (also done i) b' B → Tr.get b' (layH p.e.m (X.ss i).late Hb).t = none ∧ X.Pend done b' B := by
    rintro b' B ⟨k, q, l, g1, g2, g3, g4, rfl, g6, rfl⟩
    have hki : k ≠ i := fun e => by subst e; rw [h.hp] at g1; cases g1; rw [chain_not_al hc] at g2; cases g2
    rw [also_ne hki] at g3
    have g4' : ¬ X.Laid done k := fun ⟨j, r, r1, r2, r3, r4, r5⟩ => g4 ⟨j, r, r1, r2, r3, also_mono r4, r5⟩
    refine ⟨?_, k, q, _, g1, g2, g3, g4', rfl, g6, rfl⟩
    cases hh : Tr.get (X.nm k) (layH p.e.m (X.ss i).late Hb).t with
    | none => rfl
    | some Y =>
      exfalso
      rcases layH_some _ _ hh with ⟨x, hx, ht, h1, h2⟩ | h1
      · obtain ⟨k2, q2, l2, r1, r2, r3, rfl, r5, r6⟩ := hlate x hx
        have e : k2 = k := X.nm_inj r2 g1 r3 g2 h1
        subst e
        exact g4 ⟨i, p, r1, h.hp, hc, also_self _ _, ht⟩
      · rw [hI.fresh k q g1 g2 g4'] at h1; cases h1
  refine ⟨(X.ss (i + 1)).H, ?_⟩
  refine X.step_part hE hrun hlim hI h (H' := (X.ss (i + 1)).H) hsub (layH_nx _ _) (fun _ h => h) ?_ rfl ?_ ?_ (chain_not_al hc) ?_
  · rw [actW_cong (X.cong_at hE.toEnvOk hI h)]; exact hact
  · intro b' B hb'
    rcases hb' with ⟨x, hx, hd, _⟩ | ⟨_, hb' | hb'⟩
    · exact (hnst' x hx hd).elim
    · exact .inr hb'
    · obtain ⟨h1, h2⟩ := hpend b' B hb'
      exact .inl ⟨h1, .inr ⟨fun x hx hd => (hnst x hx hd).elim, .inr h2⟩⟩
  · intro k hk hj
    rw [X.ver_chain h hc, hv] at hj
    have hj' : (X.ss (i + 1)).j = (X.ss i).j + 1 := by rw [X.j_succ h.hp, hc]; rfl
    rcases Nat.le_total k (i + 1) with hle | hle
    · exact X.H_of_j hle (by omega) (by omega)
    · exact (X.H_of_j hle hk (by omega)).symm
  · intro φ' w' hH' hK k q hq hqa hl
    have hki : k ≠ i := fun e => by subst e; rw [h.hp] at hq; cases hq; rw [chain_not_al hc] at hqa; cases hqa
    cases hh : Tr.get (X.nm k) (X.ss (i + 1)).H.t with
    | none => rfl
    | some Y =>
      exfalso
      obtain ⟨pl, o, hp1, ho, _⟩ := hH'.blk _ _ hh
      have hlt := (X.nm_lt hq hqa).2.2
      have hdom : φ' (X.nm k) = φ (X.nm k) := hK.dom _ (by rw [layH_nx]; have := hI.nx; omega)
      rw [hdom] at hp1
      have hl' : ¬ X.Laid done k := fun ⟨j, r, r1, r2, r3, r4, r5⟩ => hl ⟨j, r, r1, r2, r3, also_mono r4, r5⟩
      cases hdk : done k with
      | false => rw [hI.free k q hq hqa hdk] at hp1; cases hp1
      | true =>
        obtain ⟨l, hal⟩ := X.alc_ok hq hqa
        have hgf : X.GF done Hb (X.nm k) l := .inr ⟨fun x hx hd => (hnst x hx hd).elim, .inr ⟨k, q, l, hq, hqa, hdk, hl', rfl, hal, rfl⟩⟩
        obtain ⟨pl', o', hp2, ho', _⟩ := hI.hr.blk _ _ hgf
        rw [hp1] at hp2; cases hp2
        obtain ⟨b0, B0, p0, hb0, hp0, he0⟩ := hK.own _ _ pl hh (by rw [hdom]; exact hp1) (Array.getElem?_eq_some_iff.1 ho').1
        have := hI.hr.inj b0 (X.nm k) B0 _ p0 pl (hsub _ _ hb0) hgf hp0 hp1 he0
        subst this
        have hpn := (hpend _ _ (⟨k, q, l, hq, hqa, also_mono hdk, hl, rfl, hal, rfl⟩ : X.Pend (also done i) (X.nm k) l)).1
        rw [hpn] at hb0; cases hb0
/-- nothing but the slots turns -/
theorem Text.GF_also {i : Nat} {p : PC} (h : X.Next done i p) (hc : p.chain = false) (hs : p.st = false) (ha : p.al = false) (b : Pos) (B : Blk) : X.GF (also done i) Hb b B ↔ X.GF done Hb b B := by
  have hst : ∀ x ∈ X.sts, also done i x.i = done x.i := by
    intro x hx
    refine also_ne fun e => ?_
    obtain ⟨j, q, hq, hqs, rfl⟩ := X.st_at hx
    rw [e, h.hp] at hq; cases hq
    rw [hs] at hqs; cases hqs
  have hpd : X.Pend (also done i) b B ↔ X.Pend done b B := by
    constructor
    · rintro ⟨k, q, l, g1, g2, g3, g4, g5, g6, g7⟩
      have hki : k ≠ i := fun e => by subst e; rw [h.hp] at g1; cases g1; rw [ha] at g2; cases g2
      rw [also_ne hki] at g3
      exact ⟨k, q, l, g1, g2, g3, fun hl => g4 ((X.laid_also h hc k).2 hl), g5, g6, g7⟩
    · rintro ⟨k, q, l, g1, g2, g3, g4, g5, g6, g7⟩
      exact ⟨k, q, l, g1, g2, also_mono g3, fun hl => g4 ((X.laid_also h hc k).1 hl), g5, g6, g7⟩
  constructor
  · rintro (⟨x, hx, h1, h2⟩ | ⟨h1, h2⟩)
    · exact .inl ⟨x, hx, by rw [← hst x hx]; exact h1, h2⟩
    · exact .inr ⟨fun x hx hd => h1 x hx (by rw [hst x hx]; exact hd), h2.imp id hpd.1⟩
  · rintro (⟨x, hx, h1, h2⟩ | ⟨h1, h2⟩)
    · exact .inl ⟨x, hx, by rw [hst x hx]; exact h1, h2⟩
    · exact .inr ⟨fun x hx hd => h1 x hx (by rw [← hst x hx]; exact hd), h2.imp id hpd.2⟩
theorem Text.base_also (hI : X.Inv lim φ0 w0 ds done Hb φ a w) {i : Nat} {p : PC} (h : X.Next done i p) (hc : p.chain = false) : ∀ k, k ≤ X.L.length → (X.ss k).j = X.ver (also done i) → (X.ss k).H = Hb := by
  intro k hk hj
  rw [X.ver_also h hc] at hj
  exact hI.base k hk hj
theorem Text.do_light (hE : EnvOk2 P E) (hrun : RunOk P E run) (hlim : lim ≤ H0.nx.val) (hI : X.Inv lim φ0 w0 ds done Hb φ a w) {i : Nat} {p : PC} (h : X.Next done i p) (hfl : p.fl = false) (heff : p.e.c.op.effects = false) {b : Frame} {rest : List Nat} {k : List Item} {cs : List Frame} :
    ∃ Hb' φ' a' w', Steps P (lone (b.atR a (.inRegion ops (i :: rest) :: k)) cs w) (lone (b.atR a' (.inRegion ops rest :: k)) cs w') ∧ X.Inv lim φ0 w0 ds (also done i) Hb' φ' a' w' := by
  have hc : p.chain = false := by unfold PC.chain; rw [hfl]; exact heff
  have hs : p.st = false := by unfold PC.st; rw [hfl]
  have hal : p.al = false := by unfold PC.al; rw [hfl]
  obtain ⟨hv, hrec⟩ := X.light_step h.hp hfl heff
  -- the heap at which it looks
  obtain ⟨H, hmem, hsub, hnx⟩ : ∃ H, (X.ver done, H) ∈ ((X.ss X.L.length).j, X.Hs) :: (X.ss X.L.length).hs ∧ Sub H (X.GF done Hb) ∧ H.nx = Hb.nx := by
    by_cases hlt : X.ver done < (X.ss X.L.length).j
    · obtain ⟨i0, p0, hp0, hc0, hj0⟩ := X.next_chain hlt
      have hHb := hI.base i0 (Nat.le_of_lt (X.lt hp0)) hj0
      refine ⟨Hb, List.mem_cons_of_mem _ ?_, fun b' B hb' => .inr ⟨fun x hx hd => ?_, .inl hb'⟩, rfl⟩
      · have h1 := (X.chain_step hp0 hc0).2
        rw [hj0, hHb] at h1
        exact X.up (Q := fun k => (X.ver done, Hb) ∈ (X.ss k).hs) (fun k q hq hh => X.hs_mono hq hh) (X.lt hp0) (Nat.le_refl _) h1
      · have := X.sts_done_ver hI.cl hx hd; omega
    · have he : X.ver done = (X.ss X.L.length).j := by have := X.ver_le done; omega
      have hHb := hI.base X.L.length (Nat.le_refl _) he.symm
      refine ⟨X.Hs, by rw [he]; exact List.mem_cons_self .., fun b' B hb' => ?_, by rw [X.stf.nx, hHb]⟩
      obtain ⟨h1, h2⟩ := X.stf.less b' B hb'
      rw [hHb] at h1
      exact .inr ⟨fun x hx _ => h2 x hx, .inl h1⟩
  have hval : lightV p.e.c (X.ss i).T H = some (X.vv i) := by
    cases hr : p.e.c.op.reads with
    | false => rw [light_still hr heff _ H (X.ss i).H]; exact hv
    | true =>
      have hag := X.again _ (hrec hr)
      have hag := (allL_iff' _ _).1 hag _ hmem
      obtain ⟨hlo, hhi⟩ := X.pf.lohi p (List.mem_of_getElem? h.hp) hr
      have h1 : Nat.ble p.lo (X.ver done) = true := by
        refine Nat.ble_eq_true_of_le ?_
        rw [hlo]
        refine List.countP_mono_left fun q _ hh => ?_
        simp at hh ⊢
        exact ⟨hh.1, h.hm _ hh.2⟩
      have h2 : Nat.ble (X.ver done) p.hi = true := by
        refine Nat.ble_eq_true_of_le ?_
        rw [hhi]
        refine List.countP_mono_left fun q hq hh => ?_
        simp at hh ⊢
        refine ⟨hh.1, ?_⟩
        cases ht : tb q.e.m p.e.i with
        | false => rfl
        | true =>
          obtain ⟨kk, hkk⟩ := List.getElem?_of_mem hq
          have h3 := hh.2
          rw [X.idx hkk] at h3
          have := hI.cl kk q _ hkk h3 ht
          rw [X.idx h.hp, h.hnd] at this; cases this
      simp only [h1, h2] at hag
      split at hag
      · next v' hv' => rw [avEq_eq _ _ _ hag] at hv'; exact hv'
      · cases hag
  refine ⟨Hb, ?_⟩
  refine X.step_part hE hrun hlim hI h (H := H) (H' := H) hsub hnx (fun _ => lightC_ok) ?_ hnx.symm ?_ (X.base_also hI h hc) hal ?_
  · exact light_act (by rw [lightV_cong (X.cong_at hE.toEnvOk hI h)]; exact hval)
  · intro b' B hb'
    have hb' := (X.GF_also h hc hs hal b' B).1 hb'
    cases hh : Tr.get b' H.t with
    | none => exact .inl ⟨hh, hb'⟩
    | some Y => rw [X.GF_fun hI hb' (hsub _ _ hh)]; exact .inr hh
  · intro φ' w' _ _ k q hq hqa hl
    exact hI.fresh k q hq hqa fun hh => hl ((X.laid_also h hc k).2 hh)
/-- the step of a late store -/
theorem Text.do_store (hE : EnvOk2 P E) (hrun : RunOk P E run) (hlim : lim ≤ H0.nx.val) (hI : X.Inv lim φ0 w0 ds done Hb φ a w) {i : Nat} {p : PC} (h : X.Next done i p) (hs : p.st = true) {b : Frame} {rest : List Nat} {k : List Item} {cs : List Frame} :
    ∃ Hb' φ' a' w', Steps P (lone (b.atR a (.inRegion ops (i :: rest) :: k)) cs w) (lone (b.atR a' (.inRegion ops rest :: k)) cs w') ∧ X.Inv lim φ0 w0 ds (also done i) Hb' φ' a' w' := by
  have hi := X.lt h.hp
  have hc : p.chain = false := by cases hh : p.chain with | false => rfl | true => rw [chain_not_st hh] at hs; cases hs
  have hal := st_not_al hs
  have hv : X.ver done = (X.ss X.L.length).j := X.ver_full fun j q hq hqc => X.st_chain hI.cl h.hp hs h.hm hq hqc
  have hHb := hI.base X.L.length (Nat.le_refl _) hv.symm
  obtain ⟨x, hx, hxi⟩ := X.stf.all_ p (List.mem_of_getElem? h.hp) hs
  rw [X.idx h.hp] at hxi
  obtain ⟨q, hq, hqs, hqi, f, o, vs, hop, hfT, hB⟩ := X.stf.from_ x hx
  obtain ⟨kq, hkq⟩ := List.getElem?_of_mem hq
  have e : kq = i := by rw [← X.idx hkq, hqi, hxi]
  subst e
  have := h.hp; rw [hkq] at this; cases this
  rw [hHb] at hB
  obtain ⟨pl, l, hold, _, _⟩ := overB_some hB
  have hone : ∀ y ∈ X.sts, y.i = kq → y = x := by
    intro y hy hyi
    obtain ⟨q', hq', _, hqi', f', o', vs', hop', hfT', _⟩ := X.stf.from_ y hy
    obtain ⟨k', hk'⟩ := List.getElem?_of_mem hq'
    have e : k' = kq := by rw [← X.idx hk', hqi', hyi]
    subst e
    rw [hkq] at hk'; cases hk'
    rw [hop] at hop'; cases hop'
    rw [hfT] at hfT'
    exact X.stf.dist y hy x hx (congrArg Prod.fst (Option.some.inj hfT')).symm
  -- its own step
  have hst := X.step kq _ h.hp
  have hgd : p.e.c.guard = none ∧ X.vv kq = .tup [] := by
    generalize X.ss (kq + 1) = s' at hst
    generalize X.vv kq = v at hst
    cases hst with
    | skip hs hg hd => exact ⟨hg, rfl⟩
    | alc hfl hg hop' hl hu => rw [hop] at hop'; cases hop'
    | chain hfl heff hh => unfold PC.st at hs; rw [hfl] at hs; cases hs
    | light hfl heff hh => unfold PC.st at hs; rw [hfl] at hs; cases hs
  -- the slots that it names
  have hT : ∀ t ∈ p.e.names, Tr.get (posOf t) (X.TD done X.L.length) = Tr.get (posOf t) (X.ss X.L.length).T := by
    intro t ht
    rw [X.slot_same hE.toEnvOk hI.cl h ht]
    refine (X.upFrom (i := kq) (Q := fun k => Tr.get (posOf t) (X.ss k).T = Tr.get (posOf t) (X.ss kq).T) (fun k r hk hr ih => ?_) (by omega) (Nat.le_refl _) rfl).symm
    obtain ⟨_, _, _, _, _, hd⟩ := X.cdst hE.toEnvOk hr
    rw [X.T_succ hr, hd, get_setT, if_neg, ih]
    intro hdst
    by_cases e : k = kq
    · subst e
      rw [h.hp] at hr; cases hr
      obtain ⟨_, _, _, _, _, hd'⟩ := X.cdst hE.toEnvOk h.hp
      have hcd : p.e.c.dst = none := by
        generalize X.ss (k + 1) = s' at hst
        generalize X.vv k = v at hst
        cases hst with
        | skip hs hg hd => exact hd
        | alc hfl hg hop' hl hu => rw [hop] at hop'; cases hop'
        | chain hfl heff hh => unfold PC.st at hs; rw [hfl] at hs; cases hs
        | light hfl heff hh => unfold PC.st at hs; rw [hfl] at hs; cases hs
      rw [hd', hdst] at hcd; cases hcd
    · have hap := X.apart (show kq < k by omega) h.hp hr
      exact (slots_ok (apart_untied hap (apart_st hap hs).1)).2 t hdst ht
  obtain ⟨oo, g1, _, g3, g4, g5, _⟩ := X.pf.at_ kq p h.hp
  have hcg := act_cong g3 (T := X.TD done X.L.length) (T' := (X.ss X.L.length).T) fun t ht => hT t (by rw [g5]; exact ht)
  have hget : ∀ c C, Tr.get c (⟨Tr.set (some (.cells pl l)) x.b .e, Hb.nx⟩ : Hp).t = some C → c = x.b ∧ C = .cells pl l := by
    intro c C hcC
    simp only [Tr.get_set] at hcC
    by_cases e : c = x.b
    · rw [if_pos e] at hcC; cases hcC; exact ⟨e, rfl⟩
    · rw [if_neg e, Tr.get_e] at hcC; cases hcC
  have hself : Tr.get x.b (⟨Tr.set (some (.cells pl l)) x.b .e, Hb.nx⟩ : Hp).t = some (.cells pl l) := by simp [Tr.get_set]
  have hnd : ∀ y ∈ X.sts, done y.i = true → y.b ≠ x.b := by
    intro y hy hd hyb
    have := X.stf.dist y hy x hx hyb
    subst this
    rw [hxi, h.hnd] at hd; cases hd
  refine ⟨Hb, ?_⟩
  refine X.step_part hE hrun hlim hI h (H := ⟨Tr.set (some (.cells pl l)) x.b .e, Hb.nx⟩) (H' := Hp.set x.b (some x.B) ⟨Tr.set (some (.cells pl l)) x.b .e, Hb.nx⟩) (Hb' := Hb) ?_ rfl (fun _ h => h) ?_ rfl ?_ (X.base_also hI h hc) hal ?_
  · intro c C hcC
    obtain ⟨rfl, rfl⟩ := hget c C hcC
    exact .inr ⟨hnd, .inl hold⟩
  · rw [actW_cong hcg, hgd.2]
    unfold actW actR
    rw [hgd.1, hop]
    simp only [wantedV, hfT, hself]
    rw [← hold, hB]
    simp only [Hp.setK_eq]
  · intro c C hcC
    rcases hcC with ⟨y, hy, hd, rfl, rfl⟩ | ⟨hn, hcC⟩
    · by_cases e : y.i = kq
      · obtain rfl := hone y hy e
        exact .inr (by simp [Hp.set, Tr.get_set])
      · rw [also_ne e] at hd
        refine .inl ⟨?_, .inl ⟨y, hy, hd, rfl, rfl⟩⟩
        cases hh : Tr.get y.b (⟨Tr.set (some (.cells pl l)) x.b .e, Hb.nx⟩ : Hp).t with
        | none => rfl
        | some Y => exact absurd (hget _ _ hh).1 (hnd y hy hd)
    · have hcx : c ≠ x.b := fun e => hn x hx (by rw [hxi]; exact also_self _ _) e.symm
      refine .inl ⟨?_, .inr ⟨fun y hy hd => hn y hy (also_mono hd), hcC.imp id ?_⟩⟩
      · cases hh : Tr.get c (⟨Tr.set (some (.cells pl l)) x.b .e, Hb.nx⟩ : Hp).t with
        | none => rfl
        | some Y => exact absurd (hget _ _ hh).1 hcx
      · rintro ⟨k, r, l', r1, r2, r3, r4, r5, r6, r7⟩
        have hki : k ≠ kq := fun e => by subst e; rw [h.hp] at r1; cases r1; rw [hal] at r2; cases r2
        rw [also_ne hki] at r3
        exact ⟨k, r, l', r1, r2, r3, fun hl => r4 ((X.laid_also h hc k).2 hl), r5, r6, r7⟩
  · intro φ' w' _ _ k r hr hra hl
    exact hI.fresh k r hr hra fun hh => hl ((X.laid_also h hc k).2 hh)
/-- the step of a new block that is laid late -/
theorem Text.do_alloc (hE : EnvOk2 P E) (hlim : lim ≤ H0.nx.val) (hI : X.Inv lim φ0 w0 ds done Hb φ a w) {i : Nat} {p : PC} (h : X.Next done i p) (hal : p.al = true) {b : Frame} {rest : List Nat} {k : List Item} {cs : List Frame} :
    ∃ Hb' φ' a' w', Steps P (lone (b.atR a (.inRegion ops (i :: rest) :: k)) cs w) (lone (b.atR a' (.inRegion ops rest :: k)) cs w') ∧ X.Inv lim φ0 w0 ds (also done i) Hb' φ' a' w' := by
  have hc : p.chain = false := by cases hh : p.chain with | false => rfl | true => rw [chain_not_al hh] at hal; cases hal
  have hs : p.st = false := by cases hh : p.st with | false => rfl | true => rw [st_not_al hh] at hal; cases hal
  obtain ⟨l, hAl⟩ := X.alc_ok h.hp hal
  obtain ⟨f, v, hop, hg, hfT, hvT⟩ := hAl
  have hAl : X.Alc i p l := ⟨f, v, hop, hg, hfT, hvT⟩
  obtain ⟨o, ho, hcok, _, _, hd⟩ := X.cdst hE.toEnvOk h.hp
  have hcg := (X.cong_at hE.toEnvOk hI h).2
  have hcop := hcok.op
  rw [hop] at hcg hcop
  have hf' : f (X.TD done X.L.length) = some l := by rw [show f _ = f (X.ss i).T from hcg.1]; exact hfT
  have hv' : v (X.TD done X.L.length) (X.nm i) = some (X.vv i) := by rw [show v _ _ = v (X.ss i).T (X.nm i) from hcg.2 _]; exact hvT
  obtain ⟨ll, C, e, mk, hll, h1, h2, h3⟩ := hcop φ n _ a w l hI.tr hI.hr.glob hf'
  subst hll
  have hfree := hI.free i p h.hp hal h.hnd
  obtain ⟨_, hlo, hhi⟩ := X.nm_lt h.hp hal
  obtain ⟨k1, k2, k3, k4⟩ := alloc_over (E := E) (lim := lim) (e := e) hI.hr hfree (by have := hI.nx; omega) (by omega) h2
  have hnl : ¬ X.Laid done i := by
    rintro ⟨j, q, r1, r2, r3, r4, r5⟩
    have := hI.cl j q _ r2 r4 r5
    rw [h.hnd] at this; cases this
  have hsub : ∀ b' B, X.GF (also done i) Hb b' B → (if b' = X.nm i then B = .cells (e + 1) ll else X.GF done Hb b' B) := by
    intro b' B hb'
    have hst : ∀ x ∈ X.sts, also done i x.i = done x.i := by
      intro x hx
      refine also_ne fun e => ?_
      obtain ⟨j, q, hq, hqs, rfl⟩ := X.st_at hx
      rw [e, h.hp] at hq; cases hq
      rw [hs] at hqs; cases hqs
    by_cases hbn : b' = X.nm i
    · subst hbn
      rw [if_pos rfl]
      rcases hb' with ⟨x, hx, hd, he, _⟩ | ⟨_, hb' | ⟨k', q, l', r1, r2, r3, r4, r5, r6, rfl⟩⟩
      · rw [hst x hx] at hd
        exact absurd he (X.sts_nm hI hx (X.sts_done_ver hI.cl hx hd) h.hp hal hnl)
      · rw [hI.fresh i p h.hp hal hnl] at hb'; cases hb'
      · have e : i = k' := X.nm_inj h.hp r1 hal r2 r5
        subst e
        have := h.hp; rw [r1] at this; cases this
        rw [X.alc_fun hAl r6]
    · rw [if_neg hbn]
      rcases hb' with ⟨x, hx, hd, he⟩ | ⟨hn, hb' | ⟨k', q, l', r1, r2, r3, r4, r5, r6, r7⟩⟩
      · exact .inl ⟨x, hx, by rw [← hst x hx]; exact hd, he⟩
      · exact .inr ⟨fun x hx hd => hn x hx (by rw [hst x hx]; exact hd), .inl hb'⟩
      · have hki : k' ≠ i := fun e => by subst e; exact hbn r5
        rw [also_ne hki] at r3
        exact .inr ⟨fun x hx hd => hn x hx (by rw [hst x hx]; exact hd), .inr ⟨k', q, l', r1, r2, r3, fun hl => r4 ((X.laid_also h hc k').2 hl), r5, r6, r7⟩⟩
  have hnd : ∀ c', o.op ≠ .defer c' := by
    intro c' hh
    simp only [execOp, hh, Sem.run_bind] at h1
    cases hr : (resolve a.eval c' o.type).run P w with
    | ok d w1 => rw [hr] at h1; simp at h1
    | halt hh w1 => rw [hr] at h1; simp at h1
  have hw := wanted_ok (g := p.e.c.guard) (r := true) hI.tr hcok.guard (by rw [hg]; rfl)
  have hstep := op_yields (P := P) (b := b) (k := k) (cs := cs) (rest := rest) ho hw (by rw [Oper.semAt_eq _ _ _ hnd]; exact h1) (yields_value _)
  have hVR := h3 _ (X.nm i) _ _ hv' k1 rfl
  have hoth : ∀ b', b' ≠ X.nm i → φ.upd (X.nm i) ⟨w.heap.size, 0, C.size, 0, 0⟩ b' = φ b' := fun b' hb' => by
    show (if b' = X.nm i then some _ else φ b') = φ b'
    rw [if_neg hb']
  generalize φ.upd (X.nm i) ⟨w.heap.size, 0, C.size, 0, 0⟩ = φ' at k1 k2 k3 k4 hVR hoth
  generalize ({ w with heap := w.heap.push (.cells C e) } : World) = w' at hstep k2 k3 k4
  refine ⟨Hb, φ', _, w', hstep, X.base_also hI h hc, k2.sub hsub, (k4 hI.gl).sub hsub, (hI.keep.trans k3).less hsub, ?_, by rw [put_defers]; exact hI.dfr.mono k3.le, ?_, ?_, hI.nx, X.closed_also hI.cl h⟩
  · refine ⟨?_, fun t u hu => ?_⟩
    · have := hI.tr.size; cases o.dst <;> simpa [Act.put] using this
    · rw [X.TD_also hE.toEnvOk hI.cl h] at hu
      by_cases hdt : p.e.dst = some t
      · rw [if_pos hdt] at hu; cases hu
        have hod : o.dst = some t := by
          have := hcok.dst
          rw [hd, hdt] at this
          cases hh : o.dst with
          | none => rw [hh] at this; cases this
          | some u => rw [hh] at this; simp at this; rw [posOf_inj this]
        have hlt := hcok.lt t hod
        refine ⟨_, ?_, hVR⟩
        rw [hod]
        show (a.tmps.setIfInBounds t _)[t]? = _
        have hsz := hI.tr.size
        have hlt' : t < a.tmps.size := Nat.lt_of_lt_of_le hlt hsz
        rw [Array.getElem?_setIfInBounds]; simp [hlt']
      · rw [if_neg hdt] at hu
        obtain ⟨y, hy, hr⟩ := hI.tr.get t u hu
        refine ⟨y, ?_, hr.mono k3.le⟩
        cases hh : o.dst with
        | none => exact hy
        | some u' =>
          have hne : u' ≠ t := by
            intro e; subst e
            have := hcok.dst
            rw [hd, hh] at this
            cases hpd : p.e.dst with
            | none => rw [hpd] at this; cases this
            | some u2 => rw [hpd] at this; simp at this; rw [posOf_inj this] at hpd; exact hdt hpd
          show (a.tmps.setIfInBounds u' _)[t]? = _
          rw [Array.getElem?_setIfInBounds, if_neg hne]; exact hy
  · intro k' q hq hqa hqd
    have hki : k' ≠ i := fun e => by subst e; rw [also_self] at hqd; cases hqd
    rw [also_ne hki] at hqd
    rw [hoth _ fun e => hki (X.nm_inj hq h.hp hqa hal e)]
    exact hI.free k' q hq hqa hqd
  · intro k' q hq hqa hl
    exact hI.fresh k' q hq hqa fun hh => hl ((X.laid_also h hc k').2 hh)
end
end Go.Ev
/- Drawn regions: whatever is drawn; all runs. -/
namespace Go.Ev
/-- how many are not done -/
def cntU (done : Nat → Bool) : Nat → Nat
  | 0 => 0
  | k + 1 => (if done k then 0 else 1) + cntU done k
theorem cntU_also_ge {done : Nat → Bool} {i : Nat} : ∀ k, k ≤ i → cntU (also done i) k = cntU done k
  | 0, _ => rfl
  | k + 1, h => by rw [cntU, cntU, cntU_also_ge k (by omega), also_ne (by omega)]
theorem cntU_also {done : Nat → Bool} {i : Nat} (hd : done i = false) : ∀ k, i < k → cntU (also done i) k + 1 = cntU done k
  | 0, h => by omega
  | k + 1, h => by
    rw [cntU, cntU]
    by_cases e : k = i
    · subst e; rw [also_self, hd, cntU_also_ge k (Nat.le_refl _)]; simp; omega
    · rw [also_ne e]; have := cntU_also hd k (by omega); omega
theorem cntU_zero {done : Nat → Bool} : ∀ k, cntU done k = 0 → ∀ i, i < k → done i = true
  | 0, _, i, hi => by omega
  | k + 1, h, i, hi => by
    rw [cntU] at h
    by_cases e : i = k
    · subst e; cases hd : done i with
      | true => rfl
      | false => rw [hd] at h; simp at h
    · exact cntU_zero k (by omega) i (by omega)
theorem cntU_le (done : Nat → Bool) : ∀ k, cntU done k ≤ k
  | 0 => Nat.le_refl _
  | k + 1 => by have := cntU_le done k; rw [cntU]; split <;> omega
section
variable {P : Program} {E : Env} {run : RunT} {n : Nat} {ops : Array Oper} {T0 : Tr AV} {H0 : Hp} (X : Text E run n ops T0 H0)
theorem Text.inv0 {φ0 : Phi} {w0 : World} {ds : List ADef} {a : Act} (hH : HR E.ng φ0 H0 w0) (hG : GL E φ0 H0 w0) (hT : TR φ0 n T0 a.tmps) (hD : DRL φ0 ds a.defers) :
    X.Inv H0.nx.val φ0 w0 ds (fun _ => false) ⟨H0.t, X.nx0⟩ φ0 a w0 := by
  have hv : X.ver (fun _ => false) = 0 := by unfold Text.ver; rw [List.countP_eq_zero]; intro q _; simp
  have hgf : ∀ b B, X.GF (fun _ => false) ⟨H0.t, X.nx0⟩ b B → Tr.get b H0.t = some B := by
    rintro b B (⟨x, _, h, _⟩ | ⟨_, h | ⟨k, p, l, _, _, h, _⟩⟩)
    · cases h
    · exact h
    · cases h
  have hn := X.hnx0
  refine ⟨fun i hi hj => ?_, ⟨fun b B hb => hH.blk b B (hgf b B hb), fun b b' B B' p p' hb hb' => hH.inj b b' B B' p p' (hgf b B hb) (hgf b' B' hb'), fun b hb => hH.new b (by simp only at hb; omega), hH.glob⟩,
    ⟨hG.at_, fun b l p b' B' p' hb hp hb' => hG.sep b l p b' B' p' hb hp (hgf b' B' hb'), hG.inj⟩,
    ⟨φ0.le_refl, Nat.le_refl _, fun _ _ _ => rfl, fun b B p hb hp _ => ⟨b, B, p, hgf b B hb, hp, rfl⟩, rfl, rfl, rfl, fun _ _ => rfl, by simp only; omega⟩, ?_, hD, ?_, ?_, Nat.le_refl _, fun i p j _ h _ => by cases h⟩
  · rw [hv] at hj
    have h0 : (X.ss 0).j = 0 := by rw [X.h0]
    rw [← X.H_of_j (Nat.zero_le i) hi (by rw [h0, hj]), X.h0]
  · have : ∀ k, X.TD (fun _ => false) k = T0 := by
      intro k
      induction k with
      | zero => rfl
      | succ k ih => rw [Text.TD]; split <;> simp_all
    rw [this]; exact hT
  · intro k p hp ha _
    exact hH.new _ (X.nm_lt hp ha).2.1
  · intro k p hp ha _
    exact hH.dead (X.nm_lt hp ha).2.1
theorem Text.do_any (hE : EnvOk2 P E) (hrun : RunOk P E run) {lim : Nat} {φ0 : Phi} {w0 : World} {ds : List ADef} {done : Nat → Bool} {Hb : Hp} {φ : Phi} {a : Act} {w : World} (hlim : lim ≤ H0.nx.val) (hI : X.Inv lim φ0 w0 ds done Hb φ a w)
    {i : Nat} {p : PC} (h : X.Next done i p) {b : Frame} {rest : List Nat} {k : List Item} {cs : List Frame} :
    ∃ Hb' φ' a' w', Steps P (lone (b.atR a (.inRegion ops (i :: rest) :: k)) cs w) (lone (b.atR a' (.inRegion ops rest :: k)) cs w') ∧ X.Inv lim φ0 w0 ds (also done i) Hb' φ' a' w' := by
  cases hs : p.st with
  | true => exact X.do_store hE hrun hlim hI h hs
  | false =>
    cases ha : p.al with
    | true => exact X.do_alloc hE hlim hI h ha
    | false =>
      have hfl : p.fl = false := by
        cases hf : p.fl with
        | false => rfl
        | true => unfold PC.st at hs; unfold PC.al at ha; rw [hf] at hs ha; simp only at hs ha; rw [hs] at ha; cases ha
      cases he : p.e.c.op.effects with
      | true => exact X.do_chain hE hrun hlim hI h (by unfold PC.chain; rw [hfl]; exact he)
      | false => exact X.do_light hE hrun hlim hI h hfl he
/-- what is marked as listed -/
def dn (listed : Array Bool) : Nat → Bool := fun i => listed.getD i false
theorem dn_set {listed : Array Bool} {i : Nat} (hi : i < listed.size) : dn (listed.setIfInBounds i true) = also (dn listed) i := by
  funext j
  unfold dn also
  simp only [Array.getD_eq_getD_getElem?, Array.getElem?_setIfInBounds]
  by_cases e : j = i
  · subst e; simp [hi]
  · rw [if_neg (fun h => e h.symm), if_neg e]
theorem Text.ready_next {listed : Array Bool} (hcl : X.Closed (dn listed)) {i : Nat} (h : i ∈ Region.ready .any ops listed) : ∃ p, X.Next (dn listed) i p ∧ i < listed.size := by
  unfold Region.ready at h
  rw [List.mem_filter] at h
  obtain ⟨h1, h2⟩ := h
  rw [List.mem_range] at h1
  rw [Bool.and_eq_true] at h2
  obtain ⟨h2, h3⟩ := h2
  have hl : i < X.L.length := by rw [X.pf.len]; exact h1
  have hp : X.L[i]? = some X.L[i] := List.getElem?_eq_getElem hl
  obtain ⟨o, ho, _, _, _, _, _, hmask⟩ := X.pf.at_ i _ hp
  rw [ho] at h3
  simp only [Option.map_some, Option.getD_some] at h3
  have hsz : i < listed.size := by
    cases Nat.decLt i listed.size with
    | isTrue h => exact h
    | isFalse h => rw [Array.getD_eq_getD_getElem?, Array.getElem?_eq_none (by omega)] at h2; simp at h2
  refine ⟨X.L[i], ⟨hp, ?_, fun j hj => ?_⟩, hsz⟩
  · unfold dn
    rw [Array.getD_eq_getD_getElem?, Array.getElem?_eq_getElem hsz] at h2 ⊢
    simpa using h2
  · obtain ⟨e, he, hb, hj'⟩ := hmask j hj
    have hon : dn listed e.on = true := by
      rw [Array.all_eq_true_iff_forall_mem] at h3
      have := h3 e (Array.mem_toList_iff.1 he)
      rw [hb] at this
      simpa [dn] using this
    rcases hj' with rfl | ⟨y, hy, hyj⟩
    · exact hon
    · exact hcl e.on y j hy hon hyj
theorem Text.not_stuck {listed : Array Bool} (hs : listed.size = ops.size) (h : Region.ready .any ops listed = []) : ∀ i, i < X.L.length → dn listed i = true := by
  intro i
  induction i using Nat.strongRecOn with
  | _ i ih =>
    intro hi
    cases hd : dn listed i with
    | true => rfl
    | false =>
      exfalso
      have hp : X.L[i]? = some X.L[i] := List.getElem?_eq_getElem hi
      obtain ⟨o, ho, _, _, _, _, hed, _⟩ := X.pf.at_ i _ hp
      have hlt : i < ops.size := by rw [← X.pf.len]; exact hi
      have hm : i ∈ Region.ready .any ops listed := by
        unfold Region.ready
        rw [List.mem_filter, List.mem_range]
        refine ⟨hlt, ?_⟩
        rw [ho]
        simp only [Option.map_some, Option.getD_some, Bool.and_eq_true]
        refine ⟨?_, ?_⟩
        · unfold dn at hd
          rw [Array.getD_eq_getD_getElem?, Array.getElem?_eq_getElem (by omega)] at hd ⊢
          simpa using hd
        · rw [Array.all_eq_true_iff_forall_mem]
          intro e he
          cases hb : Region.binds .any e with
          | false => simp
          | true =>
            have hlt' := hed e (Array.mem_toList_iff.2 he) hb
            have := ih e.on hlt' (by omega)
            simpa [dn] using this
      rw [h] at hm; cases hm
/-- all the operations, in whatever order -/
theorem Text.lin_ok (hE : EnvOk2 P E) (hrun : RunOk P E run) {lim : Nat} {φ0 : Phi} {w0 : World} {ds : List ADef} (hlim : lim ≤ H0.nx.val) {b : Frame} {k : List Item} {cs : List Frame} : ∀ (fuel t : Nat) (listed : Array Bool) (Hb : Hp) (φ : Phi) (a : Act) (w : World),
    listed.size = ops.size → cntU (dn listed) X.L.length ≤ fuel → X.Inv lim φ0 w0 ds (dn listed) Hb φ a w →
    ∃ done' Hb' φ' a' w', Steps P (lone (b.atR a (.inRegion ops (Region.linearise.go .any ops fuel t listed []) :: k)) cs w) (lone (b.atR a' k) cs w') ∧ X.Inv lim φ0 w0 ds done' Hb' φ' a' w' ∧ ∀ i, i < X.L.length → done' i = true := by
  intro fuel
  induction fuel with
  | zero =>
    intro t listed Hb φ a w hs hc hI
    simp only [Region.linearise.go, List.reverse_nil]
    exact ⟨_, Hb, φ, a, w, .one stepR_region_end, hI, cntU_zero _ (by omega)⟩
  | succ fuel ih =>
    intro t listed Hb φ a w hs hc hI
    have hgo : Region.linearise.go .any ops (fuel + 1) t listed [] = match (Region.ready .any ops listed)[t % (Region.ready .any ops listed).length]? with
      | some i => Region.linearise.go .any ops fuel (t / (Region.ready .any ops listed).length) (listed.setIfInBounds i true) [i]
      | none => [] := rfl
    rw [hgo]
    cases hi : (Region.ready .any ops listed)[t % (Region.ready .any ops listed).length]? with
    | none =>
      have hnil : Region.ready .any ops listed = [] := by
        cases hr : Region.ready .any ops listed with
        | nil => rfl
        | cons x xs =>
          rw [hr] at hi
          have hlt : t % (x :: xs).length < (x :: xs).length := Nat.mod_lt _ (by simp)
          simp at hi
          simp at hlt
          omega
      exact ⟨_, Hb, φ, a, w, .one stepR_region_end, hI, X.not_stuck hs hnil⟩
    | some i =>
      simp only
      rw [linearise_go_acc, List.reverse_singleton, List.singleton_append]
      obtain ⟨p, hN, hisz⟩ := X.ready_next hI.cl (List.mem_of_getElem? hi)
      obtain ⟨Hb1, φ1, a1, w1, h1, h2⟩ := X.do_any hE hrun hlim hI hN (b := b) (k := k) (cs := cs)
        (rest := Region.linearise.go .any ops fuel (t / (Region.ready .any ops listed).length) (listed.setIfInBounds i true) [])
      rw [← dn_set hisz] at h2
      have hcnt := cntU_also hN.hnd X.L.length (X.lt hN.hp)
      obtain ⟨d', Hb', φ', a', w', k1, k2, k3⟩ := ih (t / (Region.ready .any ops listed).length) (listed.setIfInBounds i true) Hb1 φ1 a1 w1 (by simpa using hs) (by rw [dn_set hisz]; omega) h2
      exact ⟨d', Hb', φ', a', w', h1.trans k1, k2, k3⟩
theorem Text.TD_congr {d d' : Nat → Bool} : ∀ k, (∀ i, i < k → d i = d' i) → X.TD d k = X.TD d' k
  | 0, _ => rfl
  | k + 1, h => by rw [Text.TD, Text.TD, Text.TD_congr k (fun i hi => h i (by omega)), h k (by omega)]
end
section
variable {P : Program} {E : Env}
theorem putByK_ok : ∀ (L : List PC) (p : Pos) (K : Pos → ORet), ∃ q, putByK L p K = K q ∧ q.val = p.val + L.countP PC.al
  | [], p, K => ⟨p, rfl, by simp⟩
  | x :: L, p, K => by
    have hstep : putByK (x :: L) p K = (match x.fl, x.e.c.op.stores with | true, false => Pos.succK p fun p => putByK L p K | _, _ => putByK L p K) := rfl
    rw [hstep, List.countP_cons]
    have hal : x.al = (match x.fl with | true => bnot x.e.c.op.stores | false => false) := rfl
    rw [hal]
    cases hf : x.fl with
    | false =>
      obtain ⟨q, h1, h2⟩ := putByK_ok L p K
      exact ⟨q, h1, by simpa using h2⟩
    | true =>
      cases hs : x.e.c.op.stores with
      | true =>
        obtain ⟨q, h1, h2⟩ := putByK_ok L p K
        exact ⟨q, h1, by simpa [bnot_eq] using h2⟩
      | false =>
        simp only [Pos.succK_eq]
        obtain ⟨q, h1, h2⟩ := putByK_ok L p.succ K
        refine ⟨q, h1, ?_⟩
        rw [h2, Pos.val_succ]
        simp only [bnot_eq, Bool.not_false, if_true]
        omega
theorem draw_ok (hE : EnvOk2 P E) {run : RunT} (hrun : RunOk P E run) : DrawOk P E run := by
  intro fr ops T ds H T' ds' H' h φ b a w hb hT hD hH hG t k cs
  unfold drawR at h
  split at h
  case h_2 => cases h
  next L hL =>
  obtain ⟨nx0, h1, hnx0⟩ := putByK_ok L H.nx _
  rw [h1] at h
  obtain ⟨ss, vv, h2, h3, h4⟩ := drawGo_ok _ _ h
  obtain ⟨Hs, sts, h5, h6⟩ := storesGo_ok h4
  split at h6
  case h_2 => cases h6
  next hag =>
  rw [layAll_eq, layAll_eq] at h6
  cases h6
  generalize hX : (⟨L, plan_ok hL, ss, vv, nx0, h2, hnx0, h3, Hs, sts, h5, (allL_iff' _ _).1 hag⟩ : Text E run fr.n ops T H) = X
  have e1 : X.L = L := by subst hX; rfl
  have e2 : X.ss = ss := by subst hX; rfl
  have e3 : X.Hs = Hs := by subst hX; rfl
  have e4 : X.sts = sts := by subst hX; rfl
  rw [← e1, ← e2, ← e3, ← e4]
  have hI0 := X.inv0 hH hG hT hD
  have hd0 : dn (Array.replicate ops.size false) = fun _ => false := by
    funext i; unfold dn; rw [Array.getD_eq_getD_getElem?, Array.getElem?_replicate]; split <;> rfl
  rw [← hd0] at hI0
  obtain ⟨done', Hb', φ', a', w', k1, k2, k3⟩ := X.lin_ok hE hrun (Nat.le_refl _) (b := b) (k := k) (cs := cs) ops.size t (Array.replicate ops.size false) _ _ _ _ (by simp)
    (by have := cntU_le (dn (Array.replicate ops.size false)) X.L.length; rw [X.pf.len] at this ⊢; exact this) hI0
  have hsch : Region.schedule true ops t = Region.linearise.go .any ops ops.size t (Array.replicate ops.size false) [] := by
    simp [Region.schedule, Region.linearise]
  rw [hsch]
  have hv : X.ver done' = (X.ss X.L.length).j := X.ver_full fun i p hp _ => k3 i (X.lt hp)
  have hHb := k2.base X.L.length (Nat.le_refl _) hv.symm
  have hsub : Sub (layAllH X.sts (layAllH (X.ss X.L.length).late X.Hs)) (X.GF done' Hb') := by
    intro c C hc
    rcases layAllH_some _ _ hc with ⟨x, hx, rfl, rfl⟩ | hc
    · refine .inl ⟨x, hx, ?_, rfl, rfl⟩
      obtain ⟨j, q, hq, _, rfl⟩ := X.st_at hx
      exact k3 _ (X.lt hq)
    · rcases layAllH_some _ _ hc with ⟨x, hx, rfl, rfl⟩ | hc
      · obtain ⟨j, q, l, g1, g2, g3, rfl, g5, g6⟩ := X.late_ok _ (Nat.le_refl _) x hx
        have hnl : ¬ X.Laid done' j := by
          rintro ⟨i', r, r1, r2, r3, _, r5⟩
          rw [g6 i' r r1 (X.lt r2) r2 r3] at r5; cases r5
        exact .inr ⟨fun y hy _ => X.sts_nm k2 hy hv g2 g3 hnl, .inr ⟨j, q, l, g2, g3, k3 j (X.lt g2), hnl, rfl, g5, rfl⟩⟩
      · obtain ⟨g1, g2⟩ := X.stf.less c C hc
        rw [hHb] at g1
        exact .inr ⟨fun y hy _ => g2 y hy, .inl g1⟩
  have hnx : (layAllH X.sts (layAllH (X.ss X.L.length).late X.Hs)).nx = Hb'.nx := by rw [layAllH_nx, layAllH_nx, X.stf.nx, hHb]
  refine ⟨φ', a', w', k1, ?_, k2.dfr, k2.hr.hr hsub hnx, k2.keep.keep (Nat.le_refl _) (by rw [hnx]; exact k2.keep.nx) hsub⟩
  have := k2.tr
  rw [X.TD_congr X.L.length (d' := fun _ => true) (fun i hi => by rw [k3 i hi]), X.TD_all _ (Nat.le_refl _)] at this
  exact this
/-- the evaluator's runs are the machine's -/
theorem runs_ok (hE : EnvOk2 P E) (fuel : Nat) : RunOk P E (run E fuel) := run_ok hE (fun _ h => draw_ok hE h) fuel
/-- a call of a function, as the evaluator runs it -/
theorem calls_ok (hE : EnvOk2 P E) {fuel : Nat} {f : FuncId} {args : List AV} {H : Hp} {v : AV} {H' : Hp} (h : callR E (run E fuel) .normal f args H = .ok v H')
    {φ : Phi} {A : Array Value} {w : World} (hA : VRL φ args A.toList) (hH : HR E.ng φ H w) (hG : GL E φ H w) :
    (∃ y w', (callFunc f A).run P w = .ok (.value y) w' ∧ Post E φ H w v H' y w') ∨
    ((callFunc f A).run P w = .ok (.enter f A) w ∧ Goes P .normal f .normal (fun cs => lone (Frame.enter P f A .normal) cs w) (Post E φ H w v H')) := by
  rcases callR_ok hE (runs_ok hE fuel) (.inl ⟨rfl, rfl⟩) h hA hH hG with ⟨_, h⟩ | h
  · exact .inl h
  · exact .inr h
end
end Go.Ev
/- What a run that makes a slice of snapshots leaves in the world. -/
namespace Go.Ev
open Go
/-- a pointer to a block of known place, whose first cell is a pointer -/
noncomputable def snapR (H : Hp) (v : AV) : Bool :=
  match v with
  | .ptr b o => Nat.beq o 0 && (match Tr.get b H.t with
    | some (.cells pl l) => Nat.ble 1 pl && (match l with | .ptr _ _ :: _ => true | _ => false)
    | _ => false)
  | _ => false
noncomputable def snapsR (n : Nat) (r : Ret) : Bool :=
  match r with
  | .ok v H => (match v with
    | .slice b o l _ _ => Nat.beq o 0 && Nat.beq l n && (match Tr.get b H.t with
      | some (.cells pl cs) => Nat.ble 1 pl && Nat.beq cs.length n && cs.all (snapR H)
      | _ => false)
    | _ => false)
  | .no => false
theorem snap_of {ng : Nat} {φ : Phi} {H : Hp} {w : World} (hH : HR ng φ H w) {v : AV} {x : Value} (h : snapR H v = true) (hx : VR φ v x) : ∃ b : Nat, x = .pointer (some ⟨b, 0, none⟩) ∧ ∃ a, w.cell? ⟨b, 0, none⟩ = some (.pointer (some a)) := by
  unfold snapR at h
  split at h
  · next b o =>
    simp only [Bool.and_eq_true] at h
    obtain ⟨ho, h⟩ := h
    have ho := Nat.eq_of_beq_eq_true ho
    subst ho
    split at h
    · next pl l hb =>
      simp only [Bool.and_eq_true] at h
      obtain ⟨hpl, h⟩ := h
      have hpl := Nat.le_of_ble_eq_true hpl
      split at h
      · next b' o' t =>
        obtain ⟨p, ob, hp, hob, hB⟩ := hH.blk b _ hb
        obtain ⟨t', rfl⟩ : ∃ t', pl = t' + 1 := ⟨pl - 1, by omega⟩
        cases hB with
        | cells hl hc hg hf hpp =>
          obtain ⟨rfl, hoff, rfl⟩ := hpp _ rfl
          cases hx with
          | ptr _ hφ =>
            rw [hp] at hφ
            cases hφ
            obtain ⟨y, hy, hyr⟩ := hg 0 _ rfl
            refine ⟨p.blk, by simp [hoff], ?_⟩
            cases hyr with
            | @ptr _ q _ hq =>
              rw [hoff] at hy
              refine ⟨⟨q.blk, q.off + o', none⟩, ?_⟩
              simp only [World.cell?, hob]
              simpa using hy
      · cases h
    · cases h
  · cases h
theorem snaps_of {ng : Nat} {φ : Phi} {H : Hp} {w : World} (hH : HR ng φ H w) {n : Nat} {v : AV} {x : Value} (h : snapsR n (.ok v H) = true) (hx : VR φ v x) :
    ∃ (g c : Nat) (bs : Nat → Nat), x = .slice (some ⟨g, 0, none⟩) n c ∧ ∀ j, j < n → w.cell? ⟨g, j, none⟩ = some (.pointer (some ⟨bs j, 0, none⟩)) ∧ ∃ a, w.cell? ⟨bs j, 0, none⟩ = some (.pointer (some a)) := by
  unfold snapsR at h
  simp only at h
  split at h
  · next b o l c op =>
    simp only [Bool.and_eq_true] at h
    obtain ⟨⟨ho, hl⟩, h⟩ := h
    have ho := Nat.eq_of_beq_eq_true ho
    have hl := Nat.eq_of_beq_eq_true hl
    subst ho
    subst hl
    split at h
    · next pl cs hb =>
      simp only [Bool.and_eq_true] at h
      obtain ⟨⟨hpl, hlen⟩, hall⟩ := h
      have hpl := Nat.le_of_ble_eq_true hpl
      have hlen := Nat.eq_of_beq_eq_true hlen
      obtain ⟨p, ob, hp, hob, hB⟩ := hH.blk b _ hb
      obtain ⟨t', rfl⟩ : ∃ t', pl = t' + 1 := ⟨pl - 1, by omega⟩
      cases hB with
      | cells hl' hc hg hf hpp =>
        obtain ⟨rfl, hoff, rfl⟩ := hpp _ rfl
        have hsl : ∃ c', x = .slice (some ⟨p.blk, 0, none⟩) l c' := by
          cases hx with
          | sliceC _ _ _ hφ => rw [hp] at hφ; cases hφ; exact ⟨c, by rw [hoff]⟩
          | sliceO _ _ _ _ hφ => rw [hp] at hφ; cases hφ; exact ⟨c + p.ext, by rw [hoff]⟩
        obtain ⟨c', rfl⟩ := hsl
        have key : ∀ j, j < l → ∃ b : Nat, w.cell? ⟨p.blk, j, none⟩ = some (.pointer (some ⟨b, 0, none⟩)) ∧ ∃ a, w.cell? ⟨b, 0, none⟩ = some (.pointer (some a)) := fun j hj => by
          have hjl : j < cs.length := by omega
          obtain ⟨y, hy, hyr⟩ := hg j cs[j] (List.getElem?_eq_getElem hjl)
          have h1 := List.all_eq_true.1 hall cs[j] (List.getElem_mem hjl)
          obtain ⟨b', rfl, ha⟩ := snap_of hH h1 hyr
          refine ⟨b', ?_, ha⟩
          rw [hoff] at hy
          simp only [World.cell?, hob]
          simpa using hy
        refine ⟨p.blk, c', fun j => if hj : j < l then (key j hj).choose else 0, rfl, fun j hj => ?_⟩
        simp only [hj, dif_pos]
        exact (key j hj).choose_spec
    · cases h
  · cases h
/-- a call, by a run of the evaluator -/
theorem calls_gen {P : Program} {E : Env} (hE : EnvOk2 P E) {fuel : Nat} {f : FuncId} {args : List AV} {H : Hp} {v : AV} {H' : Hp} (h : callR E (run E fuel) .normal f args H = .ok v H')
    {φ : Phi} {A : Array Value} {w : World} (hA : VRL φ args A.toList) (hH : HR E.ng φ H w) (hG : GL E φ H w) (hent : (callFunc f A).run P w = .ok (.enter f A) w) :
    Calls P f A w fun e w' => ∃ x, e = .returned x ∧ Post E φ H w v H' x w' := by
  intro cs
  rcases calls_ok hE h hA hH hG with ⟨y, w', h1, _⟩ | ⟨_, h2⟩
  · rw [hent] at h1; cases h1
  · obtain ⟨x, w', fr', hp, hs, hl⟩ := h2 cs trivial
    exact ⟨.returned x, w', fr', ⟨x, rfl, hp⟩, hs, hl.hfn, hl.hmode, hl.hdefers, hl.hkind, by rw [hl.hfn]; exact hl.res⟩
end Go.Ev
