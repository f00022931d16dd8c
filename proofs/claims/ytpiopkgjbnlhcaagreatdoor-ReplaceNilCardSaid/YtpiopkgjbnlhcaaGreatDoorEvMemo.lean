/- Calls that have been run, each by the kernel, on blocks that are written down: their contract. -/
import Derived.Test.YtpiopkgjbnlhcaaGreatDoorEvSums
namespace Go.Ev
/-- what is written down of such a call is what its run gives -/
noncomputable def chkM (e : MEnt) (r : Ret) : Bool :=
  match r with
  | .no => false
  | .ok v H =>
    match avEq 12 v e.v, Pos.beq H.nx e.nx', allL (sameB H.t) e.post with
    | true, true, true => layM e.post .e fun T => allL (fun x => match Tr.get x.1 T with | some _ => true | none => sameB H.t x) e.pre
    | _, _, _ => false
noncomputable def isMemo (E : Env) (fuel : Nat) (f : FuncId) (e : MEnt) : Bool := layM e.pre .e fun t => chkM e (callR E (run E fuel) .normal f e.args ⟨t, e.nx⟩)
/-! ### laws -/
def layT : List (Pos × Blk) → Tr Blk → Tr Blk
  | [], t => t
  | x :: l, t => layT l (Tr.set (some x.2) x.1 t)
theorem layM_eq {X : Type} (K : Tr Blk → X) : ∀ (l : List (Pos × Blk)) (t : Tr Blk), layM l t K = K (layT l t)
  | [], _ => rfl
  | x :: l, t => by
    change Tr.setK (some x.2) x.1 t (fun t => layM l t K) = _
    rw [Tr.setK_eq, layM_eq K l]; rfl
theorem layT_get : ∀ (l : List (Pos × Blk)) (t : Tr Blk) (b : Pos) (B : Blk), Tr.get b (layT l t) = some B → (b, B) ∈ l ∨ ((∀ C, (b, C) ∉ l) ∧ Tr.get b t = some B)
  | [], t, b, B, h => .inr ⟨fun C h => (by cases h), h⟩
  | x :: l, t, b, B, h => by
    rcases layT_get l _ b B h with h1 | ⟨h1, h2⟩
    · exact .inl (List.mem_cons_of_mem _ h1)
    · rw [Tr.get_set] at h2
      by_cases e : b = x.1
      · rw [if_pos e] at h2; cases h2; subst e; exact .inl (List.mem_cons_self ..)
      · rw [if_neg e] at h2
        refine .inr ⟨fun C hC => ?_, h2⟩
        cases hC with
        | head => exact e rfl
        | tail _ hC => exact h1 C hC
theorem layT_none : ∀ (l : List (Pos × Blk)) (t : Tr Blk) (b : Pos), Tr.get b (layT l t) = none → ∀ C, (b, C) ∉ l
  | [], _, _, _, C, h => by cases h
  | x :: l, t, b, h, C, hC => by
    cases hC with
    | head =>
      have key : ∀ (l : List (Pos × Blk)) (t : Tr Blk), (∃ B, Tr.get b t = some B) → Tr.get b (layT l t) ≠ none := by
        intro l
        induction l with
        | nil => intro t ⟨B, hB⟩ h; rw [show layT [] t = t from rfl, hB] at h; cases h
        | cons y l ih =>
          intro t ⟨B, hB⟩
          refine ih _ ?_
          rw [Tr.get_set]
          split
          · exact ⟨_, rfl⟩
          · exact ⟨B, hB⟩
      exact key l _ ⟨C, by rw [Tr.get_set, if_pos rfl]⟩ h
    | tail _ hC => exact layT_none l _ b h C hC
theorem sameB_get {t : Tr Blk} {x : Pos × Blk} (h : sameB t x = true) : Tr.get x.1 t = some x.2 := by
  unfold sameB at h
  split at h
  · next B hB => rw [hB, blkEq_eq h]
  · cases h
theorem memoR_ok {l : List MEnt} {args : List AV} {H : Hp} {v : AV} {H' : Hp} (h : memoR l args H = .ok v H') :
    ∃ e ∈ l, e.args = args ∧ e.nx = H.nx ∧ (∀ x ∈ e.pre, Tr.get x.1 H.t = some x.2) ∧ e.v = v ∧ H' = ⟨layT e.post H.t, e.nx'⟩ := by
  induction l with
  | nil => cases h
  | cons e l ih =>
    change (match (match Pos.beq e.nx H.nx with | true => eqL (avEq 12) e.args args | false => false) with
      | true => (match allL (sameB H.t) e.pre with | true => layM e.post H.t fun t => .ok e.v ⟨t, e.nx'⟩ | false => memoR l args H)
      | false => memoR l args H) = Ret.ok v H' at h
    have more : memoR l args H = .ok v H' → ∃ e' ∈ e :: l, e'.args = args ∧ e'.nx = H.nx ∧ (∀ x ∈ e'.pre, Tr.get x.1 H.t = some x.2) ∧ e'.v = v ∧ H' = ⟨layT e'.post H.t, e'.nx'⟩ := by
      intro h
      obtain ⟨e', h1, h2⟩ := ih h
      exact ⟨e', List.mem_cons_of_mem _ h1, h2⟩
    split at h
    · next ha =>
      split at ha
      · next hn =>
        split at h
        · next hp =>
          rw [layM_eq] at h
          cases h
          have hp := (allL_iff' _ _).1 hp
          exact ⟨e, List.mem_cons_self .., eqL_eq (avEq_eq 12) _ _ ha, (Pos.beq_iff _ _).1 hn, fun x hx => sameB_get (hp x hx), rfl, rfl⟩
        · exact more h
      · cases ha
    · exact more h
/-- what is known of such a call -/
def MemoOk (P : Program) (ng : Nat) (gl : Tr (List AV)) (f : FuncId) (e : MEnt) : Prop :=
  ∃ E' fuel, EnvOk2 P E' ∧ E'.ng = ng ∧ E'.gl = gl ∧ isMemo E' fuel f e = true
theorem memo_ok {P : Program} {E : Env} {f : FuncId} {l : List MEnt} (hf : ∃ fn c, P.funcs[f]? = some fn ∧ (fn.name == "runtime.NumGoroutine") = false ∧ fn.body = some c)
    (hl : ∀ e ∈ l, MemoOk P E.ng E.gl f e) : CtrOk P E f (.memo l) := by
  intro args A φ H w v H' hA hH hG h
  have h : memoR l args H = .ok v H' := by
    unfold ctrR at h
    exact h
  obtain ⟨e, he, rfl, hnx, hpre, rfl, rfl⟩ := memoR_ok h
  clear h
  obtain ⟨E', fuel, hE, hng, hgl, hm⟩ := hl e he
  clear hl he
  unfold isMemo at hm
  rw [layM_eq] at hm
  generalize ht0 : layT e.pre .e = t0 at hm
  have hsub : ∀ b B, Tr.get b t0 = some B → Tr.get b H.t = some B ∧ (b, B) ∈ e.pre := by
    intro b B hb
    rw [← ht0] at hb
    rcases layT_get _ _ _ _ hb with h1 | ⟨_, h1⟩
    · exact ⟨hpre _ h1, h1⟩
    · rw [Tr.get_e] at h1; cases h1
  have hnot : ∀ b, Tr.get b t0 = none → ∀ C, (b, C) ∉ e.pre := by
    intro b hb
    rw [← ht0] at hb
    exact layT_none _ _ _ hb
  unfold chkM at hm
  split at hm
  · cases hm
  next v1 H1 hcall =>
  split at hm
  case h_2 => cases hm
  next hv hn1 hpost =>
  obtain rfl := avEq_eq _ _ _ hv
  have hn1 := (Pos.beq_iff _ _).1 hn1
  have hpost := (allL_iff' _ _).1 hpost
  have hpost : ∀ x ∈ e.post, Tr.get x.1 H1.t = some x.2 := fun x hx => sameB_get (hpost x hx)
  rw [layM_eq] at hm
  have hkept := (allL_iff' _ _).1 hm
  have hkept : ∀ x ∈ e.pre, (∀ C, (x.1, C) ∉ e.post) → Tr.get x.1 H1.t = some x.2 := by
    intro x hx hno
    have := hkept x hx
    split at this
    · next B hB =>
      rcases layT_get _ _ _ _ hB with h1 | ⟨_, h1⟩
      · exact absurd h1 (hno _)
      · rw [Tr.get_e] at h1; cases h1
    · exact sameB_get this
  have hH0 : HR E'.ng φ ⟨t0, e.nx⟩ w := by
    rw [hng]
    exact ⟨fun b B hb => hH.blk b B (hsub b B hb).1, fun b b' B B' p p' hb hb' => hH.inj b b' B B' p p' (hsub b B hb).1 (hsub b' B' hb').1, fun b hb => hH.new b (by rw [← hnx]; exact hb), hH.glob⟩
  have hG0 : GL E' φ ⟨t0, e.nx⟩ w := by
    refine ⟨by rw [hgl]; exact hG.at_, ?_, by rw [hgl]; exact hG.inj⟩
    rw [hgl]
    exact fun b l p b' B' p' h1 h2 h3 => hG.sep b l p b' B' p' h1 h2 (hsub b' B' h3).1
  obtain ⟨fn, c, h1, h2, h3⟩ := hf
  rcases calls_ok hE hcall hA hH0 hG0 with ⟨y, w', hr, _⟩ | ⟨hr, hgo⟩
  · exfalso
    have h2 : fn.name ≠ "runtime.NumGoroutine" := by simpa using h2
    simp [callFunc, h1, h2, h3] at hr
  refine ⟨hr, hgo.mono fun x w1 hx => ?_⟩
  obtain ⟨φ1, hv1, hH1, hk1⟩ := hx
  rw [hng] at hH1
  -- a block behind the call: one of the run's, or one that the call does not see
  have two : ∀ b B, Tr.get b (layT e.post H.t) = some B → Tr.get b H1.t = some B ∨ (Tr.get b H.t = some B ∧ Tr.get b t0 = none) := by
    intro b B hb
    rcases layT_get _ _ _ _ hb with h1 | ⟨hno, h1⟩
    · exact .inl (hpost _ h1)
    · cases hb0 : Tr.get b t0 with
      | none => exact .inr ⟨h1, rfl⟩
      | some C =>
        obtain ⟨g1, g2⟩ := hsub _ _ hb0
        rw [h1] at g1; cases g1
        exact .inl (hkept _ g2 hno)
  have far : ∀ b B p, Tr.get b H.t = some B → Tr.get b t0 = none → φ b = some p → ∀ b0 B0 p0, Tr.get b0 t0 = some B0 → φ b0 = some p0 → p0.blk ≠ p.blk := by
    intro b B p hb hb0 hp b0 B0 p0 h1 h2 he
    have := hH.inj _ _ _ _ _ _ (hsub _ _ h1).1 hb h2 hp he
    subst this
    rw [hb0] at h1; cases h1
  have other : ∀ b B, Tr.get b H.t = some B → Tr.get b t0 = none → ∃ p o, φ b = some p ∧ φ1 b = some p ∧ p.blk < w.heap.size ∧ w1.heap[p.blk]? = some o ∧ BR φ1 p B o := by
    intro b B hb hb0
    obtain ⟨p, o, hp, ho, hB⟩ := hH.blk b B hb
    have hlt := (Array.getElem?_eq_some_iff.1 ho).1
    refine ⟨p, o, hp, hk1.le.at_ _ _ hp, hlt, ?_, hB.mono hk1.le⟩
    rw [hk1.old _ hlt fun b0 B0 p0 h1 h2 => far b B p hb hb0 hp b0 B0 p0 h1 h2]; exact ho
  have apart : ∀ b B p, Tr.get b H1.t = some B → φ1 b = some p → ∀ b' B' p', Tr.get b' H.t = some B' → Tr.get b' t0 = none → φ1 b' = some p' → p.blk ≠ p'.blk := by
    intro b B p hb hp b' B' p' hb' hb0 hp' he
    obtain ⟨q, o, hq, hq1, hlt, _, _⟩ := other b' B' hb' hb0
    rw [hp'] at hq1; cases hq1
    obtain ⟨b0, B0, p0, g1, g2, g3⟩ := hk1.own b B p hb hp (by rw [he]; exact hlt)
    exact far b' B' p' hb' hb0 hq b0 B0 p0 g1 g2 (g3.trans he)
  refine ⟨φ1, hv1, ⟨fun b B hb => ?_, fun b b' B B' p p' hb hb' hp hp' he => ?_, ?_, hH1.glob⟩, ?_⟩
  · rcases two b B hb with h1 | ⟨h1, h2⟩
    · exact hH1.blk b B h1
    · obtain ⟨p, o, _, g1, _, g2, g3⟩ := other b B h1 h2; exact ⟨p, o, g1, g2, g3⟩
  · rcases two b B hb with h1 | ⟨h1, h2⟩ <;> rcases two b' B' hb' with h1' | ⟨h1', h2'⟩
    · exact hH1.inj _ _ _ _ _ _ h1 h1' hp hp' he
    · exact absurd he (apart b B p h1 hp b' B' p' h1' h2' hp')
    · exact absurd he.symm (apart b' B' p' h1' hp' b B p h1 h2 hp)
    · obtain ⟨q, _, hq, hq1, _⟩ := other b B h1 h2
      obtain ⟨q', _, hq', hq1', _⟩ := other b' B' h1' h2'
      rw [hp] at hq1; cases hq1
      rw [hp'] at hq1'; cases hq1'
      exact hH.inj _ _ _ _ _ _ h1 h1' hq hq' he
  · intro b hb
    exact hH1.new b (by rw [hn1]; exact hb)
  · refine { hk1 with old := fun i hi hfar => hk1.old i hi fun b B p h1 h2 => hfar b B p (hsub b B h1).1 h2, own := fun b B p hb hp hlt => ?_, dom := ?_, nx := ?_ }
    · rcases two b B hb with h1 | ⟨h1, h2⟩
      · obtain ⟨b0, B0, p0, g1, g2, g3⟩ := hk1.own b B p h1 hp hlt
        exact ⟨b0, B0, p0, (hsub _ _ g1).1, g2, g3⟩
      · obtain ⟨q, _, hq, hq1, _⟩ := other b B h1 h2
        rw [hp] at hq1; cases hq1
        exact ⟨b, B, p, h1, hq, rfl⟩
    · have := hk1.dom; simp only [hnx] at this; exact this
    · have := hk1.nx; simp only [hnx, hn1] at this; exact this
end Go.Ev
