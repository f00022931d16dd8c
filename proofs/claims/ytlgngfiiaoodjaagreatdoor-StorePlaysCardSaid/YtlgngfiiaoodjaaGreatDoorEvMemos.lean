/- Calls that have been run, each by the kernel, on blocks that are written down: their contract. -/
import Derived.Test.YtlgngfiiaoodjaaGreatDoorEvSums
set_option linter.unusedVariables false
set_option linter.unusedSimpArgs false
/- Calls that have been run, each by the kernel, on blocks that are written down: their contract. -/
namespace Go.Ev
/-- what is written down of such a call is what its run gives -/
noncomputable def chkM (e : MEnt) (r : Ret) : Bool :=
  match r with
  | .no => false
  | .ok v H =>
    match avEq 12 v e.v, Pos.beq H.nx e.nx', allL (sameB H.t) e.post with
    | true, true, true => layM e.post .e fun T => allL (fun x => match Tr.get x.1 T with | some _ => true | none => sameB H.t x) e.pre
    | _, _, _ => false
noncomputable def isMemo (E : Env) (fuel : Nat) (f : FuncId) (e : MEnt) : Bool := layM e.pre .e fun t => chkM e (callR E (run E fuel) .normal f e.args ⟨t, e.nx⟩)
/-! ### laws -/
def layT : List (Pos × Blk) → Tr Blk → Tr Blk
  | [], t => t
  | x :: l, t => layT l (Tr.set (some x.2) x.1 t)
theorem layM_eq {X : Type} (K : Tr Blk → X) : ∀ (l : List (Pos × Blk)) (t : Tr Blk), layM l t K = K (layT l t)
  | [], _ => rfl
  | x :: l, t => by
    change Tr.setK (some x.2) x.1 t (fun t => layM l t K) = _
    rw [Tr.setK_eq, layM_eq K l]; rfl
theorem layT_get : ∀ (l : List (Pos × Blk)) (t : Tr Blk) (b : Pos) (B : Blk), Tr.get b (layT l t) = some B → (b, B) ∈ l ∨ ((∀ C, (b, C) ∉ l) ∧ Tr.get b t = some B)
  | [], t, b, B, h => .inr ⟨fun C h => (by cases h), h⟩
  | x :: l, t, b, B, h => by
    rcases layT_get l _ b B h with h1 | ⟨h1, h2⟩
    · exact .inl (List.mem_cons_of_mem _ h1)
    · rw [Tr.get_set] at h2
      by_cases e : b = x.1
      · rw [if_pos e] at h2; cases h2; subst e; exact .inl (List.mem_cons_self ..)
      · rw [if_neg e] at h2
        refine .inr ⟨fun C hC => ?_, h2⟩
        cases hC with
        | head => exact e rfl
        | tail _ hC => exact h1 C hC
theorem layT_none : ∀ (l : List (Pos × Blk)) (t : Tr Blk) (b : Pos), Tr.get b (layT l t) = none → ∀ C, (b, C) ∉ l
  | [], _, _, _, C, h => by cases h
  | x :: l, t, b, h, C, hC => by
    cases hC with
    | head =>
      have key : ∀ (l : List (Pos × Blk)) (t : Tr Blk), (∃ B, Tr.get b t = some B) → Tr.get b (layT l t) ≠ none := by
        intro l
        induction l with
        | nil => intro t ⟨B, hB⟩ h; rw [show layT [] t = t from rfl, hB] at h; cases h
        | cons y l ih =>
          intro t ⟨B, hB⟩
          refine ih _ ?_
          rw [Tr.get_set]
          split
          · exact ⟨_, rfl⟩
          · exact ⟨B, hB⟩
      exact key l _ ⟨C, by rw [Tr.get_set, if_pos rfl]⟩ h
    | tail _ hC => exact layT_none l _ b h C hC
theorem sameB_get {t : Tr Blk} {x : Pos × Blk} (h : sameB t x = true) : Tr.get x.1 t = some x.2 := by
  unfold sameB at h
  split at h
  · next B hB => rw [hB, blkEq_eq h]
  · cases h
theorem memoR_ok {l : List MEnt} {args : List AV} {H : Hp} {v : AV} {H' : Hp} (h : memoR l args H = .ok v H') :
    ∃ e ∈ l, e.args = args ∧ e.nx = H.nx ∧ (∀ x ∈ e.pre, Tr.get x.1 H.t = some x.2) ∧ e.v = v ∧ H' = ⟨layT e.post H.t, e.nx'⟩ := by
  induction l with
  | nil => cases h
  | cons e l ih =>
    change (match (match Pos.beq e.nx H.nx with | true => eqL (avEq 12) e.args args | false => false) with
      | true => (match allL (sameB H.t) e.pre with | true => layM e.post H.t fun t => .ok e.v ⟨t, e.nx'⟩ | false => memoR l args H)
      | false => memoR l args H) = Ret.ok v H' at h
    have more : memoR l args H = .ok v H' → ∃ e' ∈ e :: l, e'.args = args ∧ e'.nx = H.nx ∧ (∀ x ∈ e'.pre, Tr.get x.1 H.t = some x.2) ∧ e'.v = v ∧ H' = ⟨layT e'.post H.t, e'.nx'⟩ := by
      intro h
      obtain ⟨e', h1, h2⟩ := ih h
      exact ⟨e', List.mem_cons_of_mem _ h1, h2⟩
    split at h
    · next ha =>
      split at ha
      · next hn =>
        split at h
        · next hp =>
          rw [layM_eq] at h
          cases h
          have hp := (allL_iff' _ _).1 hp
          exact ⟨e, List.mem_cons_self .., eqL_eq (avEq_eq 12) _ _ ha, (Pos.beq_iff _ _).1 hn, fun x hx => sameB_get (hp x hx), rfl, rfl⟩
        · exact more h
      · cases ha
    · exact more h
/-- what is known of such a call -/
def MemoOk (P : Program) (ng : Nat) (gl : Tr (List AV)) (f : FuncId) (e : MEnt) : Prop :=
  ∃ E' fuel, EnvOk2 P E' ∧ E'.ng = ng ∧ E'.gl = gl ∧ isMemo E' fuel f e = true
theorem memo_ok {P : Program} {E : Env} {f : FuncId} {l : List MEnt} (hf : ∃ fn c, P.funcs[f]? = some fn ∧ (fn.name == "runtime.NumGoroutine") = false ∧ fn.body = some c)
    (hl : ∀ e ∈ l, MemoOk P E.ng E.gl f e) : CtrOk P E f (.memo l) := by
  intro args A φ H w v H' hA hH hG h
  have h : memoR l args H = .ok v H' := by
    unfold ctrR at h
    exact h
  obtain ⟨e, he, rfl, hnx, hpre, rfl, rfl⟩ := memoR_ok h
  clear h
  obtain ⟨E', fuel, hE, hng, hgl, hm⟩ := hl e he
  clear hl he
  unfold isMemo at hm
  rw [layM_eq] at hm
  generalize ht0 : layT e.pre .e = t0 at hm
  have hsub : ∀ b B, Tr.get b t0 = some B → Tr.get b H.t = some B ∧ (b, B) ∈ e.pre := by
    intro b B hb
    rw [← ht0] at hb
    rcases layT_get _ _ _ _ hb with h1 | ⟨_, h1⟩
    · exact ⟨hpre _ h1, h1⟩
    · rw [Tr.get_e] at h1; cases h1
  have hnot : ∀ b, Tr.get b t0 = none → ∀ C, (b, C) ∉ e.pre := by
    intro b hb
    rw [← ht0] at hb
    exact layT_none _ _ _ hb
  unfold chkM at hm
  split at hm
  · cases hm
  next v1 H1 hcall =>
  split at hm
  case h_2 => cases hm
  next hv hn1 hpost =>
  obtain rfl := avEq_eq _ _ _ hv
  have hn1 := (Pos.beq_iff _ _).1 hn1
  have hpost := (allL_iff' _ _).1 hpost
  have hpost : ∀ x ∈ e.post, Tr.get x.1 H1.t = some x.2 := fun x hx => sameB_get (hpost x hx)
  rw [layM_eq] at hm
  have hkept := (allL_iff' _ _).1 hm
  have hkept : ∀ x ∈ e.pre, (∀ C, (x.1, C) ∉ e.post) → Tr.get x.1 H1.t = some x.2 := by
    intro x hx hno
    have := hkept x hx
    split at this
    · next B hB =>
      rcases layT_get _ _ _ _ hB with h1 | ⟨_, h1⟩
      · exact absurd h1 (hno _)
      · rw [Tr.get_e] at h1; cases h1
    · exact sameB_get this
  have hH0 : HR E'.ng φ ⟨t0, e.nx⟩ w := by
    rw [hng]
    exact ⟨fun b B hb => hH.blk b B (hsub b B hb).1, fun b b' B B' p p' hb hb' => hH.inj b b' B B' p p' (hsub b B hb).1 (hsub b' B' hb').1, fun b hb => hH.new b (by rw [← hnx]; exact hb), hH.glob⟩
  have hG0 : GL E' φ ⟨t0, e.nx⟩ w := by
    refine ⟨by rw [hgl]; exact hG.at_, ?_, by rw [hgl]; exact hG.inj⟩
    rw [hgl]
    exact fun b l p b' B' p' h1 h2 h3 => hG.sep b l p b' B' p' h1 h2 (hsub b' B' h3).1
  obtain ⟨fn, c, h1, h2, h3⟩ := hf
  rcases calls_ok hE hcall hA hH0 hG0 with ⟨y, w', hr, _⟩ | ⟨hr, hgo⟩
  · exfalso
    have h2 : fn.name ≠ "runtime.NumGoroutine" := by simpa using h2
    simp [callFunc, h1, h2, h3] at hr
  refine ⟨hr, hgo.mono fun x w1 hx => ?_⟩
  obtain ⟨φ1, hv1, hH1, hk1⟩ := hx
  rw [hng] at hH1
  -- a block behind the call: one of the run's, or one that the call does not see
  have two : ∀ b B, Tr.get b (layT e.post H.t) = some B → Tr.get b H1.t = some B ∨ (Tr.get b H.t = some B ∧ Tr.get b t0 = none) := by
    intro b B hb
    rcases layT_get _ _ _ _ hb with h1 | ⟨hno, h1⟩
    · exact .inl (hpost _ h1)
    · cases hb0 : Tr.get b t0 with
      | none => exact .inr ⟨h1, rfl⟩
      | some C =>
        obtain ⟨g1, g2⟩ := hsub _ _ hb0
        rw [h1] at g1; cases g1
        exact .inl (hkept _ g2 hno)
  have far : ∀ b B p, Tr.get b H.t = some B → Tr.get b t0 = none → φ b = some p → ∀ b0 B0 p0, Tr.get b0 t0 = some B0 → φ b0 = some p0 → p0.blk ≠ p.blk := by
    intro b B p hb hb0 hp b0 B0 p0 h1 h2 he
    have := hH.inj _ _ _ _ _ _ (hsub _ _ h1).1 hb h2 hp he
    subst this
    rw [hb0] at h1; cases h1
  have other : ∀ b B, Tr.get b H.t = some B → Tr.get b t0 = none → ∃ p o, φ b = some p ∧ φ1 b = some p ∧ p.blk < w.heap.size ∧ w1.heap[p.blk]? = some o ∧ BR φ1 p B o := by
    intro b B hb hb0
    obtain ⟨p, o, hp, ho, hB⟩ := hH.blk b B hb
    have hlt := (Array.getElem?_eq_some_iff.1 ho).1
    refine ⟨p, o, hp, hk1.le.at_ _ _ hp, hlt, ?_, hB.mono hk1.le⟩
    rw [hk1.old _ hlt fun b0 B0 p0 h1 h2 => far b B p hb hb0 hp b0 B0 p0 h1 h2]; exact ho
  have apart : ∀ b B p, Tr.get b H1.t = some B → φ1 b = some p → ∀ b' B' p', Tr.get b' H.t = some B' → Tr.get b' t0 = none → φ1 b' = some p' → p.blk ≠ p'.blk := by
    intro b B p hb hp b' B' p' hb' hb0 hp' he
    obtain ⟨q, o, hq, hq1, hlt, _, _⟩ := other b' B' hb' hb0
    rw [hp'] at hq1; cases hq1
    obtain ⟨b0, B0, p0, g1, g2, g3⟩ := hk1.own b B p hb hp (by rw [he]; exact hlt)
    exact far b' B' p' hb' hb0 hq b0 B0 p0 g1 g2 (g3.trans he)
  refine ⟨φ1, hv1, ⟨fun b B hb => ?_, fun b b' B B' p p' hb hb' hp hp' he => ?_, ?_, hH1.glob⟩, ?_⟩
  · rcases two b B hb with h1 | ⟨h1, h2⟩
    · exact hH1.blk b B h1
    · obtain ⟨p, o, _, g1, _, g2, g3⟩ := other b B h1 h2; exact ⟨p, o, g1, g2, g3⟩
  · rcases two b B hb with h1 | ⟨h1, h2⟩ <;> rcases two b' B' hb' with h1' | ⟨h1', h2'⟩
    · exact hH1.inj _ _ _ _ _ _ h1 h1' hp hp' he
    · exact absurd he (apart b B p h1 hp b' B' p' h1' h2' hp')
    · exact absurd he.symm (apart b' B' p' h1' hp' b B p h1 h2 hp)
    · obtain ⟨q, _, hq, hq1, _⟩ := other b B h1 h2
      obtain ⟨q', _, hq', hq1', _⟩ := other b' B' h1' h2'
      rw [hp] at hq1; cases hq1
      rw [hp'] at hq1'; cases hq1'
      exact hH.inj _ _ _ _ _ _ h1 h1' hq hq' he
  · intro b hb
    exact hH1.new b (by rw [hn1]; exact hb)
  · refine { hk1 with old := fun i hi hfar => hk1.old i hi fun b B p h1 h2 => hfar b B p (hsub b B h1).1 h2, own := fun b B p hb hp hlt => ?_, dom := ?_, nx := ?_ }
    · rcases two b B hb with h1 | ⟨h1, h2⟩
      · obtain ⟨b0, B0, p0, g1, g2, g3⟩ := hk1.own b B p h1 hp hlt
        exact ⟨b0, B0, p0, (hsub _ _ g1).1, g2, g3⟩
      · obtain ⟨q, _, hq, hq1, _⟩ := other b B h1 h2
        rw [hp] at hq1; cases hq1
        exact ⟨b, B, p, h1, hq, rfl⟩
    · have := hk1.dom; simp only [hnx] at this; exact this
    · have := hk1.nx; simp only [hnx, hn1] at this; exact this
end Go.Ev
/- Calls that have been run, under names of their own: they stand wherever a call's arguments and the blocks that it can see are the same but for the names. -/
namespace Go.Ev
noncomputable def ltN (nx b : Pos) : Bool := Nat.blt b.val nx.val
/-- what is written down of such a call is what its run gives -/
noncomputable def chkR (ng : Nat) (e : REnt) (r : Ret) : Bool :=
  match r with
  | .no => false
  | .ok v H =>
    match avEq 12 v e.v, Nat.blt ng e.nx.val, allL (namesAV (ltN e.nx) 12) e.args, allL (fun (x : Pos × Blk) => match ltN e.nx x.1 with | true => namesBlk (ltN e.nx) x.2 | false => false) e.pre with
    | true, true, true, true => (match allL (fun (x : Pos × Blk) => match ltN e.nx x.1 with | true => false | false => sameB H.t x) e.new, allL (sameB H.t) e.post with
      | true, true => layM e.pre .e fun P => layM e.post .e fun Q => distinctK e.new .e fun N =>
        match allL (fun (x : Pos × Blk) => match Tr.get x.1 P with | some _ => true | none => false) e.post,
          allL (fun (x : Pos × Blk) => match Tr.get x.1 Q with | some _ => true | none => sameB H.t x) e.pre,
          namesAV (okE ng P N) 12 e.v, allL (fun (x : Pos × Blk) => namesBlk (okE ng P N) x.2) e.post, allL (fun (x : Pos × Blk) => namesBlk (okE ng P N) x.2) e.new with
        | true, true, true, true, true => true
        | _, _, _, _, _ => false
      | _, _ => false)
    | _, _, _, _ => false
where
  /-- a name of a block that the call could see, of a new one, or of a variable -/
  okE (ng : Nat) (P : Tr Blk) (N : Tr Pos) (b : Pos) : Bool := match Tr.get b P with | some _ => true | none => (match Tr.get b N with | some _ => true | none => Nat.ble b.val ng)
noncomputable def isRen (E : Env) (fuel : Nat) (f : FuncId) (e : REnt) : Bool := layM e.pre .e fun t => chkR E.ng e (callR E (run E fuel) .normal f e.args ⟨t, e.nx⟩)
/-! ### whatever names are guessed -/
theorem cL_ok {f : AV → AV → Tr Pos → (Tr Pos → Ret) → Ret} (hf : ∀ x y S K v H, f x y S K = .ok v H → ∃ S', K S' = .ok v H) : ∀ (l m : List AV) (S : Tr Pos) (K : Tr Pos → Ret) (v : AV) (H : Hp), cL f l m S K = .ok v H → ∃ S', K S' = .ok v H
  | [], _, S, K, v, H, h => ⟨S, h⟩
  | a :: l, [], S, K, v, H, h => by cases h
  | a :: l, b :: m, S, K, v, H, h => by
    obtain ⟨S', h'⟩ := hf a b S (fun S => cL f l m S K) v H h
    exact cL_ok hf l m S' K v H h'
theorem cAV_ok : ∀ (d : Nat) (x y : AV) (S : Tr Pos) (K : Tr Pos → Ret) (v : AV) (H : Hp), cAV d x y S K = .ok v H → ∃ S', K S' = .ok v H
  | 0, _, _, S, K, v, H, h => ⟨S, h⟩
  | d + 1, x, y, S, K, v, H, h => by
    have ih := cAV_ok d
    change (match (generalizing := false) x, y with
      | .ptr b _, .ptr c _ => Tr.setK (some c) b S K
      | .slice b _ _ _ _, .slice c _ _ _ _ => Tr.setK (some c) b S K
      | .map b, .map c => Tr.setK (some c) b S K
      | .fn _ a c, .fn _ a' c' => cL (cAV d) a a' S fun S => cL (cAV d) c c' S K
      | .iface _ v, .iface _ w => cAV d v w S K
      | .agg l, .agg m => cL (cAV d) l m S K
      | .tup l, .tup m => cL (cAV d) l m S K
      | _, _ => K S) = Ret.ok v H at h
    split at h
    · rw [Tr.setK_eq] at h; exact ⟨_, h⟩
    · rw [Tr.setK_eq] at h; exact ⟨_, h⟩
    · rw [Tr.setK_eq] at h; exact ⟨_, h⟩
    · obtain ⟨S', h'⟩ := cL_ok ih _ _ _ _ _ _ h; exact cL_ok ih _ _ _ _ _ _ h'
    · exact ih _ _ _ _ _ _ h
    · exact cL_ok ih _ _ _ _ _ _ h
    · exact cL_ok ih _ _ _ _ _ _ h
    · exact ⟨S, h⟩
theorem cE_ok : ∀ (es fs : List (AV × AV × Nat)) (S : Tr Pos) (K : Tr Pos → Ret) (v : AV) (H : Hp), cE es fs S K = .ok v H → ∃ S', K S' = .ok v H
  | [], _, S, K, v, H, h => ⟨S, h⟩
  | a :: l, [], S, K, v, H, h => by cases h
  | a :: l, b :: m, S, K, v, H, h => by
    obtain ⟨S1, h1⟩ := cAV_ok 12 a.1 b.1 S (fun S => cAV 12 a.2.1 b.2.1 S fun S => cE l m S K) v H h
    obtain ⟨S2, h2⟩ := cAV_ok 12 a.2.1 b.2.1 S1 (fun S => cE l m S K) v H h1
    exact cE_ok l m S2 K v H h2
theorem cBlk_ok {B C : Blk} {S : Tr Pos} {K : Tr Pos → Ret} {v : AV} {H : Hp} (h : cBlk B C S K = .ok v H) : ∃ S', K S' = .ok v H := by
  unfold cBlk at h
  split at h
  · exact cL_ok (cAV_ok 12) _ _ _ _ _ _ h
  · exact cE_ok _ _ _ _ _ _ h
  · cases h
theorem cPre_ok (t : Tr Blk) : ∀ (l : List (Pos × Blk)) (S : Tr Pos) (K : Tr Pos → Ret) (v : AV) (H : Hp), cPre t l S K = .ok v H → ∃ S', K S' = .ok v H
  | [], S, K, v, H, h => ⟨S, h⟩
  | x :: l, S, K, v, H, h => by
    change (match Tr.get x.1 S with
      | some c => (match Tr.get c t with | some C => cBlk x.2 C S fun S => cPre t l S K | none => .no)
      | none => cPre t l S K) = Ret.ok v H at h
    split at h
    · split at h
      · obtain ⟨S', h'⟩ := cBlk_ok h; exact cPre_ok t l S' K v H h'
      · cases h
    · exact cPre_ok t l S K v H h
theorem rmemoR_ok {ng : Nat} {l : List REnt} {args : List AV} {H : Hp} {v : AV} {H' : Hp} (h : rmemoR ng l args H = .ok v H') : ∃ e ∈ l, ∃ S, useR ng e S args H = .ok v H' := by
  induction l with
  | nil => cases h
  | cons e l ih =>
    change (match cL (cAV 12) e.args args .e fun S => cPre H.t e.pre S fun S => useR ng e S args H with | .ok v H => .ok v H | .no => rmemoR ng l args H) = Ret.ok v H' at h
    split at h
    · next v1 H1 hc =>
      cases h
      obtain ⟨S, h1⟩ := cL_ok (cAV_ok 12) _ _ _ _ _ _ hc
      obtain ⟨S', h2⟩ := cPre_ok _ _ _ _ _ _ h1
      exact ⟨e, List.mem_cons_self .., S', h2⟩
    · obtain ⟨e', h1, h2⟩ := ih h
      exact ⟨e', List.mem_cons_of_mem _ h1, h2⟩
/-! ### names, changed back -/
theorem unAV_ok {φ φ' : Phi} {S : Tr Pos} {ok : Pos → Bool} (ho : φ'.opq = φ.opq) (hn : ∀ b p, ok b = true → φ (ren S b) = some p → φ' b = some p) : ∀ (d : Nat) (v : AV) (x : Value), namesAV ok d v = true → VR φ (renAV S d v) x → VR φ' v x := by
  intro d
  induction d with
  | zero => intro v x h; cases h
  | succ d ih =>
    have ihl : ∀ (l : List AV) (m : List Value), allL (namesAV ok d) l = true → VRL φ (mapL (renAV S d) l) m → VRL φ' l m := by
      intro l
      induction l with
      | nil => intro m _ hl; cases hl; exact .nil
      | cons a l ihl =>
        intro m h hl
        have hl : VRL φ (renAV S d a :: mapL (renAV S d) l) m := hl
        cases hl with | cons h1 h2 =>
        have h := (allL_iff' _ _).1 h
        exact .cons (ih _ _ (h a (by simp)) h1) (ihl _ ((allL_iff' _ _).2 fun v hv => h v (List.mem_cons_of_mem _ hv)) h2)
    intro v x h hv
    cases v with
    | ptr b o => have hv : VR φ (.ptr (ren S b) o) x := hv; cases hv with | ptr _ h' => exact .ptr o (hn _ _ h h')
    | slice b o l c op =>
      have hv : VR φ (.slice (ren S b) o l c op) x := hv
      cases hv with
      | sliceC _ _ _ h' => exact .sliceC o l c (hn _ _ h h')
      | sliceO _ _ _ s h' hs hnn => exact .sliceO o l c s (hn _ _ h h') hs hnn
    | map b => have hv : VR φ (.map (ren S b)) x := hv; cases hv with | map h' => exact .map (hn _ _ h h')
    | yld b => cases h
    | fn f a c =>
      have hv : VR φ (.fn f (mapL (renAV S d) a) (mapL (renAV S d) c)) x := hv
      cases hv with | fn _ h1 h2 =>
      change (match allL (namesAV ok d) a with | true => allL (namesAV ok d) c | false => false) = true at h
      split at h
      · next ha => exact .fn f (ihl _ _ ha h1) (ihl _ _ h h2)
      · cases h
    | iface t u => have hv : VR φ (.iface t (renAV S d u)) x := hv; cases hv with | iface _ h' => exact .iface t (ih _ _ h h')
    | agg l => have hv : VR φ (.agg (mapL (renAV S d) l)) x := hv; cases hv with | agg h' => exact .agg (ihl _ _ h h')
    | tup l => have hv : VR φ (.tup (mapL (renAV S d) l)) x := hv; cases hv with | tup h' => exact .tup (ihl _ _ h h')
    | bool b => have hv : VR φ (.bool b) x := hv; cases hv; exact .bool b
    | int k n => have hv : VR φ (.int k n) x := hv; cases hv; exact .int k n
    | str n c => have hv : VR φ (.str n c) x := hv; cases hv with | str h' => exact .str h'
    | nptr => have hv : VR φ .nptr x := hv; cases hv; exact .nptr
    | nslice => have hv : VR φ .nslice x := hv; cases hv; exact .nslice
    | nmap => have hv : VR φ .nmap x := hv; cases hv; exact .nmap
    | nfn => have hv : VR φ .nfn x := hv; cases hv; exact .nfn
    | nif => have hv : VR φ .nif x := hv; cases hv; exact .nif
    | opq i => have hv : VR φ (.opq i) x := hv; cases hv; have := VR.opq (φ := φ') i; rw [ho] at this; exact this
    | sym D k e => have hv : VR φ (.sym D k e) x := hv; cases hv with | sym _ _ hD => have := VR.sym (φ := φ') k e (by rw [ho]; exact hD); rw [ho] at this; exact this
    | osl D e => have hv : VR φ (.osl D e) x := hv; cases hv with | osl hD hl hc hp => exact .osl (by rw [ho]; exact hD) (by rw [ho]; exact hl) hc hp
    | any => have hv : VR φ .any x := hv; cases hv with | any h1 h2 => exact .any h1 h2
    | bound n t => have hv : VR φ (.bound n t) x := hv; cases hv; exact .bound _ _ _ _
theorem unER_ok {φ φ' : Phi} {S : Tr Pos} {ok : Pos → Bool} (ho : φ'.opq = φ.opq) (hn : ∀ b p, ok b = true → φ (ren S b) = some p → φ' b = some p) : ∀ (es : List (AV × AV × Nat)) (m : List MapEntry), (∀ e ∈ es, (match namesAV ok 12 e.1 with | true => namesAV ok 12 e.2.1 | false => false) = true) →
    ER φ (es.map fun e => (renAV S 12 e.1, renAV S 12 e.2.1, e.2.2)) m → ER φ' es m
  | [], _, _, h => by cases h; exact .nil
  | (k, v, b) :: es, _, hk, h => by
    cases h with | cons h1 h2 h3 =>
    have hh := hk _ (List.mem_cons_self ..)
    simp only at hh
    split at hh
    · next g => exact .cons (unAV_ok ho hn 12 _ _ g h1) (unAV_ok ho hn 12 _ _ hh h2) (unER_ok ho hn es _ (fun e he => hk e (List.mem_cons_of_mem _ he)) h3)
    · cases hh
theorem unBlk_ok {φ φ' : Phi} {S : Tr Pos} {ok : Pos → Bool} (ho : φ'.opq = φ.opq) (hn : ∀ b p, ok b = true → φ (ren S b) = some p → φ' b = some p) {p : Pl} {B C : Blk} {o : Obj} (hk : namesBlk ok B = true) (hc : renBlk S B = some C) (h : BR φ p C o) : BR φ' p B o := by
  cases B with
  | cells pl l =>
    cases hc
    cases h with | cells hl hcz hg hf hp =>
    have hk := (allL_iff' _ _).1 hk
    refine .cells (by rw [mapL_length] at hl; exact hl) hcz (fun i v hv => ?_) hf hp
    obtain ⟨x, hx, hr⟩ := hg i (renAV S 12 v) (by rw [mapL_eq, List.getElem?_map, hv]; rfl)
    exact ⟨x, hx, unAV_ok ho hn 12 _ _ (hk v (List.mem_of_getElem? hv)) hr⟩
  | map es cl =>
    cases hc
    cases h with | map he =>
    rw [mapL_eq] at he
    exact .map (unER_ok ho hn _ _ ((allL_iff' _ _).1 hk) he)
  | siter _ _ _ => cases hc
  | loop _ _ _ _ _ _ _ _ _ => cases hc
  | dfr _ => cases hc
theorem unL_ok {φ φ' : Phi} {S : Tr Pos} {ok : Pos → Bool} (ho : φ'.opq = φ.opq) (hn : ∀ b p, ok b = true → φ (ren S b) = some p → φ' b = some p) : ∀ (l : List AV) (m : List Value), allL (namesAV ok 12) l = true → VRL φ (mapL (renAV S 12) l) m → VRL φ' l m
  | [], m, _, hl => by cases hl; exact .nil
  | a :: l, m, h, hl => by
    have hl : VRL φ (renAV S 12 a :: mapL (renAV S 12) l) m := hl
    cases hl with | cons h1 h2 =>
    have h := (allL_iff' _ _).1 h
    exact .cons (unAV_ok ho hn 12 _ _ (h a (by simp)) h1) (unL_ok ho hn l _ ((allL_iff' _ _).2 fun v hv => h v (List.mem_cons_of_mem _ hv)) h2)
/-! ### the checks of a use -/
theorem fixG_ok {S : Tr Pos} {n : Nat} (h : fixG S n = true) : ∀ g, g < n → ren S (posOf g) = posOf g := by
  have key : ∀ n k, fuelRec (X := Nat → Bool) (fun _ => true) (fun ih k => match Pos.beq (ren S (posOf k)) (posOf k) with | true => ih () (Nat.succ k) | false => false) n k = true → ∀ g, k ≤ g → g < k + n → ren S (posOf g) = posOf g := by
    intro n
    induction n with
    | zero => intro k _ g h1 h2; omega
    | succ n ih =>
      intro k h g h1 h2
      change (match Pos.beq (ren S (posOf k)) (posOf k) with | true => fuelRec (X := Nat → Bool) (fun _ => true) (fun ih k => match Pos.beq (ren S (posOf k)) (posOf k) with | true => ih () (Nat.succ k) | false => false) n (Nat.succ k) | false => false) = true at h
      split at h
      · next hb =>
        by_cases e : g = k
        · subst e; exact (Pos.beq_iff _ _).1 hb
        · exact ih (k + 1) h g (by omega) (by omega)
      · cases h
  exact fun g hg => key n 0 h g (Nat.zero_le _) (by omega)
theorem sameR_ok {S : Tr Pos} {t : Tr Blk} {x : Pos × Blk} (h : sameR S t x = true) : ∃ C, Tr.get (ren S x.1) t = some C ∧ renBlk S x.2 = some C := by
  unfold sameR at h
  split at h
  · next C B h1 h2 => obtain rfl := blkEq_eq h; exact ⟨_, h1, h2⟩
  · cases h
theorem distR_ok {S : Tr Pos} : ∀ (l : List (Pos × Blk)) (T : Tr Pos), distR S l T = true → (∀ x ∈ l, Tr.get (ren S x.1) T = none) ∧ ∀ x ∈ l, ∀ y ∈ l, ren S x.1 = ren S y.1 → x.1 = y.1
  | [], _, _ => ⟨(by simp), (by simp)⟩
  | x :: l, T, h => by
    change (match Tr.get (ren S x.1) T with | none => Tr.setK (some x.1) (ren S x.1) T fun T => distR S l T | some _ => false) = true at h
    split at h
    · next hx =>
      rw [Tr.setK_eq] at h
      obtain ⟨h1, h2⟩ := distR_ok l _ h
      have hne : ∀ y ∈ l, ren S y.1 ≠ ren S x.1 ∧ Tr.get (ren S y.1) T = none := by
        intro y hy
        have := h1 y hy
        rw [Tr.get_set] at this
        split at this
        · cases this
        · exact ⟨by assumption, this⟩
      refine ⟨fun y hy => ?_, fun y hy z hz he => ?_⟩
      · cases hy with
        | head => exact hx
        | tail _ hy => exact (hne y hy).2
      · cases hy with
        | head => cases hz with
          | head => rfl
          | tail _ hz => exact absurd he.symm (hne z hz).1
        | tail _ hy => cases hz with
          | head => exact absurd he (hne y hy).1
          | tail _ hz => exact h2 y hy z hz he
    · cases h
theorem nameS_old : ∀ (l : List (Pos × Blk)) (S : Tr Pos) (nx b : Pos), (∀ B, (b, B) ∉ l) → Tr.get b (nameS l S nx) = Tr.get b S
  | [], _, _, _, _ => rfl
  | x :: l, S, nx, b, h => by
    rw [nameS, nameS_old l _ _ b (fun B hB => h B (List.mem_cons_of_mem _ hB)), Tr.get_set, if_neg]
    intro e; subst e; exact h x.2 (List.mem_cons_self ..)
theorem nameS_new : ∀ (l : List (Pos × Blk)) (S : Tr Pos) (nx b : Pos) (B : Blk), (b, B) ∈ l → ∃ i B', l[i]? = some (b, B') ∧ Tr.get b (nameS l S nx) = some (posAdd nx i)
  | x :: l, S, nx, b, B, h => by
    by_cases hl : ∃ C, (b, C) ∈ l
    · obtain ⟨C, hC⟩ := hl
      obtain ⟨i, B', h1, h2⟩ := nameS_new l (Tr.set (some nx) x.1 S) nx.succ b C hC
      exact ⟨i + 1, B', by simpa using h1, h2⟩
    · have hl : ∀ C, (b, C) ∉ l := fun C hC => hl ⟨C, hC⟩
      cases h with
      | head => exact ⟨0, B, rfl, by rw [nameS, nameS_old l _ _ b hl, Tr.get_set, if_pos rfl]; rfl⟩
      | tail _ h => exact absurd h (hl B)
theorem putR_ok {S : Tr Pos} {K : Hp → Ret} {v : AV} {H' : Hp} : ∀ (l : List (Pos × Blk)) (H : Hp), putR S l H K = .ok v H' →
    ∃ H1, K H1 = .ok v H' ∧ H1.nx = H.nx ∧ ∀ (c : Pos) (C : Blk), Tr.get c H1.t = some C → (∃ x ∈ l, c = ren S x.1 ∧ renBlk S x.2 = some C) ∨ ((∀ x ∈ l, c ≠ ren S x.1) ∧ Tr.get c H.t = some C)
  | [], H, h => ⟨H, h, rfl, fun c C hc => .inr ⟨by simp, hc⟩⟩
  | x :: l, H, h => by
    change (match renBlk S x.2 with | some B => Hp.setK (ren S x.1) (some B) H fun H => putR S l H K | none => .no) = _ at h
    split at h
    · next B hB =>
      rw [Hp.setK_eq] at h
      obtain ⟨H1, h1, h2, h3⟩ := putR_ok l _ h
      refine ⟨H1, h1, h2, fun c C hc => ?_⟩
      rcases h3 c C hc with ⟨y, hy, g1, g2⟩ | ⟨g1, g2⟩
      · exact .inl ⟨y, List.mem_cons_of_mem _ hy, g1, g2⟩
      · simp only [Hp.set, Tr.get_set] at g2
        by_cases e : c = ren S x.1
        · rw [if_pos e] at g2; cases g2; exact .inl ⟨x, List.mem_cons_self .., e, hB⟩
        · rw [if_neg e] at g2
          refine .inr ⟨fun y hy => ?_, g2⟩
          cases hy with
          | head => exact e
          | tail _ hy => exact g1 y hy
    · cases h
/-! ### the law -/
def RenOk (P : Program) (ng : Nat) (gl : Tr (List AV)) (f : FuncId) (e : REnt) : Prop :=
  ∃ E' fuel, EnvOk2 P E' ∧ E'.ng = ng ∧ E'.gl = gl ∧ isRen E' fuel f e = true
theorem rmemo_ok {P : Program} {E : Env} {f : FuncId} {l : List REnt} (hglg : ∀ b l, Tr.get b E.gl = some l → (∃ g, g < E.ng ∧ b = posOf g) ∧ allL (plainAV 6) l = true)
    (hf : ∃ fn c, P.funcs[f]? = some fn ∧ (fn.name == "runtime.NumGoroutine") = false ∧ fn.body = some c) (hl : ∀ e ∈ l, RenOk P E.ng E.gl f e) : CtrOk P E f (.rmemo E.ng l) := by
  intro args A φ H w v H' hA hH hG h
  have h : rmemoR E.ng l args H = .ok v H' := by
    unfold ctrR at h
    exact h
  obtain ⟨e, he, S, hu⟩ := rmemoR_ok h
  clear h
  unfold useR at hu
  split at hu
  case h_2 => cases hu
  next hargs hfix hpre hdist =>
  have hargs := eqL_eq (avEq_eq 12) _ _ hargs
  subst hargs
  have hfix := fixG_ok hfix
  have hpre := (allL_iff' _ _).1 hpre
  have hpre : ∀ x ∈ e.pre, ∃ C, Tr.get (ren S x.1) H.t = some C ∧ renBlk S x.2 = some C := fun x hx => sameR_ok (hpre x hx)
  have hinj := (distR_ok _ _ hdist).2
  rw [nameK_eq] at hu
  generalize hS' : nameS e.new S H.nx = S' at hu
  obtain ⟨H1, hu, hnx1, hget1⟩ := putR_ok _ _ hu
  obtain ⟨H2, hu, hnx2, hget2⟩ := layK_ok _ _ hu
  obtain ⟨rfl, rfl⟩ : renAV S' 12 e.v = v ∧ H2 = H' := by injection hu with a b; exact ⟨a, b⟩
  rw [hnx1] at hnx2 hget2
  obtain ⟨E', fuel, hE, hEng, hEgl, hm⟩ := hl e he
  clear hl he hu
  unfold isRen at hm
  rw [layM_eq] at hm
  unfold chkR at hm
  generalize ht0 : layT e.pre .e = t0 at hm
  split at hm
  · cases hm
  next v1 Hr hcall =>
  split at hm
  case h_2 => cases hm
  next hv hlow hnA hnP =>
  obtain rfl := avEq_eq _ _ _ hv
  split at hm
  case h_2 => cases hm
  next hnew hpost =>
  rw [layM_eq, layM_eq, ht0] at hm
  obtain ⟨N, hm, hN, _, hnd⟩ := distinctK_ok _ _ hm
  split at hm
  case h_2 => cases hm
  next c1 c2 c3 c4 c5 =>
  clear hm
  rw [hEng] at hlow c3 c4 c5
  have hlow : E.ng < e.nx.val := by simpa [Nat.blt_eq] using hlow
  have ltN_iff : ∀ b, ltN e.nx b = true ↔ b.val < e.nx.val := fun b => by unfold ltN; rw [Nat.blt_eq]
  have hpost := (allL_iff' _ _).1 hpost
  have hpost : ∀ x ∈ e.post, Tr.get x.1 Hr.t = some x.2 := fun x hx => sameB_get (hpost x hx)
  have hnew := (allL_iff' _ _).1 hnew
  have hnewge : ∀ x ∈ e.new, ¬ x.1.val < e.nx.val := by
    intro x hx hlt
    have := hnew x hx
    rw [(ltN_iff _).2 hlt] at this
    cases this
  have hnewB : ∀ x ∈ e.new, Tr.get x.1 Hr.t = some x.2 := by
    intro x hx
    have := hnew x hx
    split at this
    · cases this
    · exact sameB_get this
  have hnP := (allL_iff' _ _).1 hnP
  have hnP : ∀ x ∈ e.pre, x.1.val < e.nx.val ∧ namesBlk (ltN e.nx) x.2 = true := by
    intro x hx
    have := hnP x hx
    split at this
    · next h1 => exact ⟨(ltN_iff _).1 h1, this⟩
    · cases this
  have hsub : ∀ b B, Tr.get b t0 = some B → (b, B) ∈ e.pre := by
    intro b B hb
    rw [← ht0] at hb
    rcases layT_get _ _ _ _ hb with h1 | ⟨_, h1⟩
    · exact h1
    · rw [Tr.get_e] at h1; cases h1
  have c1 : ∀ x ∈ e.post, ∃ B, (x.1, B) ∈ e.pre := by
    intro x hx
    have := (allL_iff' _ _).1 c1 x hx
    split at this
    · next B hB => exact ⟨B, hsub _ _ hB⟩
    · cases this
  have c2 : ∀ x ∈ e.pre, (∀ C, (x.1, C) ∉ e.post) → Tr.get x.1 Hr.t = some x.2 := by
    intro x hx hno
    have := (allL_iff' _ _).1 c2 x hx
    split at this
    · next B hB =>
      rcases layT_get _ _ _ _ hB with h1 | ⟨_, h1⟩
      · exact absurd h1 (hno _)
      · rw [Tr.get_e] at h1; cases h1
    · exact sameB_get this
  have hφlt : ∀ b p, φ b = some p → b.val < H.nx.val := by
    intro b p hb
    rcases Nat.lt_or_ge b.val H.nx.val with h | h
    · exact h
    · rw [hH.new b h] at hb; cases hb
  -- the names of the entry, at the call
  generalize hφ0 : (⟨fun b => if b.val < e.nx.val then φ (ren S b) else none, φ.opq⟩ : Phi) = φ0
  have h0at : ∀ b, b.val < e.nx.val → φ0 b = φ (ren S b) := by
    intro b hb; subst hφ0; show (if b.val < e.nx.val then φ (ren S b) else none) = _; rw [if_pos hb]
  have h0no : ∀ b, ¬ b.val < e.nx.val → φ0 b = none := by
    intro b hb; subst hφ0; show (if b.val < e.nx.val then φ (ren S b) else none) = _; rw [if_neg hb]
  have h0opq : φ0.opq = φ.opq := by subst hφ0; rfl
  have h0some : ∀ b p, φ0 b = some p → b.val < e.nx.val ∧ φ (ren S b) = some p := by
    intro b p hb
    by_cases hlt : b.val < e.nx.val
    · rw [h0at b hlt] at hb; exact ⟨hlt, hb⟩
    · rw [h0no b hlt] at hb; cases hb
  have hn0 : ∀ b p, ltN e.nx b = true → φ (ren S b) = some p → φ0 b = some p := fun b p hb hp => by rw [h0at b ((ltN_iff b).1 hb)]; exact hp
  have hg0 : ∀ g, g < E.ng → φ0 (posOf g) = φ (posOf g) := fun g hg => by rw [h0at _ (by rw [posOf_val]; omega), hfix g hg]
  have hA0 : VRL φ0 e.args A.toList := unL_ok h0opq hn0 _ _ hnA hA
  have himg : ∀ b B, Tr.get b t0 = some B → ∃ C, Tr.get (ren S b) H.t = some C := fun b B hb => let ⟨C, hC, _⟩ := hpre _ (hsub b B hb); ⟨C, hC⟩
  have hH0 : HR E'.ng φ0 ⟨t0, e.nx⟩ w := by
    rw [hEng]
    refine ⟨fun b B hb => ?_, fun b b' B B' p p' hb hb' hp hp' hpp => ?_, fun b hb => h0no b (by have hb : e.nx.val ≤ b.val := hb; omega), fun g hg => ?_⟩
    · obtain ⟨C, hC, hren⟩ := hpre _ (hsub b B hb)
      obtain ⟨p, o, hp, ho, hB⟩ := hH.blk _ _ hC
      exact ⟨p, o, hn0 b p ((ltN_iff b).2 (hnP _ (hsub b B hb)).1) hp, ho, unBlk_ok h0opq hn0 (hnP _ (hsub b B hb)).2 hren hB⟩
    · obtain ⟨C, hC⟩ := himg b B hb
      obtain ⟨C', hC'⟩ := himg b' B' hb'
      exact hinj _ (hsub b B hb) _ (hsub b' B' hb') (hH.inj _ _ _ _ _ _ hC hC' (h0some b p hp).2 (h0some b' p' hp').2 hpp)
    · rw [hg0 g hg]; exact hH.glob g hg
  have hG0 : GL E' φ0 ⟨t0, e.nx⟩ w := by
    have hgl0 : ∀ b l, Tr.get b E.gl = some l → φ0 b = φ b := fun b l hb => by obtain ⟨⟨g, hg, rfl⟩, _⟩ := hglg b l hb; exact hg0 g hg
    refine ⟨fun b l hb => ?_, fun b l p b' B' p' hb hp hb' hp' => ?_, fun b l b' l' p p' hb hb' hp hp' he => ?_⟩
    · rw [hEgl] at hb
      obtain ⟨p, o, t, hp, ho, hB⟩ := hG.at_ b l hb
      refine ⟨p, o, t, by rw [hgl0 b l hb]; exact hp, ho, ?_⟩
      have hpl := (allL_iff' _ _).1 (hglg b l hb).2
      cases hB with
      | cells hl hcz hg hf hp' =>
        refine .cells hl hcz (fun i v hv => ?_) hf hp'
        obtain ⟨x, hx, hr⟩ := hg i v hv
        exact ⟨x, hx, plainAV_ok (φ := φ) (φ' := φ0) h0opq _ _ _ (hpl v (List.mem_of_getElem? hv)) hr⟩
    · rw [hEgl] at hb
      obtain ⟨C, hC⟩ := himg b' B' hb'
      rw [hgl0 b l hb] at hp
      exact hG.sep b l p (ren S b') C p' hb hp hC (h0some b' p' hp').2
    · rw [hEgl] at hb hb'
      rw [hgl0 b l hb] at hp
      rw [hgl0 b' l' hb'] at hp'
      exact hG.inj b l b' l' p p' hb hb' hp hp' he
  obtain ⟨fn, c, h1, h2, h3⟩ := hf
  rcases calls_ok hE hcall hA0 hH0 hG0 with ⟨y, w', hr, _⟩ | ⟨hr, hgo⟩
  · exfalso
    have h2 : fn.name ≠ "runtime.NumGoroutine" := by simpa using h2
    simp [callFunc, h1, h2, h3] at hr
  refine ⟨hr, hgo.mono fun x w1 hx => ?_⟩
  obtain ⟨φ1, hv1, hHr, hk1⟩ := hx
  rw [hEng] at hHr
  have hdom : ∀ b, b.val < e.nx.val → φ1 b = φ (ren S b) := fun b hb => by rw [hk1.dom b hb, h0at b hb]
  have hle : φ.le (after φ φ1 H.nx e.new) := ⟨fun b p hb => by rw [after_old (hφlt b p hb)]; exact hb, rfl⟩
  have hopq : (after φ φ1 H.nx e.new).opq = φ1.opq := by
    show φ.opq = φ1.opq
    rw [hk1.le.opq, h0opq]
  have hold : ∀ b, b.val < e.nx.val → ren S' b = ren S b := by
    intro b hb
    unfold ren
    rw [← hS', nameS_old _ _ _ _ (fun B hB => hnewge _ hB hb)]
  have hrenlt : ∀ b p, ltN e.nx b = true → φ1 b = some p → after φ φ1 H.nx e.new (ren S b) = some p := by
    intro b p hb hp
    rw [hdom b ((ltN_iff b).1 hb)] at hp
    exact hle.at_ _ _ hp
  have hrennew : ∀ b B, (b, B) ∈ e.new → ∃ i B', e.new[i]? = some (b, B') ∧ ren S' b = posAdd H.nx i := by
    intro b B hb
    obtain ⟨i, B', g1, g2⟩ := nameS_new e.new S H.nx b B hb
    exact ⟨i, B', g1, by unfold ren; rw [← hS', g2]⟩
  have hren : ∀ b p, chkR.okE E.ng t0 N b = true → φ1 b = some p → after φ φ1 H.nx e.new (ren S' b) = some p := by
    intro b p hok hb
    unfold chkR.okE at hok
    split at hok
    · next B hB =>
      have hlt := (hnP _ (hsub b B hB)).1
      rw [hold b hlt]
      exact hrenlt b p ((ltN_iff b).2 hlt) hb
    · split at hok
      · next c0 hc0 =>
        rcases hN b c0 hc0 with ⟨B, hB⟩ | h1
        · obtain ⟨i, B', g1, g2⟩ := hrennew b B hB
          rw [g2, after_new g1]; exact hb
        · rw [Tr.get_e] at h1; cases h1
      · have hle' : b.val ≤ E.ng := Nat.le_of_ble_eq_true hok
        have hlt : b.val < e.nx.val := by omega
        rw [hold b hlt]
        exact hrenlt b p ((ltN_iff b).2 hlt) hb
  have c4 := (allL_iff' _ _).1 c4
  have c5 := (allL_iff' _ _).1 c5
  have hfar : ∀ c C p, Tr.get c H.t = some C → (∀ x ∈ e.pre, c ≠ ren S x.1) → φ c = some p → ∀ b0 B0 p0, Tr.get b0 t0 = some B0 → φ0 b0 = some p0 → p0.blk ≠ p.blk := by
    intro c C p hc hno hp b0 B0 p0 g1 g2 hpp
    obtain ⟨C0, hC0⟩ := himg b0 B0 g1
    exact hno _ (hsub b0 B0 g1) (hH.inj _ _ _ _ _ _ hC0 hc (h0some b0 p0 g2).2 hp hpp).symm
  -- a block behind the call: one of the entry's run, or one that the call does not see
  have two : ∀ c C, Tr.get c H2.t = some C → ∃ p o, after φ φ1 H.nx e.new c = some p ∧ w1.heap[p.blk]? = some o ∧ BR (after φ φ1 H.nx e.new) p C o ∧
      ((∃ b B, Tr.get b Hr.t = some B ∧ φ1 b = some p ∧ c = ren S' b) ∨ (Tr.get c H.t = some C ∧ (∀ x ∈ e.pre, c ≠ ren S x.1) ∧ φ c = some p ∧ p.blk < w.heap.size)) := by
    intro c C hc
    rcases hget2 c C hc with ⟨i, x, g1, g2, g3⟩ | g1
    · have hx := List.mem_of_getElem? g1
      obtain ⟨p, o, hp, ho, hB⟩ := hHr.blk _ _ (hnewB x hx)
      obtain ⟨j, B', k1, k2⟩ := hrennew x.1 x.2 hx
      have hij : i = j := by
        have hl : i < (e.new.map (·.1)).length := by rw [List.length_map]; exact (List.getElem?_eq_some_iff.1 g1).1
        refine (List.getElem?_inj hl hnd).1 ?_
        rw [List.getElem?_map, List.getElem?_map, g1, k1]; rfl
      exact ⟨p, o, by rw [g2, after_new g1]; exact hp, ho, renBlk_ok hopq hren (c5 x hx) hB g3, .inl ⟨x.1, x.2, hnewB x hx, hp, by rw [g2, k2, hij]⟩⟩
    · rcases hget1 c C g1 with ⟨x, hx, g2, g3⟩ | ⟨g2, g3⟩
      · obtain ⟨p, o, hp, ho, hB⟩ := hHr.blk _ _ (hpost x hx)
        obtain ⟨B0, hB0⟩ := c1 x hx
        have hlt := (hnP _ hB0).1
        refine ⟨p, o, ?_, ho, renBlk_ok hopq hren (c4 x hx) hB g3, .inl ⟨x.1, x.2, hpost x hx, hp, g2⟩⟩
        rw [g2, hold x.1 hlt]; exact hrenlt x.1 p ((ltN_iff _).2 hlt) hp
      · by_cases himg' : ∃ x ∈ e.pre, c = ren S x.1
        · obtain ⟨x, hx, rfl⟩ := himg'
          have hlt := (hnP x hx).1
          have hxn := c2 x hx (fun D hD => g2 _ hD (hold x.1 hlt).symm)
          obtain ⟨p, o, hp, ho, hB⟩ := hHr.blk _ _ hxn
          obtain ⟨D, hD, hrD⟩ := hpre x hx
          rw [g3] at hD; cases hD
          exact ⟨p, o, hrenlt x.1 p ((ltN_iff _).2 hlt) hp, ho, renBlk_ok hopq hrenlt (hnP x hx).2 hB hrD, .inl ⟨x.1, x.2, hxn, hp, (hold x.1 hlt).symm⟩⟩
        · have hno : ∀ x ∈ e.pre, c ≠ ren S x.1 := fun x hx hcx => himg' ⟨x, hx, hcx⟩
          obtain ⟨p, o, hp, ho, hB⟩ := hH.blk _ _ g3
          have hlt := (Array.getElem?_eq_some_iff.1 ho).1
          refine ⟨p, o, hle.at_ _ _ hp, ?_, hB.mono hle, .inr ⟨g3, hno, hp, hlt⟩⟩
          rw [hk1.old _ hlt fun b0 B0 p0 k1 k2 => hfar c C p g3 hno hp b0 B0 p0 k1 k2]; exact ho
  refine ⟨after φ φ1 H.nx e.new, renAV_ok hopq hren 12 _ _ c3 hv1, ⟨fun c C hc => ?_, fun c c' C C' p p' hc hc' hp hp' he => ?_, fun c hc => ?_, fun g hg => ?_⟩, ⟨hle, hk1.size, fun i hi hfar' => ?_, fun c C p hc hp hlt => ?_, hk1.tape, hk1.os, hk1.out, fun b hb => after_old hb, by omega⟩⟩
  · obtain ⟨p, o, g1, g2, g3, _⟩ := two c C hc; exact ⟨p, o, g1, g2, g3⟩
  · obtain ⟨q, o, g1, _, _, g⟩ := two c C hc
    obtain ⟨q', o', g1', _, _, g'⟩ := two c' C' hc'
    rw [hp] at g1; cases g1
    rw [hp'] at g1'; cases g1'
    rcases g with ⟨b, B, k1, k2, k3⟩ | ⟨k1, k2, k3, k4⟩ <;> rcases g' with ⟨b', B', k1', k2', k3'⟩ | ⟨k1', k2', k3', k4'⟩
    · rw [k3, k3', hHr.inj _ _ _ _ _ _ k1 k1' k2 k2' he]
    · obtain ⟨b0, B0, p0, m1, m2, m3⟩ := hk1.own b B p k1 k2 (by rw [he]; exact k4')
      exact absurd (m3.trans he) (hfar c' C' p' k1' k2' k3' b0 B0 p0 m1 m2)
    · obtain ⟨b0, B0, p0, m1, m2, m3⟩ := hk1.own b' B' p' k1' k2' (by rw [← he]; exact k4)
      exact absurd (m3.trans he.symm) (hfar c C p k1 k2 k3 b0 B0 p0 m1 m2)
    · exact hH.inj _ _ _ _ _ _ k1 k1' k3 k3' he
  · unfold after
    simp only
    rw [if_neg (by omega), List.getElem?_eq_none (by omega)]
  · obtain ⟨p, g1, g2, g3⟩ := hH.glob g hg
    exact ⟨p, hle.at_ _ _ g1, g2, g3⟩
  · exact hk1.old i hi fun b B p g1 g2 => let ⟨C, hC⟩ := himg b B g1; hfar' _ C p hC (h0some b p g2).2
  · obtain ⟨q, o, g1, _, _, g⟩ := two c C hc
    rw [hp] at g1; cases g1
    rcases g with ⟨b, B, k1, k2, k3⟩ | ⟨k1, k2, k3, k4⟩
    · obtain ⟨b0, B0, p0, m1, m2, m3⟩ := hk1.own b B p k1 k2 hlt
      obtain ⟨C0, hC0⟩ := himg b0 B0 m1
      exact ⟨ren S b0, C0, p0, hC0, (h0some b0 p0 m2).2, m3⟩
    · exact ⟨c, C, p, k1, k3, rfl⟩
end Go.Ev
