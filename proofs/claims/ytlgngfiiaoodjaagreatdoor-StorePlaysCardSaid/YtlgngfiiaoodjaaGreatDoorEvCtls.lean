/- The evaluator's frames, calls and regions in order, against the machine's steps. -/
import Derived.Test.YtlgngfiiaoodjaaGreatDoorEvOpers
import Derived.RangeFuncIn
import Derived.Defers
import Derived.RangeFuncLeaves
set_option linter.unusedVariables false
set_option linter.unusedSimpArgs false
/- The evaluator's frames, calls and regions in order, against the machine's steps. -/
namespace Go.Ev
/-! ### deferred calls -/
inductive DRel (φ : Phi) : ADef → Deferred → Prop
  | call (f : FuncId) {first args cap : List AV} {F A : Array Value} {C : Array Value} (hf : VRL φ first F.toList) (ha : VRL φ args A.toList) (hc : VRL φ cap C.toList) :
      DRel φ (.call f first args cap) { target := .fn (.func f) C, args := F ++ A }
  | coll {b : Pos} {p : Pl} (h : φ b = some p) : DRel φ (.coll b) { target := .collected p.blk, args := #[] }
inductive DRL (φ : Phi) : List ADef → List Deferred → Prop
  | nil : DRL φ [] []
  | cons {d : ADef} {x : Deferred} {l : List ADef} {m : List Deferred} (h : DRel φ d x) (h' : DRL φ l m) : DRL φ (d :: l) (x :: m)
theorem DRel.mono {φ φ' : Phi} (hφ : φ.le φ') {d : ADef} {x : Deferred} (h : DRel φ d x) : DRel φ' d x := by
  cases h with
  | call f hf ha hc => exact .call f (hf.mono hφ) (ha.mono hφ) (hc.mono hφ)
  | coll h => exact .coll (hφ.at_ _ _ h)
theorem DRL.mono {φ φ' : Phi} (hφ : φ.le φ') {l : List ADef} {m : List Deferred} (h : DRL φ l m) : DRL φ' l m := by
  induction h with
  | nil => exact .nil
  | cons h _ ih => exact .cons (h.mono hφ) ih
/-! ### kinds of frames -/
def KdOk (φ : Phi) (kd : Kd) (b : Frame) : Prop :=
  match kd with
  | .normal => b.kind = .normal ∧ b.roundOf = none
  | .deferred => b.kind = .deferred ∧ b.roundOf = none
  | .round l => b.kind = .normal ∧ ∃ p, φ l = some p ∧ b.roundOf = some p.blk
theorem KdOk.mono {φ φ' : Phi} (hφ : φ.le φ') {kd : Kd} {b : Frame} (h : KdOk φ kd b) : KdOk φ' kd b := by
  cases kd with
  | normal => exact h
  | deferred => exact h
  | round l => obtain ⟨h1, p, hp, h2⟩ := h; exact ⟨h1, p, hφ.at_ _ _ hp, h2⟩
/-- the frame has come to where its results are read -/
structure Left (P : Program) (fn : FuncId) (kind : CallKind) (fr : Frame) (x : Value) (w : World) : Prop where
  hfn : fr.fn = fn
  hkind : fr.kind = kind
  hmode : fr.mode = .returning
  hdefers : fr.defers = []
  res : ∃ f, P.funcs[fn]? = some f ∧ (results f fr.tmps).run P w = .ok x w
/-- who has called -/
def CsOk (kd : Kd) (cs : List Frame) : Prop :=
  match kd with
  | .deferred => ∃ c cs', cs = c :: cs' ∧ c.mode = .returning
  | _ => True
/-- from m the frame comes to its end, with a value and a world of which R holds -/
def Goes (P : Program) (kd : Kd) (fn : FuncId) (kind : CallKind) (m : List Frame → Machine) (R : Value → World → Prop) : Prop :=
  match kd with
  | .round _ => ∀ c cs, ∃ x w', R x w' ∧ Steps P (m (c :: cs)) (lone (c.finish x) cs w')
  | kd => ∀ cs, CsOk kd cs → ∃ x w' fr', R x w' ∧ Steps P (m cs) (lone fr' cs w') ∧ Left P fn kind fr' x w'
section
variable {P : Program} {E : Env}
theorem Goes.step {kd : Kd} {fn : FuncId} {kind : CallKind} {m m' : List Frame → Machine} {R : Value → World → Prop} (hs : ∀ cs, Steps P (m cs) (m' cs)) (h : Goes P kd fn kind m' R) : Goes P kd fn kind m R := by
  cases kd with
  | normal => intro cs hcs; obtain ⟨x, w', fr', h1, h2, h3⟩ := h cs hcs; exact ⟨x, w', fr', h1, (hs cs).trans h2, h3⟩
  | deferred => intro cs hcs; obtain ⟨x, w', fr', h1, h2, h3⟩ := h cs hcs; exact ⟨x, w', fr', h1, (hs cs).trans h2, h3⟩
  | round l => intro c cs; obtain ⟨x, w', h1, h2⟩ := h c cs; exact ⟨x, w', h1, (hs _).trans h2⟩
/-- the way on may depend on the callers -/
theorem Goes.dep {kd : Kd} {fn : FuncId} {kind : CallKind} {m : List Frame → Machine} {R : Value → World → Prop}
    (h : ∀ cs, CsOk kd cs → ∃ m' : List Frame → Machine, Steps P (m cs) (m' cs) ∧ Goes P kd fn kind m' R) : Goes P kd fn kind m R := by
  cases kd with
  | normal => intro cs hcs; obtain ⟨m', hs, hg⟩ := h cs hcs; obtain ⟨x, w', fr', h1, h2, h3⟩ := hg cs hcs; exact ⟨x, w', fr', h1, hs.trans h2, h3⟩
  | deferred => intro cs hcs; obtain ⟨m', hs, hg⟩ := h cs hcs; obtain ⟨x, w', fr', h1, h2, h3⟩ := hg cs hcs; exact ⟨x, w', fr', h1, hs.trans h2, h3⟩
  | round l => intro c cs; obtain ⟨m', hs, hg⟩ := h (c :: cs) trivial; obtain ⟨x, w', h1, h2⟩ := hg c cs; exact ⟨x, w', h1, hs.trans h2⟩
theorem Goes.mono {kd : Kd} {fn : FuncId} {kind : CallKind} {m : List Frame → Machine} {R R' : Value → World → Prop} (h : Goes P kd fn kind m R) (hr : ∀ x w, R x w → R' x w) : Goes P kd fn kind m R' := by
  cases kd with
  | normal => intro cs hcs; obtain ⟨x, w', fr', h1, h2, h3⟩ := h cs hcs; exact ⟨x, w', fr', hr _ _ h1, h2, h3⟩
  | deferred => intro cs hcs; obtain ⟨x, w', fr', h1, h2, h3⟩ := h cs hcs; exact ⟨x, w', fr', hr _ _ h1, h2, h3⟩
  | round l => intro c cs; obtain ⟨x, w', h1, h2⟩ := h c cs; exact ⟨x, w', hr _ _ h1, h2⟩
/-- what a run ends with -/
def Post (E : Env) (φ : Phi) (H : Hp) (w : World) (v : AV) (H' : Hp) (x : Value) (w' : World) : Prop := ∃ φ', VR φ' v x ∧ HR E.ng φ' H' w' ∧ Keep φ H w φ' H' w'
theorem Post.from {φ φ₁ : Phi} {H H₁ H' : Hp} {w w₁ w' : World} {v : AV} {x : Value} (hk : Keep φ H w φ₁ H₁ w₁) (h : Post E φ₁ H₁ w₁ v H' x w') : Post E φ H w v H' x w' := by
  obtain ⟨φ', h1, h2, h3⟩ := h
  exact ⟨φ', h1, h2, hk.trans h3⟩
/-- the evaluator's runs are the machine's -/
def RunOk (P : Program) (E : Env) (run : RunT) : Prop :=
  ∀ (fr : Fr) (T : Tr AV) (ds : List ADef) (todo : List Item) (H : Hp) (v : AV) (H' : Hp), run fr T ds todo H = .ok v H' →
    ∀ (φ : Phi) (b : Frame) (a : Act) (w : World), b.fn = fr.fid → KdOk φ fr.kd b → TR φ fr.n T a.tmps → DRL φ ds a.defers → HR E.ng φ H w → GL E φ H w →
      Goes P fr.kd b.fn b.kind (fun cs => lone (b.atR a todo) cs w) (Post E φ H w v H')
/-- functions without a body -/
def ExtOk (P : Program) (E : Env) (f : FuncId) (x : Ext) : Prop :=
  ∀ (args : List AV) (A : Array Value) (φ : Phi) (H : Hp) (w : World) (v : AV) (H' : Hp), VRL φ args A.toList → HR E.ng φ H w → GL E φ H w → extR E.gl x args H = .ok v H' →
    ∃ y w', (callFunc f A).run P w = .ok (.value y) w' ∧ Post E φ H w v H' y w'
/-- calls of which the end is known -/
def SumOk (P : Program) (E : Env) (f : FuncId) (s : Sum) : Prop :=
  ∀ (args : List AV) (A : Array Value) (φ : Phi) (H : Hp) (w : World) (v : AV) (H' : Hp), allN2 (avEq 6) s.args args = true → VRL φ args A.toList → HR E.ng φ H w → GL E φ H w → sumR s H = .ok v H' →
    (callFunc f A).run P w = .ok (.enter f A) w ∧ Goes P .normal f .normal (fun cs => lone (Frame.enter P f A .normal) cs w) (Post E φ H w v H')
/-- calls of which a law tells the end -/
def CtrOk (P : Program) (E : Env) (f : FuncId) (c : Ctr) : Prop :=
  ∀ (args : List AV) (A : Array Value) (φ : Phi) (H : Hp) (w : World) (v : AV) (H' : Hp), VRL φ args A.toList → HR E.ng φ H w → GL E φ H w → ctrR E.gl c args H = .ok v H' →
    (callFunc f A).run P w = .ok (.enter f A) w ∧ Goes P .normal f .normal (fun cs => lone (Frame.enter P f A .normal) cs w) (Post E φ H w v H')
structure EnvOk2 (P : Program) (E : Env) : Prop extends EnvOk P E where
  ctr : ∀ f c, E.ctr f = some c → CtrOk P E f c
  ext : ∀ f x, E.ext f = some x → ExtOk P E f x
  sums : ∀ f s, s ∈ E.sums f → SumOk P E f s
theorem argsK_eq {X : Type} (K : Tr AV → X) : ∀ l : List AV, ∃ T, argsK l K = K T ∧ ∀ t, Tr.get (posOf t) T = l[t]? := by
  have key : ∀ (l : List AV) (i : Nat) (T : Tr AV), ∃ T', (lrec (X := Nat → Tr AV → X) (fun _ T => K T) (fun v _ ih i T => Tr.setK (some v) (posOf i) T fun T => ih () (Nat.succ i) T) l i T) = K T' ∧
      ∀ t, Tr.get (posOf t) T' = if i ≤ t ∧ t < i + l.length then l[t - i]? else Tr.get (posOf t) T := by
    intro l
    induction l with
    | nil => intro i T; exact ⟨T, rfl, fun t => by rw [if_neg]; simp only [List.length_nil]; omega⟩
    | cons v l ih =>
      intro i T
      obtain ⟨T', h1, h2⟩ := ih (i + 1) (Tr.set (some v) (posOf i) T)
      refine ⟨T', ?_, fun t => ?_⟩
      · show Tr.setK (some v) (posOf i) T _ = _
        rw [Tr.setK_eq]; exact h1
      · rw [h2]
        simp only [List.length_cons]
        by_cases h3 : i + 1 ≤ t ∧ t < i + 1 + l.length
        · rw [if_pos h3, if_pos (by omega), show t - i = (t - (i + 1)) + 1 by omega, List.getElem?_cons_succ]
        · rw [if_neg h3, Tr.get_set]
          by_cases h4 : t = i
          · subst h4; rw [if_pos rfl, if_pos (by omega), Nat.sub_self]; rfl
          · rw [if_neg (fun h => h4 (posOf_inj h)), if_neg (by omega)]
  intro l
  obtain ⟨T, h1, h2⟩ := key l 0 .e
  refine ⟨T, h1, fun t => ?_⟩
  rw [h2]
  by_cases h3 : t < l.length
  · rw [if_pos (by omega), Nat.sub_zero]
  · rw [if_neg (by omega), Tr.get_e, List.getElem?_eq_none (by omega)]
theorem findSum_mem {l : List Sum} {args : List AV} {s : Sum} (h : findSum l args = some s) : s ∈ l ∧ allN2 (avEq 6) s.args args = true := by
  induction l with
  | nil => cases h
  | cons a l ih =>
    change (match allN2 (avEq 6) a.args args with | true => some a | false => findSum l args) = some s at h
    split at h
    · next h1 => cases h; exact ⟨List.mem_cons_self .., h1⟩
    · obtain ⟨h1, h2⟩ := ih h; exact ⟨List.mem_cons_of_mem _ h1, h2⟩
theorem callFunc_enter {f : FuncId} {fn : Func} {c : Code} {A : Array Value} {w : World} (hf : P.funcs[f]? = some fn) (hn : fn.name ≠ "runtime.NumGoroutine") (hb : fn.body = some c) :
    (callFunc f A).run P w = .ok (.enter f A) w := by
  simp [callFunc, hf, hn, hb]
theorem enter_atR {f : FuncId} {fn : Func} {c : Code} {A : Array Value} {kind : CallKind} (hf : P.funcs[f]? = some fn) (hb : fn.body = some c) (b : Frame) (h1 : b.fn = f) (h2 : b.kind = kind) (h3 : b.roundOf = none) :
    Frame.enter P f A kind = b.atR { tmps := A ++ Array.replicate (fn.ntmps - A.size) undef, defers := [] } [.code c] := by
  simp [Frame.enter, Frame.atR, hf, hb, h1, h2, h3]
/-- a call by its number -/
theorem callR_ok (hE : EnvOk2 P E) {run : RunT} (hrun : RunOk P E run) {kd : Kd} {kind : CallKind} (hkd : kd = .normal ∧ kind = .normal ∨ kd = .deferred ∧ kind = .deferred) {f : FuncId} {args : List AV} {H : Hp} {v : AV} {H' : Hp} (h : callR E run kd f args H = .ok v H')
    {φ : Phi} {A : Array Value} {w : World} (hA : VRL φ args A.toList) (hH : HR E.ng φ H w) (hG : GL E φ H w) :
    (kd = .normal ∧ ∃ y w', (callFunc f A).run P w = .ok (.value y) w' ∧ Post E φ H w v H' y w') ∨
    ((callFunc f A).run P w = .ok (.enter f A) w ∧ Goes P kd f kind (fun cs => lone (Frame.enter P f A kind) cs w) (Post E φ H w v H')) := by
  unfold callR at h
  split at h
  · next s hs =>
    split at hs
    · obtain ⟨h1, h2⟩ := findSum_mem hs
      rcases hkd with ⟨h3, rfl⟩ | ⟨h3, _⟩
      · exact .inr (hE.sums _ _ h1 _ _ _ _ _ _ _ h2 hA hH hG h)
      · cases h3
    · cases hs
  · next hs =>
    clear hs
    split at h
    · next v1 H1 hc =>
      cases h
      split at hc
      · rcases hkd with ⟨h3, rfl⟩ | ⟨h3, _⟩
        · split at hc
          · next c he => exact .inr (hE.ctr _ _ he _ _ _ _ _ _ _ hA hH hG hc)
          · cases hc
        · cases h3
      · cases hc
    next hc =>
    clear hc
    split at h
    case h_2 => cases h
    next fn hf =>
    obtain ⟨hf, hn⟩ := hE.fns _ _ hf
    split at h
    · next c hb =>
      right
      refine ⟨callFunc_enter hf hn hb, ?_⟩
      obtain ⟨T, hT, hTg⟩ := argsK_eq (fun T => run ⟨f, fn.ntmps, kd⟩ T [] [.code c] H) args
      rw [hT] at h
      have hb0 := fun b h1 h2 h3 => enter_atR (P := P) (A := A) (kind := kind) hf hb b h1 h2 h3
      generalize hbb : ({ fn := f, tmps := #[], todo := [], defers := [], mode := .run, kind := kind } : Frame) = b
      have e1 : b.fn = f := by subst hbb; rfl
      have e2 : b.kind = kind := by subst hbb; rfl
      have e3 : b.roundOf = none := by subst hbb; rfl
      rw [hb0 b e1 e2 e3]
      have hTR : TR φ fn.ntmps T (A ++ Array.replicate (fn.ntmps - A.size) undef) := by
        refine ⟨by simp only [Array.size_append, Array.size_replicate]; omega, fun t u hu => ?_⟩
        rw [hTg] at hu
        obtain ⟨x, hx, hr⟩ := hA.get hu
        have hlt : t < A.size := by have := (List.getElem?_eq_some_iff.1 hx).1; simpa using this
        exact ⟨x, by rw [Array.getElem?_append_left hlt, ← Array.getElem?_toList]; exact hx, hr⟩
      have hk : KdOk φ kd b := by
        rcases hkd with ⟨rfl, hk⟩ | ⟨rfl, hk⟩
        · exact ⟨by rw [e2]; exact hk, e3⟩
        · exact ⟨by rw [e2]; exact hk, e3⟩
      have := hrun ⟨f, fn.ntmps, kd⟩ T [] [.code c] H v H' h φ b { tmps := A ++ Array.replicate (fn.ntmps - A.size) undef, defers := [] } w e1 hk hTR .nil hH hG
      rw [e1, e2] at this
      exact this
    · split at h
      · next x hx =>
        left
        refine ⟨rfl, hE.ext _ _ hx _ _ _ _ _ _ _ hA hH hG h⟩
      · cases h
end
end Go.Ev
/- The evaluator's operations within a frame, against the machine's steps. -/
namespace Go.Ev
section
variable {P : Program} {E : Env}
/-! ### is an operation wanted? -/
/-- the guard of a resolved operation is the operation's own -/
def GuardOk (ops : Array Oper) (o : Oper) (g : Option (Pos × Bool)) : Prop :=
  match o.guard with
  | none => g = none
  | some (j, b) => ∃ t, (ops[j]?).bind (·.dst) = some t ∧ g = some (posOf t, b)
structure COk (P : Program) (E : Env) (n : Nat) (ops : Array Oper) (o : Oper) (c : CO) : Prop where
  op : CopOk P E o c.op
  dst : c.dst = o.dst.map posOf
  lt : ∀ t, o.dst = some t → t < n
  guard : GuardOk ops o c.guard
theorem cOper_ok (hE : EnvOk P E) {n : Nat} {ops : Array Oper} {o : Oper} {c : CO} (h : cOper E n ops o = some c) : COk P E n ops o c := by
  obtain ⟨k, hk, h⟩ := ob_some.1 h
  have hop := cop_ok (P := P) hE hk
  have hd : (match o.dst with | some t => some (posOf t) | none => none) = o.dst.map posOf := by cases o.dst <;> rfl
  have hlt : (match o.dst with | some t => Nat.blt t n | none => true) = true → ∀ t, o.dst = some t → t < n := by
    intro hh t ht; rw [ht] at hh; exact lt_of_blt hh
  split at h
  · next h1 h2 =>
    cases h
    exact ⟨hop, hd, hlt h1, by unfold GuardOk; rw [h2]⟩
  · next j b h1 h2 =>
    split at h
    · next t ht =>
      cases h
      exact ⟨hop, hd, hlt h1, by unfold GuardOk; rw [h2]; exact ⟨t, ht, rfl⟩⟩
    · cases h
  · cases h
theorem wanted_ok {φ : Phi} {n : Nat} {T : Tr AV} {a : Act} {ops : Array Oper} {o : Oper} {g : Option (Pos × Bool)} {r : Bool} (hT : TR φ n T a.tmps) (hg : GuardOk ops o g) (h : wantedV g T = some r) :
    Region.wanted o (yielded ops a.tmps) = r := by
  unfold GuardOk at hg
  unfold Region.wanted
  split at hg
  · next h1 => subst hg; cases h; rw [h1]
  · next j b h1 =>
    obtain ⟨t, ht, rfl⟩ := hg
    rw [h1]
    unfold wantedV at h
    simp only at h ⊢
    split at h
    · next c hc =>
      cases h
      obtain ⟨x, hx, hr⟩ := hT.get t _ hc
      cases hr
      have : yielded ops a.tmps j = some c := by simp [yielded, ht, hx]
      rw [this]
      cases b <;> cases c <;> rfl
    · cases h
    · next v hn ha hc =>
      cases h
      obtain ⟨x, hx, hr⟩ := hT.get t _ hc
      have : yielded ops a.tmps j = none := by
        cases hr <;> first
          | exact absurd rfl (hn _)
          | exact absurd rfl ha
          | simp [yielded, ht, hx]
      rw [this]; rfl
    · cases h
/-! ### the slot of a result -/
def setT (d : Option Pos) (v : AV) (T : Tr AV) : Tr AV := match d with | some p => Tr.set (some v) p T | none => T
theorem setO_eq (d : Option Pos) (v : AV) (T : Tr AV) (K : Tr AV → ORet) : setO d v T K = K (setT d v T) := by
  cases d with
  | none => rfl
  | some p => exact Tr.setK_eq _ _ _ _
theorem put_TR {φ : Phi} {n : Nat} {T : Tr AV} {a : Act} {o : Oper} {c : CO} {ops : Array Oper} (hc : COk P E n ops o c) (hT : TR φ n T a.tmps) {v : AV} {x : Value} (hv : VR φ v x) :
    TR φ n (setT c.dst v T) (a.put o.dst x).tmps := by
  rw [hc.dst]
  cases hd : o.dst with
  | none => exact hT
  | some t => exact hT.set (hc.lt t hd) hv
theorem put_defers (a : Act) (d : Option Tmp) (x : Value) : (a.put d x).defers = a.defers := by cases d <;> rfl
/-! ### one operation: the machine's step -/
section
variable {b : Frame} {a : Act} {k : List Item} {cs : List Frame} {w w' : World} {ops : Array Oper} {i : Nat} {rest : List Nat} {o : Oper}
theorem fin_at (ho : ops[i]? = some o) (v : Value) : (b.atR a (.inRegion ops (i :: rest) :: k)).finish v = b.atR (a.put o.dst v) (.inRegion ops rest :: k) := by
  rw [Frame.finish_atR, ho]; rfl
theorem op_yields (ho : ops[i]? = some o) (hw : Region.wanted o (yielded ops a.tmps) = true) {n : Next} {x : Value} (h : (o.semAt b.roundOf a.eval).run P w = .ok n w') (hy : Yields n x) :
    Steps P (lone (b.atR a (.inRegion ops (i :: rest) :: k)) cs w) (lone (b.atR (a.put o.dst x) (.inRegion ops rest :: k)) cs w') := by
  refine .one (step_lone_go ?_)
  rw [stepGR_op ho hw, ← fin_at ho]
  rcases hy with rfl | ⟨rfl, rfl⟩ <;> simp [stepG.apply, h]
theorem op_enter (ho : ops[i]? = some o) (hw : Region.wanted o (yielded ops a.tmps) = true) {f : FuncId} {A : Array Value} (h : (o.semAt b.roundOf a.eval).run P w = .ok (.enter f A) w') :
    Steps P (lone (b.atR a (.inRegion ops (i :: rest) :: k)) cs w) (lone (Frame.enter P f A .normal) (b.atR a (.inRegion ops (i :: rest) :: k) :: cs) w') := by
  refine .one (step_lone_go ?_)
  rw [stepGR_op ho hw]
  simp [stepG.apply, h, Frame.atR]
theorem op_round (ho : ops[i]? = some o) (hw : Region.wanted o (yielded ops a.tmps) = true) {l : Nat} {f : FuncId} {tmps : Array Value} {assign body : Code} (h : (o.semAt b.roundOf a.eval).run P w = .ok (.round l f tmps assign body) w') :
    Steps P (lone (b.atR a (.inRegion ops (i :: rest) :: k)) cs w) (lone (Frame.round l f tmps assign body .normal) (b.atR a (.inRegion ops (i :: rest) :: k) :: cs) w') := by
  refine .one (step_lone_go ?_)
  rw [stepGR_op ho hw]
  simp [stepG.apply, h, Frame.atR]
theorem op_defer (ho : ops[i]? = some o) (hw : Region.wanted o (yielded ops a.tmps) = true) {d : Deferred} (h : (o.semAt b.roundOf a.eval).run P w = .ok (.defer d) w') :
    Steps P (lone (b.atR a (.inRegion ops (i :: rest) :: k)) cs w) (lone (b.atR ({ a with defers := d :: a.defers }.put o.dst undef) (.inRegion ops rest :: k)) cs w') := by
  refine .one (step_lone_go ?_)
  have hf := fin_at (b := b) (a := { a with defers := d :: a.defers }) (k := k) (rest := rest) ho undef
  rw [stepGR_op ho hw, ← hf]
  simp [stepG.apply, h, Frame.atR]
theorem op_recover (ho : ops[i]? = some o) (hw : Region.wanted o (yielded ops a.tmps) = true) (hk : b.kind = .deferred) (hr : b.roundOf = none) {c : Frame} (hc : c.mode = .returning) (h : (o.semAt b.roundOf a.eval).run P w = .ok .recover w') :
    Steps P (lone (b.atR a (.inRegion ops (i :: rest) :: k)) (c :: cs) w) (lone (b.atR (a.put o.dst .nilIface) (.inRegion ops rest :: k)) (c :: cs) w') := by
  refine .one (step_lone_go ?_)
  rw [stepGR_op ho hw, ← fin_at ho]
  rw [hr] at h
  simp [stepG.apply, h, Frame.atR, hr, tryRecover, hk, hc]
theorem op_skip (ho : ops[i]? = some o) (hw : Region.wanted o (yielded ops a.tmps) = false) :
    Steps P (lone (b.atR a (.inRegion ops (i :: rest) :: k)) cs w) (lone (b.atR (a.put o.dst undef) (.inRegion ops rest :: k)) cs w) := by
  have := stepR_op_skip (P := P) (b := b) (a := a) (k := k) (cs := cs) (w := w) (ops := ops) (i := i) (rest := rest) (by rw [ho]; exact hw)
  rw [ho] at this
  exact .one this
end
/-- what an operation of a frame leaves -/
def ActOut (P : Program) (E : Env) (φ : Phi) (H : Hp) (w : World) (v : AV) (H' : Hp) (m : Machine) (m' : Value → World → Machine) : Prop :=
  ∃ φ' x w', Steps P m (m' x w') ∧ VR φ' v x ∧ HR E.ng φ' H' w' ∧ Keep φ H w φ' H' w'
theorem paramsK_ok {nt : Nat} {φ : Phi} {K : Tr AV → Ret} {v : AV} {H' : Hp} : ∀ (ps : List Tmp) (args : List AV) (A : List Value) (T : Tr AV) (tmps : Array Value), paramsK nt ps args T K = .ok v H' → VRL φ args A → TR φ nt T tmps →
    ∃ T', K T' = .ok v H' ∧ ps.length = A.length ∧ TR φ nt T' ((ps.zip A).foldl (fun (tmps : Array Value) (x : Tmp × Value) => tmps.setIfInBounds x.1 x.2) tmps)
  | [], [], _, T, tmps, h, .nil, hT => ⟨T, h, rfl, hT⟩
  | [], _ :: _, _, _, _, h, _, _ => by cases h
  | t :: ps, [], _, _, _, h, _, _ => by cases h
  | t :: ps, u :: args, _, T, tmps, h, .cons hu hA, hT => by
    change (match u :: args, Nat.blt t nt with | a :: as, true => Tr.setK (some a) (posOf t) T fun T => paramsK nt ps as T K | _, _ => .no) = _ at h
    split at h
    · next as heq hb =>
      cases heq
      rw [Tr.setK_eq] at h
      obtain ⟨T', h1, h2, h3⟩ := paramsK_ok ps args _ _ _ h hA (hT.set (lt_of_blt hb) hu)
      exact ⟨T', h1, by simp [h2], h3⟩
    · cases h
theorem loop_ok {φ : Phi} {H : Hp} {w : World} {ng : Nat} (hH : HR ng φ H w) {b : Pos} {st : LoopState} {pend : Option Code} {fn : FuncId} {nt : Nat} {T : Tr AV} {ps : List Tmp} {assign body : Code} {d : Pos} {p : Pl} (hp : φ b = some p)
    (h : Tr.get b H.t = some (.loop st pend fn nt T ps assign body d)) :
    ∃ (tmps : Array Value) (PS : Array Tmp) (q : Pl), ps = PS.toList ∧ w.heap[p.blk]? = some (.loop { state := st, pending := pend, fn, tmps, params := PS, assign, body, defers := q.blk }) ∧ TR φ nt T tmps ∧ φ d = some q := by
  obtain ⟨q, o, hq, ho, hB⟩ := hH.blk _ _ h
  rw [hp] at hq; cases hq
  generalize hBe : Blk.loop st pend fn nt T ps assign body d = B at hB
  cases hB <;> cases hBe
  next ht hd => exact ⟨_, _, _, rfl, ho, ht, hd⟩
theorem getLoop_run {w : World} {l : Nat} {r : Loop} (h : w.heap[l]? = some (.loop r)) : (Instr.getLoop l).run P w = .ok r w := by
  simp [Instr.getLoop, getObj, Sem.run, h]
theorem call_sem {o : Oper} {c : Call} {X : Operand} (ho : o.op = .call c) (hc : c.callee = .value X) (ro : Option Nat) (ρ : Operand → Value) (w : World) :
    (o.semAt ro ρ).run P w = ((Deferred.ofValue (ρ X) (c.args.map ρ)).run P w).andThen fun d w' => (invoke d.target d.args).run P w' := by
  rw [Oper.semAt_eq _ _ _ (fun c' h => by rw [ho] at h; cases h)]
  simp [execOp, ho, resolve, hc]
theorem args_empty (A : Array Value) : #[] ++ A ++ #[] = A := by simp
/-- a call, from the callee's end back to the caller -/
theorem back_ok {φ : Phi} {H : Hp} {w w₁ : World} {v : AV} {H' : Hp} {f : FuncId} {A : Array Value} {b : Frame} {a : Act} {k : List Item} {cs : List Frame} {ops : Array Oper} {i : Nat} {rest : List Nat} {o : Oper} (ho : ops[i]? = some o)
    {m : Machine} (hs : Steps P m (lone (Frame.enter P f A .normal) (b.atR a (.inRegion ops (i :: rest) :: k) :: cs) w₁))
    (hg : Goes P .normal f .normal (fun cs => lone (Frame.enter P f A .normal) cs w₁) (Post E φ H w v H')) :
    ActOut P E φ H w v H' m (fun x w' => lone (b.atR (a.put o.dst x) (.inRegion ops rest :: k)) cs w') := by
  obtain ⟨x, w', fr', ⟨φ', h1, h2, h3⟩, h4, h5⟩ := hg (b.atR a (.inRegion ops (i :: rest) :: k) :: cs) trivial
  refine ⟨φ', x, w', (hs.trans h4).trans ?_, h1, h2, h3⟩
  obtain ⟨fn, hf, hr⟩ := h5.res
  have := step_leave_returned (P := P) (fr := fr') (c := b.atR a (.inRegion ops (i :: rest) :: k)) (cs := cs) (w := w') (v := x) ⟨h5.hmode, h5.hdefers, h5.hkind, fn, by rw [h5.hfn]; exact hf, hr⟩
  rw [fin_at ho] at this
  exact .one this
theorem invoke_func (f : FuncId) (C A : Array Value) : invoke (.fn (.func f) C) A = callFunc f (A ++ C) := rfl
theorem invoke_yield (l : Nat) (C A : Array Value) : invoke (.fn (.yield l) C) A = Instr.yield l A := rfl
/-- an operation that is wanted, and is no defer and no recover -/
theorem actR_ok (hE : EnvOk2 P E) {run : RunT} (hrun : RunOk P E run) {n : Nat} {ops : Array Oper} {o : Oper} {c : CO} (hc : COk P E n ops o c) {T : Tr AV} {H : Hp} {v : AV} {H' : Hp} (h : actR E run c.op T H = .ok v H')
    {φ : Phi} {b : Frame} {a : Act} {w : World} {i : Nat} {rest : List Nat} {k : List Item} {cs : List Frame} (ho : ops[i]? = some o) (hw : Region.wanted o (yielded ops a.tmps) = true)
    (hT : TR φ n T a.tmps) (hH : HR E.ng φ H w) (hG : GL E φ H w) :
    ActOut P E φ H w v H' (lone (b.atR a (.inRegion ops (i :: rest) :: k)) cs w) (fun x w' => lone (b.atR (a.put o.dst x) (.inRegion ops rest :: k)) cs w') := by
  have hop := hc.op
  -- operations that end at once
  have now : (∀ c', o.op ≠ .defer c') → ∀ φ' x nx w', (execOp a.eval o).run P w = .ok nx w' → Yields nx x → VR φ' v x → HR E.ng φ' H' w' → Keep φ H w φ' H' w' →
      ActOut P E φ H w v H' (lone (b.atR a (.inRegion ops (i :: rest) :: k)) cs w) (fun x w' => lone (b.atR (a.put o.dst x) (.inRegion ops rest :: k)) cs w') := by
    intro hnd φ' x nx w' h1 h2 h3 h4 h5
    exact ⟨φ', x, w', op_yields ho hw (by rw [Oper.semAt_eq _ _ _ hnd]; exact h1) h2, h3, h4, h5⟩
  have nod : ∀ {nx w'}, (execOp a.eval o).run P w = .ok nx w' → (∃ x, Yields nx x) → ∀ c', o.op ≠ .defer c' := by
    intro nx w' h1 ⟨x, hy⟩ c' hd
    simp only [execOp, hd, Sem.run_bind] at h1
    cases hr : (resolve a.eval c' o.type).run P w with
    | ok d w1 => rw [hr] at h1; simp at h1; rcases hy with rfl | ⟨rfl, _⟩ <;> cases h1.1
    | halt hh w1 => rw [hr] at h1; simp at h1
  unfold actR at h
  split at h
  · next f hop' =>
    rw [hop'] at hop
    split at h
    · next u hu =>
      cases h
      obtain ⟨x, hx, hr⟩ := hop φ n T a w _ hT hH.gr hu
      exact now (nod hx ⟨_, yields_value _⟩) φ x _ w hx (yields_value _) hr hH (Keep.refl _ _ _)
    · cases h
  · next f hop' =>
    rw [hop'] at hop
    split at h
    · next u hu =>
      cases h
      obtain ⟨x, hx, hr⟩ := hop φ n T _ a w _ hT hH hG hu
      exact now (nod hx ⟨_, yields_value _⟩) φ x _ w hx (yields_value _) hr hH (Keep.refl _ _ _)
    · cases h
  · next f g hh hop' =>
    rw [hop'] at hop
    split at h
    · next u hu =>
      cases h
      obtain ⟨x, hx, hr⟩ := hop.1.1 φ n T a w _ hT hH.gr hu
      exact now (nod hx ⟨_, yields_value _⟩) φ x _ w hx (yields_value _) hr hH (Keep.refl _ _ _)
    · obtain ⟨φ', w', nx, x, h1, h2, h3, h4, h5⟩ := hop.1.2 φ n T H a w v H' hT hH hG h
      exact now (nod h1 ⟨_, h2⟩) φ' x nx w' h1 h2 h3 h4 h5
  · next f g hop' =>
    rw [hop'] at hop
    split at h
    · next B u hl hu =>
      rw [Hp.newK_eq] at h
      cases h
      obtain ⟨l, c', e, mk, rfl, h1, h2, h3⟩ := hop φ n T a w _ hT hH.gr hl
      have hnx : φ H.nx = none := hH.new _ (Nat.le_refl _)
      have hle := Phi.le_upd hnx ⟨w.heap.size, 0, c'.size, 0, 0⟩
      have hB : BR (φ.upd H.nx ⟨w.heap.size, 0, c'.size, 0, 0⟩) ⟨w.heap.size, 0, c'.size, 0, 0⟩ (.cells (e + 1) l) (.cells c' e) := by
        refine .cells (by rw [h2.length]; simp) (by simp) (fun i v hv => ?_) (fun i _ => by simp) (fun t h => ⟨rfl, rfl, Nat.succ.inj h⟩)
        obtain ⟨x, hx, hr⟩ := h2.get hv
        exact ⟨x, by simp only [Nat.zero_add]; rw [← Array.getElem?_toList]; exact hx, hr.mono hle⟩
      obtain ⟨k1, k2⟩ := hH.new_block (w' := { w with heap := w.heap.push (.cells c' e) }) (p := ⟨w.heap.size, 0, c'.size, 0, 0⟩) rfl hB rfl rfl rfl rfl
      exact now (nod h1 ⟨_, yields_value _⟩) _ _ _ _ h1 (yields_value _) (h3 _ H.nx ⟨w.heap.size, 0, c'.size, 0, 0⟩ _ hu (Phi.upd_self _ _ _) rfl) k1 k2
    · cases h
  · next f hop' =>
    rw [hop'] at hop
    split at h
    · next b' ofs vs hvs =>
      split at h
      · next B hB =>
        rw [Hp.setK_eq] at h
        cases h
        obtain ⟨pl, l, hb, hle, rfl⟩ := overB_some hB
        obtain ⟨p, xs, hp, hr, h1, hrun'⟩ := hop φ n T a b' ofs vs hT hH.gr hvs
        obtain ⟨w', hst, hH', hK⟩ := put_ok (P := P) hH hb hp hr h1 hle
        have hx : (execOp a.eval o).run P w = .ok .skip w' := by rw [hrun', hst]; rfl
        exact now (nod hx ⟨_, yields_skip⟩) φ undef _ w' hx yields_skip (undef_VR _) hH' hK
      · cases h
    · cases h
  · next g hop' =>
    rw [hop'] at hop
    obtain ⟨φ', w', nx, x, h1, h2, h3, h4, h5⟩ := hop φ n T H a w v H' hT hH hG h
    exact now (nod h1 ⟨_, h2⟩) φ' x nx w' h1 h2 h3 h4 h5
  · next f xs hop' =>
    rw [hop'] at hop
    obtain ⟨cl, hcl, hce, hxs⟩ := hop
    split at h
    case h_2 => cases h
    next l hl =>
    have hA := opds_ok hT hH.gr hxs hl
    have hsem : (o.semAt b.roundOf a.eval).run P w = (callFunc f (cl.args.map a.eval)).run P w := by
      rw [call_sem hcl hce]
      show ((Deferred.ofValue (.func (.func f) #[] #[]) (cl.args.map a.eval)).run P w).andThen _ = _
      simp [Deferred.ofValue, invoke_func]
    rcases callR_ok hE hrun (.inl ⟨rfl, rfl⟩) h hA hH hG with ⟨_, y, w', h1, φ', h2, h3, h4⟩ | ⟨h1, h2⟩
    · exact ⟨φ', y, w', op_yields ho hw (by rw [hsem]; exact h1) (yields_value _), h2, h3, h4⟩
    · exact back_ok ho (op_enter ho hw (by rw [hsem]; exact h1)) h2
  · next x xs hop' =>
    rw [hop'] at hop
    obtain ⟨cl, X, hcl, hce, hx, hxs⟩ := hop
    split at h
    case h_2 => cases h
    next u l hu hl =>
    have hA := opds_ok hT hH.gr hxs hl
    have hX := getO_ok hT hH.gr hx hu
    have hsem := call_sem (P := P) hcl hce b.roundOf a.eval w
    generalize hXe : a.eval X = X' at hX hsem
    unfold dynR at h
    split at h
    · next f first cap =>
      rw [appK_eq, appK_eq] at h
      cases hX with | fn _ hF hC =>
      next F C =>
      have hsem' : (o.semAt b.roundOf a.eval).run P w = (callFunc f (F ++ (cl.args.map a.eval) ++ C)).run P w := by
        rw [hsem]; simp [Deferred.ofValue, invoke_func]
      have hAA : VRL φ (first ++ (l ++ cap)) (F ++ (cl.args.map a.eval) ++ C).toList := by
        rw [Array.toList_append, Array.toList_append, List.append_assoc]
        exact hF.append (hA.append hC)
      rcases callR_ok hE hrun (.inl ⟨rfl, rfl⟩) h hAA hH hG with ⟨_, y, w', h1, φ', h2, h3, h4⟩ | ⟨h1, h2⟩
      · exact ⟨φ', y, w', op_yields ho hw (by rw [hsem']; exact h1) (yields_value _), h2, h3, h4⟩
      · exact back_ok ho (op_enter ho hw (by rw [hsem']; exact h1)) h2
    · next bl =>
      split at h
      case h_2 => cases h
      next st pend fn nt T' ps assign body d hb =>
      cases hX with | yld hp =>
      next p =>
      obtain ⟨tmps, PS, q, rfl, hob, hTR, hd⟩ := loop_ok hH hp hb
      obtain ⟨T'', h1, h2, h3⟩ := paramsK_ok _ _ _ _ _ h hA hTR
      have hsem' : (o.semAt b.roundOf a.eval).run P w = .ok (.round p.blk fn ((PS.zip (cl.args.map a.eval)).foldl (fun tmps (x : Tmp × Value) => tmps.setIfInBounds x.1 x.2) tmps) assign body) w := by
        rw [hsem]
        have hsz : (cl.args.map a.eval).size = PS.size := by rw [← Array.length_toList, ← h2, Array.length_toList]
        rw [Array.size_map] at hsz
        simp [Deferred.ofValue, invoke_yield, Instr.yield, getLoop_run hob, hsz]
      have hst := op_round (P := P) (b := b) (k := k) (cs := cs) (rest := rest) ho hw hsem'
      have hfold : (PS.zip (cl.args.map a.eval)).foldl (fun tmps (x : Tmp × Value) => tmps.setIfInBounds x.1 x.2) tmps = (PS.toList.zip (cl.args.map a.eval).toList).foldl (fun (tmps : Array Value) (x : Tmp × Value) => tmps.setIfInBounds x.1 x.2) tmps := by
        rw [← Array.foldl_toList, Array.toList_zip]
      rw [← hfold] at h3
      generalize (PS.zip (cl.args.map a.eval)).foldl (fun tmps (x : Tmp × Value) => tmps.setIfInBounds x.1 x.2) tmps = tm at h3 hst
      generalize hbb : ({ fn := fn, tmps := #[], todo := [], defers := [], mode := .run, kind := .normal, roundOf := some p.blk } : Frame) = b'
      have hfr : Frame.round p.blk fn tm assign body .normal = b'.atR { tmps := tm, defers := [] } [.code assign, .beginRound, .code body] := by subst hbb; rfl
      rw [hfr] at hst
      have hg := hrun ⟨fn, nt, .round bl⟩ T'' [] [.code assign, .beginRound, .code body] H v H' h1 φ b' { tmps := tm, defers := [] } w (by subst hbb; rfl) (by subst hbb; exact ⟨rfl, p, hp, rfl⟩) h3 .nil hH hG
      obtain ⟨x, w', ⟨φ', k1, k2, k3⟩, hs⟩ := hg (b.atR a (.inRegion ops (i :: rest) :: k)) cs
      rw [fin_at ho] at hs
      exact ⟨φ', x, w', hst.trans hs, k1, k2, k3⟩
    · cases h
  · next m x xs hop' =>
    rw [hop'] at hop
    obtain ⟨cl, X, name, hcl, hce, hx, hxs, rfl⟩ := hop
    split at h
    case h_2 => cases h
    next t u l hu hl =>
    split at h
    case h_2 => cases h
    next f hf =>
    have hA := opds_ok hT hH.gr hxs hl
    have hX := getO_ok hT hH.gr hx hu
    generalize hXe : a.eval X = X' at hX
    cases hX with | iface _ hv =>
    next z =>
    have hsem : (o.semAt b.roundOf a.eval).run P w = (callFunc f (#[z] ++ cl.args.map a.eval)).run P w := by
      rw [Oper.semAt_eq _ _ _ (fun c' h => by rw [hcl] at h; cases h)]
      have e0 : (#[Value.iface t z] ++ cl.args.map a.eval)[0]? = some (.iface t z) := by rw [Array.getElem?_append_left (by simp)]; rfl
      have e1 : (#[Value.iface t z] ++ cl.args.map a.eval).extract 1 (#[Value.iface t z] ++ cl.args.map a.eval).size = cl.args.map a.eval := by simp
      have e2 : (invoke (.fn (.method name) #[]) (#[Value.iface t z] ++ cl.args.map a.eval)).run P w = (callFunc f (#[z] ++ cl.args.map a.eval)).run P w := by
        unfold invoke
        simp only [e0, e1, callMethod, Sem.run_bind, run_program, Result.andThen_ok, method_run hE.toEnvOk hf]
      simp only [execOp, hcl, resolve, hce, hXe, Sem.run_bind, Sem.run_pure, Result.andThen_ok, e2]
    have hAA : VRL φ (u :: l) (#[z] ++ cl.args.map a.eval).toList := by
      rw [Array.toList_append]
      exact .cons hv hA
    rcases callR_ok hE hrun (.inl ⟨rfl, rfl⟩) h hAA hH hG with ⟨_, y, w', h1, φ', h2, h3, h4⟩ | ⟨h1, h2⟩
    · exact ⟨φ', y, w', op_yields ho hw (by rw [hsem]; exact h1) (yields_value _), h2, h3, h4⟩
    · exact back_ok ho (op_enter ho hw (by rw [hsem]; exact h1)) h2
  · cases h
end
end Go.Ev
/- The evaluator's regions in order, its ways out of a frame, its loops over functions. -/
namespace Go.Ev
section
variable {P : Program} {E : Env}
/-- where a frame stands, between two operations -/
def StepOut (P : Program) (E : Env) (n : Nat) (φ : Phi) (H : Hp) (w : World) (T' : Tr AV) (ds' : List ADef) (H' : Hp) (m : Machine) (m' : Act → World → Machine) : Prop :=
  ∃ φ' a' w', Steps P m (m' a' w') ∧ TR φ' n T' a'.tmps ∧ DRL φ' ds' a'.defers ∧ HR E.ng φ' H' w' ∧ Keep φ H w φ' H' w'
theorem StepOut.trans {n : Nat} {φ : Phi} {H H₁ H' : Hp} {w : World} {T₁ T' : Tr AV} {ds₁ ds' : List ADef} {m : Machine} {m₁ m' : Act → World → Machine}
    (h : StepOut P E n φ H w T₁ ds₁ H₁ m m₁) (h' : ∀ φ₁ a₁ w₁, TR φ₁ n T₁ a₁.tmps → DRL φ₁ ds₁ a₁.defers → HR E.ng φ₁ H₁ w₁ → Keep φ H w φ₁ H₁ w₁ → StepOut P E n φ₁ H₁ w₁ T' ds' H' (m₁ a₁ w₁) m') : StepOut P E n φ H w T' ds' H' m m' := by
  obtain ⟨φ₁, a₁, w₁, h1, h2, h3, h4, h5⟩ := h
  obtain ⟨φ', a', w', k1, k2, k3, k4, k5⟩ := h' φ₁ a₁ w₁ h2 h3 h4 h5
  exact ⟨φ', a', w', h1.trans k1, k2, k3, k4, h5.trans k5⟩
theorem ActOut.step {n : Nat} {ops : Array Oper} {o : Oper} {c : CO} (hc : COk P E n ops o c) {φ : Phi} {H : Hp} {w : World} {v : AV} {H' : Hp} {T : Tr AV} {ds : List ADef} {a : Act} {m : Machine} {m' : Act → World → Machine}
    (hT : TR φ n T a.tmps) (hD : DRL φ ds a.defers) (h : ActOut P E φ H w v H' m (fun x w' => m' (a.put o.dst x) w')) : StepOut P E n φ H w (setT c.dst v T) ds H' m m' := by
  obtain ⟨φ', x, w', h1, h2, h3, h4⟩ := h
  exact ⟨φ', _, w', h1, put_TR hc (hT.mono h4.le) h2, by rw [put_defers]; exact hD.mono h4.le, h3, h4⟩
theorem actW_ok (hE : EnvOk2 P E) {run : RunT} (hrun : RunOk P E run) {n : Nat} {ops : Array Oper} {o : Oper} {c : CO} (hc : COk P E n ops o c) {T : Tr AV} {H : Hp} {v : AV} {H' : Hp} (h : actW E run c T H = .ok v H')
    {φ : Phi} {b : Frame} {a : Act} {w : World} {i : Nat} {rest : List Nat} {k : List Item} {cs : List Frame} (ho : ops[i]? = some o)
    (hT : TR φ n T a.tmps) (hH : HR E.ng φ H w) (hG : GL E φ H w) :
    ActOut P E φ H w v H' (lone (b.atR a (.inRegion ops (i :: rest) :: k)) cs w) (fun x w' => lone (b.atR (a.put o.dst x) (.inRegion ops rest :: k)) cs w') := by
  unfold actW at h
  split at h
  · cases h
  · next hw =>
    cases h
    exact ⟨φ, undef, w, op_skip ho (wanted_ok hT hc.guard hw), undef_VR _, hH, Keep.refl _ _ _⟩
  · next hw => exact actR_ok hE hrun hc h ho (wanted_ok hT hc.guard hw) hT hH hG
theorem orb_ok {r : Ret} {k : AV → Hp → ORet} {T : Tr AV} {ds : List ADef} {H : Hp} (h : orb r k = .ok T ds H) : ∃ v H', r = .ok v H' ∧ k v H' = .ok T ds H := by
  cases r with
  | no => cases h
  | ok v H' => exact ⟨v, H', rfl, h⟩
theorem stepR_ok (hE : EnvOk2 P E) {run : RunT} (hrun : RunOk P E run) {kd : Kd} {n : Nat} {ops : Array Oper} {o : Oper} {c : CO} (hc : COk P E n ops o c) {T : Tr AV} {ds : List ADef} {H : Hp} {T' : Tr AV} {ds' : List ADef} {H' : Hp}
    (h : stepR E run kd c T ds H = .ok T' ds' H') {φ : Phi} {b : Frame} {a : Act} {w : World} {i : Nat} {rest : List Nat} {k : List Item} {cs : List Frame} (ho : ops[i]? = some o)
    (hcs : CsOk kd cs) (hb : KdOk φ kd b) (hT : TR φ n T a.tmps) (hD : DRL φ ds a.defers) (hH : HR E.ng φ H w) (hG : GL E φ H w) :
    StepOut P E n φ H w T' ds' H' (lone (b.atR a (.inRegion ops (i :: rest) :: k)) cs w) (fun a' w' => lone (b.atR a' (.inRegion ops rest :: k)) cs w') := by
  unfold stepR at h
  split at h
  · next x xs hop =>
    have hop' := hc.op
    rw [hop] at hop'
    obtain ⟨cl, X, hcl, hce, hx, hxs⟩ := hop'
    split at h
    · cases h
    · next kd1 _ _ hnr hw =>
      split at h
      case h_2 => cases h
      next f first cap l hu hl =>
      rw [setO_eq] at h
      cases h
      have hA := opds_ok hT hH.gr hxs hl
      have hX := getO_ok hT hH.gr hx hu
      have hro : b.roundOf = none := by
        cases kd1 with
        | normal => exact hb.2
        | deferred => exact hb.2
        | round l => exact absurd rfl (hnr _)
      generalize hXe : a.eval X = X' at hX
      cases hX with | fn _ hF hC =>
      next F C =>
      have hsem : (o.semAt b.roundOf a.eval).run P w = .ok (.defer { target := .fn (.func f) C, args := F ++ cl.args.map a.eval }) w := by
        rw [hro, Oper.semAt_none]
        simp [execOp, hcl, resolve, hce, hXe, Deferred.ofValue]
      refine ⟨φ, _, w, op_defer ho (wanted_ok hT hc.guard hw) hsem, ?_, ?_, hH, Keep.refl _ _ _⟩
      · exact put_TR hc (a := { a with defers := _ :: a.defers }) hT (undef_VR φ)
      · rw [put_defers]
        exact .cons (.call f hF hA hC) hD
    · cases h
  · next hop =>
    have hop' := hc.op
    rw [hop] at hop'
    obtain ⟨cl, hcl, hce⟩ := hop'
    split at h
    case h_2 => cases h
    next hw =>
    rw [setO_eq] at h
    cases h
    obtain ⟨c', cs', rfl, hm⟩ := hcs
    have hsem : (o.semAt b.roundOf a.eval).run P w = .ok .recover w := by
      rw [hb.2, Oper.semAt_none]
      simp [execOp, hcl, resolve, hce, invoke, builtin]
    refine ⟨φ, _, w, op_recover ho (wanted_ok hT hc.guard hw) hb.1 hb.2 hm hsem, put_TR hc hT .nif, by rw [put_defers]; exact hD, hH, Keep.refl _ _ _⟩
  · obtain ⟨v, H₁, h1, h2⟩ := orb_ok h
    rw [setO_eq] at h2
    cases h2
    exact (actW_ok hE hrun hc h1 ho hT hH hG).step hc hT hD
theorem opsR_ok (hE : EnvOk2 P E) {run : RunT} (hrun : RunOk P E run) {fr : Fr} {ops : Array Oper} {b : Frame} {k : List Item} {cs : List Frame} (hcs : CsOk fr.kd cs) : ∀ (l : List Oper) (i : Nat), l = ops.toList.drop i → ∀ (T : Tr AV) (ds : List ADef) (H : Hp) (T' : Tr AV) (ds' : List ADef) (H' : Hp),
    opsR E run fr ops l T ds H = .ok T' ds' H' → ∀ (φ : Phi) (a : Act) (w : World), KdOk φ fr.kd b → TR φ fr.n T a.tmps → DRL φ ds a.defers → HR E.ng φ H w → GL E φ H w →
    StepOut P E fr.n φ H w T' ds' H' (lone (b.atR a (.inRegion ops (List.range' i (ops.size - i)) :: k)) cs w) (fun a' w' => lone (b.atR a' k) cs w')
  | [], i, hl, T, ds, H, T', ds', H', h, φ, a, w, hb, hT, hD, hH, hG => by
    cases h
    have hs : ops.size - i = 0 := by
      have := congrArg List.length hl
      simp only [List.length_nil, List.length_drop, Array.length_toList] at this
      omega
    rw [hs, List.range'_zero]
    exact ⟨φ, a, w, .one stepR_region_end, hT, hD, hH, Keep.refl _ _ _⟩
  | o :: l, i, hl, T, ds, H, T', ds', H', h, φ, a, w, hb, hT, hD, hH, hG => by
    change (match cOper E fr.n ops o with | none => ORet.no | some c => match stepR E run fr.kd c T ds H with | .ok T ds H => opsR E run fr ops l T ds H | .no => ORet.no) = _ at h
    split at h
    · cases h
    next c hc =>
    have hc := cOper_ok (P := P) hE.toEnvOk hc
    split at h
    case h_2 => cases h
    next T₁ ds₁ H₁ h1 =>
    have hlen := congrArg List.length hl
    simp only [List.length_cons, List.length_drop, Array.length_toList] at hlen
    have ho : ops[i]? = some o := by
      have : (ops.toList.drop i)[0]? = some o := by rw [← hl]; rfl
      rw [List.getElem?_drop, Nat.add_zero, Array.getElem?_toList] at this
      exact this
    have hl' : l = ops.toList.drop (i + 1) := by
      have := congrArg List.tail hl
      simpa [List.tail_drop] using this
    rw [show ops.size - i = (ops.size - (i + 1)) + 1 by omega, List.range'_succ]
    refine (stepR_ok hE hrun hc h1 ho hcs hb hT hD hH hG).trans fun φ₁ a₁ w₁ hT₁ hD₁ hH₁ hK => ?_
    exact opsR_ok hE hrun hcs l (i + 1) hl' T₁ ds₁ H₁ T' ds' H' h φ₁ a₁ w₁ (hb.mono hK.le) hT₁ hD₁ hH₁ (hG.keep hK)
/-! ### results -/
def resF (tmps : Array Value) : ResultVar → Sem Value
  | .tmp t => pure (tmps.getD t undef)
  | .cell ad t => do loadVar t (← asAddr (tmps.getD ad undef))
theorem results_resF (fn : Func) (tmps : Array Value) : results fn tmps = (do
    let vs ← fn.results.mapM (resF tmps)
    pure (if h : vs.size = 1 then vs[0] else .tuple vs)) := by
  unfold results
  congr 1
theorem resV_ok (hE : EnvOk P E) {φ : Phi} {n : Nat} {T : Tr AV} {a : Act} {H : Hp} {w : World} (hT : TR φ n T a.tmps) (hH : HR E.ng φ H w) (hG : GL E φ H w) : ∀ (rs : List ResultVar) (l : List AV), resV E rs T H = some l →
    ∃ xs : List Value, (rs.mapM (resF a.tmps)).run P w = .ok xs w ∧ VRL φ l xs
  | [], l, h => by cases h; exact ⟨[], by simp, .nil⟩
  | r :: rs, l, h => by
    obtain ⟨v, l', hv, hl', rfl⟩ := (omap_cons _ _ _ _).1 h
    obtain ⟨xs, hxs, hr⟩ := resV_ok hE hT hH hG rs l' hl'
    have one : ∃ x, (resF a.tmps r).run P w = .ok x w ∧ VR φ v x := by
      cases r with
      | tmp t =>
        obtain ⟨x, hx, hr⟩ := hT.get t _ hv
        refine ⟨x, ?_, hr⟩
        have : a.tmps.getD t undef = x := by rw [Array.getD_eq_getD_getElem?, hx]; rfl
        simp [resF, this]
      | cell ad t =>
        obtain ⟨u, hu, hv⟩ := ob_some.1 hv
        obtain ⟨x, hx, hrx⟩ := hT.get ad _ hu
        have hgd : a.tmps.getD ad undef = x := by rw [Array.getD_eq_getD_getElem?, hx]; rfl
        split at hv
        · next b o n' ht hn =>
          obtain ⟨l₁, hl₁, hv⟩ := ob_some.1 hv
          cases hv
          cases hrx with | ptr _ hp =>
          obtain ⟨cs, hcl, hr', hcs⟩ := loadN_ok hH hG hp hl₁
          exact ⟨.agg cs.toArray, by simp [resF, hgd, asAddr, loadn_run hE ht hn hcl hcs], .agg hr'⟩
        · next b o n' ht hn =>
          cases hrx with | ptr _ hp =>
          obtain ⟨y, hy, hr'⟩ := cell_ok hH hG hp hv
          exact ⟨y, by simp [resF, hgd, asAddr, load1_run hE ht hy], hr'⟩
        · cases hv
    obtain ⟨x, hx, hrx⟩ := one
    exact ⟨x :: xs, by simp only [List.mapM_cons, Sem.run_bind, hx, Result.andThen_ok, hxs, Sem.run_pure], .cons hrx hr⟩
theorem results_ok (hE : EnvOk P E) {φ : Phi} {n : Nat} {T : Tr AV} {a : Act} {H : Hp} {w : World} (hT : TR φ n T a.tmps) (hH : HR E.ng φ H w) (hG : GL E φ H w) {fn : Func} {l : List AV} (h : resV E fn.results.toList T H = some l) :
    ∃ x, (results fn a.tmps).run P w = .ok x w ∧ VR φ (oneOrTup l) x := by
  obtain ⟨xs, hxs, hr⟩ := resV_ok (P := P) hE hT hH hG _ _ h
  have hlen := hr.length
  refine ⟨if h : xs.toArray.size = 1 then xs.toArray[0] else .tuple xs.toArray, ?_, ?_⟩
  · rw [results_resF, Array.mapM_eq_mapM_toList]
    simp only [Sem.run_bind, Sem.run_map, hxs, Result.andThen_ok, Sem.run_pure]
  · cases hr with
    | nil => exact .tup .nil
    | cons h1 h2 =>
      cases h2 with
      | nil => exact h1
      | cons h3 h4 =>
        rw [dif_neg (by simp)]
        exact .tup (.cons h1 (.cons h3 h4))
/-! ### leaving -/
theorem take_run {w : World} {r : Nat} (h : w.heap[r]? = some (.deferred (some []))) : (Instr.takeDeferred r).run P w = .ok [] { w with heap := w.heap.setIfInBounds r (.deferred none) } := by
  simp [Instr.takeDeferred, getObj, setObj, Sem.run, h]
/-- the frame leaves: its deferred calls, its results -/
theorem leaveR_ok (hE : EnvOk2 P E) {run : RunT} (hrun : RunOk P E run) {fr : Fr} {T : Tr AV} {tmps : Array Value} : ∀ (ds : List ADef) (H : Hp) (v : AV) (H' : Hp), leaveR E run fr T ds H = .ok v H' →
    ∀ (φ : Phi) (w : World) (F : Frame), F.fn = fr.fid → F.tmps = tmps → F.mode = .returning → TR φ fr.n T tmps → DRL φ ds F.defers → HR E.ng φ H w → GL E φ H w →
    ∀ cs, ∃ x w' fr', Post E φ H w v H' x w' ∧ Steps P (lone F cs w) (lone fr' cs w') ∧ Left P F.fn F.kind fr' x w'
  | [], H, v, H', h, φ, w, F, hf, ht, hm, hT, hD, hH, hG, cs => by
    change (match E.fns fr.fid with | none => Ret.no | some fn => leaveR.rb' (resV E fn.results.toList T H) fun l => .ok (oneOrTup l) H) = _ at h
    split at h
    · cases h
    next fn hfn =>
    obtain ⟨hfn, _⟩ := hE.fns _ _ hfn
    unfold leaveR.rb' at h
    split at h
    case h_2 => cases h
    next l hl =>
    cases h
    obtain ⟨x, hx, hr⟩ := results_ok (P := P) (a := { tmps := tmps, defers := [] }) hE.toEnvOk hT hH hG hl
    generalize hde : F.defers = de at hD
    cases hD
    exact ⟨x, w, F, ⟨φ, hr, hH, Keep.refl _ _ _⟩, .refl _ _, rfl, rfl, hm, hde, fn, by rw [hf]; exact hfn, by rw [ht]; exact hx⟩
  | d :: ds, H, v, H', h, φ, w, F, hf, ht, hm, hT, hD, hH, hG, cs => by
    generalize hde : F.defers = de at hD
    cases hD with | cons hd hds =>
    next x0 m0 =>
    have hne : F.mode ≠ .run := by rw [hm]; intro h; cases h
    cases hd with
    | coll hb =>
      next b p =>
      change (match Tr.get b H.t with | some (.dfr true) => Hp.setK b (some (.dfr false)) H fun H => leaveR E run fr T ds H | _ => .no) = _ at h
      split at h
      case h_2 => cases h
      next hbl =>
      rw [Hp.setK_eq] at h
      obtain ⟨q, o, hq, ho, hB⟩ := hH.blk _ _ hbl
      rw [hb] at hq; cases hq
      cases hB
      have hs := step_collected (P := P) (cs := cs) hne hde rfl (take_run (P := P) ho)
      have hH' := hH.put (w' := { w with heap := w.heap.setIfInBounds p.blk (.deferred none) }) hbl hb (.dfrF (φ := φ) (p := p)) rfl
      have hK := Keep.put (B' := .dfr false) (w' := { w with heap := w.heap.setIfInBounds p.blk (.deferred none) }) hH hbl hb rfl rfl rfl rfl
      obtain ⟨x, w', fr', h1, h2, h3⟩ := leaveR_ok hE hrun ds _ v H' h φ _ { F with defers := m0 } hf ht hm hT hds hH' (hG.keep hK) cs
      exact ⟨x, w', fr', h1.from hK, (Steps.one hs).trans h2, h3⟩
    | call f hf' ha hc =>
      next first args cap Fa A C =>
      change (appK args cap fun r => appK first r fun l => match callR E run .deferred f l H with | .ok _ H => leaveR E run fr T ds H | .no => .no) = _ at h
      rw [appK_eq, appK_eq] at h
      split at h
      case h_2 => cases h
      next u H₁ h1 =>
      have hAA : VRL φ (first ++ (args ++ cap)) ((Fa ++ A) ++ C).toList := by
        rw [Array.toList_append, Array.toList_append, List.append_assoc]
        exact hf'.append (ha.append hc)
      rcases callR_ok hE hrun (kd := .deferred) (kind := .deferred) (.inr ⟨rfl, rfl⟩) h1 hAA hH hG with ⟨hk, _⟩ | ⟨h2, h3⟩
      · cases hk
      · have hs := step_defer (P := P) (cs := cs) (fv := .func f) (cap := C) hne hde rfl (by rw [invoke_func]; exact h2)
        obtain ⟨y, w₁, fr₁, ⟨φ₁, k1, k2, k3⟩, k4, k5⟩ := h3 ({ F with defers := m0 } :: cs) ⟨_, _, rfl, hm⟩
        obtain ⟨fn, hfn, hr⟩ := k5.res
        have hs2 := step_going_returned (P := P) (fr := fr₁) (c := { F with defers := m0 }) (cs := cs) (w := w₁) (v := y) k5.hkind ⟨k5.hmode, k5.hdefers, fn, by rw [k5.hfn]; exact hfn, hr⟩
        have hset : ({ ({ F with defers := m0 } : Frame) with mode := settle ({ F with defers := m0 } : Frame).mode } : Frame) = { F with defers := m0 } := by
          simp only [hm, settle]
        rw [hset] at hs2
        obtain ⟨x, w', fr', h4, h5, h6⟩ := leaveR_ok hE hrun ds _ v H' h φ₁ w₁ { F with defers := m0 } hf ht hm (hT.mono k3.le) (hds.mono k3.le) k2 (hG.keep k3) cs
        exact ⟨x, w', fr', h4.from k3, ((Steps.one hs).trans k4).trans ((Steps.one hs2).trans h5), h6⟩
/-! ### the end of a round -/
theorem endRound_run {w : World} {l : Nat} {r : Loop} {j : Option Code} (h : w.heap[l]? = some (.loop r)) :
    (Instr.endRound l j).run P w = .ok (.bool j.isNone) { w with heap := w.heap.setIfInBounds l (.loop { r with state := if j.isNone then .ready else .done, pending := j }) } := by
  simp [Instr.endRound, getLoop_run h, setObj, Sem.run, h]
theorem jumpR_ok {φ : Phi} {b : Pos} {p : Pl} {j : Option Code} {ds : List ADef} {H : Hp} {w : World} {v : AV} {H' : Hp} (hp : φ b = some p) (hH : HR E.ng φ H w) (h : jumpR b j ds H = .ok v H') :
    ∃ w', (Instr.endRound p.blk j).run P w = .ok (.bool j.isNone) w' ∧ Post E φ H w v H' (.bool j.isNone) w' := by
  unfold jumpR at h
  split at h
  case h_2 => cases h
  split at h
  case h_2 => cases h
  next st pend f nt T ps assign body d hb =>
  obtain ⟨tmps, PS, q, rfl, hob, hTR, hd⟩ := loop_ok hH hp hb
  split at h
  · rw [Hp.setK_eq] at h
    cases h
    refine ⟨_, endRound_run hob, φ, .bool true, hH.put hb hp (.loop hTR hd) rfl, Keep.put hH hb hp rfl rfl rfl rfl⟩
  · rw [Hp.setK_eq] at h
    cases h
    refine ⟨_, endRound_run hob, φ, .bool false, hH.put hb hp (.loop hTR hd) rfl, Keep.put hH hb hp rfl rfl rfl rfl⟩
end
end Go.Ev
/- The evaluator's runs, against the machine's steps. -/
namespace Go.Ev
section
variable {P : Program} {E : Env}
/-- regions whose order is drawn: whatever is drawn -/
def DrawOk (P : Program) (E : Env) (run : RunT) : Prop :=
  ∀ (fr : Fr) (ops : Array Oper) (T : Tr AV) (ds : List ADef) (H : Hp) (T' : Tr AV) (ds' : List ADef) (H' : Hp), drawR E run fr ops T ds H = .ok T' ds' H' →
    ∀ (φ : Phi) (b : Frame) (a : Act) (w : World), KdOk φ fr.kd b → TR φ fr.n T a.tmps → DRL φ ds a.defers → HR E.ng φ H w → GL E φ H w → ∀ (t : Nat) (k : List Item) (cs : List Frame),
      StepOut P E fr.n φ H w T' ds' H' (lone (b.atR a (.inRegion ops (Region.schedule true ops t) :: k)) cs w) (fun a' w' => lone (b.atR a' k) cs w')
/-- what stands at the head where a frame is left -/
def JumpAt (j : Option Code) (todo : List Item) : Prop :=
  match j with
  | none => todo = []
  | some .ret => ∃ k, todo = .code .ret :: k
  | some (.exit id) => ∃ k, todo = .code (.exit id) :: k ∧ exitTo id k = none
  | some (.goto l) => ∃ k, todo = .code (.goto l) :: k ∧ gotoIn l k = none
  | _ => False
theorem leave_ok (hE : EnvOk2 P E) {run : RunT} (hrun : RunOk P E run) {fr : Fr} {j : Option Code} {T : Tr AV} {ds : List ADef} {todo : List Item} {H : Hp} {v : AV} {H' : Hp} (hj : JumpAt j todo) (h : leave E run fr j T ds H = .ok v H')
    {φ : Phi} {b : Frame} {a : Act} {w : World} (hf : b.fn = fr.fid) (hb : KdOk φ fr.kd b) (hT : TR φ fr.n T a.tmps) (hD : DRL φ ds a.defers) (hH : HR E.ng φ H w) (hG : GL E φ H w) :
    Goes P fr.kd b.fn b.kind (fun cs => lone (b.atR a todo) cs w) (Post E φ H w v H') := by
  unfold leave at h
  -- a round
  have hround : ∀ l, fr.kd = .round l → jumpR l j ds H = .ok v H' → Goes P fr.kd b.fn b.kind (fun cs => lone (b.atR a todo) cs w) (Post E φ H w v H') := by
    intro l hk h
    rw [hk] at hb ⊢
    obtain ⟨hk, p, hp, hro⟩ := hb
    obtain ⟨w', h1, h2⟩ := jumpR_ok (P := P) hp hH h
    intro c cs
    refine ⟨_, w', h2, .one ?_⟩
    unfold JumpAt at hj
    split at hj
    · subst hj; exact stepR_round_end hro hk h1
    · obtain ⟨k, rfl⟩ := hj; exact stepR_round_ret hro hk h1
    · obtain ⟨k, rfl, hx⟩ := hj; exact stepR_round_exit hro hk hx h1
    · obtain ⟨k, rfl, hx⟩ := hj; exact stepR_round_goto hro hk hx h1
    · cases hj
  -- a call
  have hcall : b.roundOf = none → (j = none ∨ j = some .ret) → leaveR E run fr T ds H = .ok v H' →
      ∀ cs, ∃ x w' fr', Post E φ H w v H' x w' ∧ Steps P (lone (b.atR a todo) cs w) (lone fr' cs w') ∧ Left P b.fn b.kind fr' x w' := by
    intro hro hj' h cs
    have hs : Steps P (lone (b.atR a todo) cs w) (lone { b.atR a todo with mode := .returning } cs w) := by
      rcases hj' with rfl | rfl
      · obtain rfl : todo = [] := hj
        exact .one (stepR_end hro)
      · obtain ⟨k, rfl⟩ : ∃ k, todo = .code .ret :: k := hj
        exact .one (stepR_ret hro)
    obtain ⟨x, w', fr', h1, h2, h3⟩ := leaveR_ok hE hrun ds H v H' h φ w { b.atR a todo with mode := .returning } hf rfl rfl hT hD hH hG cs
    exact ⟨x, w', fr', h1, hs.trans h2, h3⟩
  split at h
  · next l hk => exact hround l hk h
  · next hnr =>
    have hro : b.roundOf = none := by
      cases hk : fr.kd with
      | normal => rw [hk] at hb; exact hb.2
      | deferred => rw [hk] at hb; exact hb.2
      | round l => exact absurd hk (hnr l)
    have hg : ∀ j', (j' = none ∨ j' = some .ret) → j = j' → leaveR E run fr T ds H = .ok v H' → Goes P fr.kd b.fn b.kind (fun cs => lone (b.atR a todo) cs w) (Post E φ H w v H') := by
      intro j' hj' hjj h
      have := hcall hro (hjj ▸ hj') h
      cases hk : fr.kd with
      | normal => exact fun cs _ => this cs
      | deferred => exact fun cs _ => this cs
      | round l => exact absurd hk (hnr l)
    split at h
    · exact hg none (.inl rfl) rfl h
    · exact hg (some .ret) (.inr rfl) rfl h
    · cases h
theorem step_rangeFunc_value {b : Frame} {a : Act} {k : List Item} {cs : List Frame} {w : World} {g : Operand} {ps : Array Tmp} {assign body : Code} {l : Nat} {mark : List Deferred} {w₁ w₁' w₂ : World} {d : Deferred} {v : Value}
    (he : (Instr.enterLoop b.fn a.tmps ps assign body b.roundOf).run P w = .ok (l, mark) w₁)
    (hres : (resolve a.eval (rangeCall g l) 0).run P w₁ = .ok d w₁') (hinv : (invoke d.target d.args).run P w₁' = .ok (.value v) w₂) :
    step P (lone (b.atR a (.code (.rangeFunc g ps assign body) :: k)) cs w) =
      .next (lone (b.atR { a with defers := mark ++ a.defers } (.endRangeFunc l :: k)) cs w₂) :=
  step_lone_go (by
    have hev := Frame.eval_atR b { a with defers := mark ++ a.defers } (.inRangeFunc l :: k)
    simp only [Frame.atR] at hev
    have hres' : Sem.run P (resolve ({ tmps := a.tmps, defers := mark ++ a.defers } : Act).eval { callee := .value g, args := #[.const (.func (.yield l) #[] #[])], argTypes := #[] } 0) w₁ = .ok d w₁' := hres
    simp [stepG, stepG.exec, Frame.atR, Sem.runT_eq, he, GStep.bare_after, stepG.apply, hev, Sem.run_bind, hres', hinv, Result.andThen, Frame.finish])
theorem endLoop_run {w : World} {l : Nat} {r : Loop} (h : w.heap[l]? = some (.loop r)) (hs : r.state ≠ .busy) :
    (Instr.endLoop l).run P w = .ok r.pending { w with heap := w.heap.setIfInBounds l (.loop { r with state := .exhausted }) } := by
  simp [Instr.endLoop, getLoop_run h, setObj, Sem.run, h, hs]
/-- behind the entry of a loop over a function -/
theorem loopR_ok (hE : EnvOk2 P E) {run : RunT} (hrun : RunOk P E run) {fr : Fr} {T : Tr AV} {ds : List ADef} {k : List Item} {g : FuncId} {first cap : List AV} {ps : Array Tmp} {assign body : Code} {d : Pos} {H : Hp} {v : AV} {H' : Hp}
    (h : loopR E run fr T ds k g first cap ps.toList assign body d H = .ok v H')
    {φ : Phi} {b : Frame} {a : Act} {w w0 : World} {X : Operand} {mark : List Deferred} {q : Pl} (hf : b.fn = fr.fid) (hb : KdOk φ fr.kd b) (hT : TR φ fr.n T a.tmps) (hD : DRL φ ds (mark ++ a.defers)) (hH : HR E.ng φ H w) (hG : GL E φ H w)
    (hX : VR φ (.fn g first cap) (a.eval X)) (hd : φ d = some q)
    (he : (Instr.enterLoop b.fn a.tmps ps assign body b.roundOf).run P w0 = .ok (w.heap.size, mark) { w with heap := w.heap.push (.loop { state := .ready, pending := none, fn := b.fn, tmps := a.tmps, params := ps, assign, body, defers := q.blk }) }) :
    Goes P fr.kd b.fn b.kind (fun cs => lone (b.atR a (.code (.rangeFunc X ps assign body) :: k)) cs w0) (Post E φ H w v H') := by
  unfold loopR at h
  rw [Hp.newK_eq] at h
  split at h
  case h_2 => cases h
  next u H₂ h1 =>
  have hnx : φ H.nx = none := hH.new _ (Nat.le_refl _)
  have hle := Phi.le_upd hnx ⟨w.heap.size, 0, 0, 0, 0⟩
  have hB : BR (φ.upd H.nx ⟨w.heap.size, 0, 0, 0, 0⟩) ⟨w.heap.size, 0, 0, 0, 0⟩ (.loop .ready none fr.fid fr.n T ps.toList assign body d)
      (.loop { state := .ready, pending := none, fn := b.fn, tmps := a.tmps, params := ps, assign, body, defers := q.blk }) := by
    rw [hf]
    exact .loop (hT.mono hle) (hle.at_ _ _ hd)
  obtain ⟨hH₁, hK₁⟩ := hH.new_block (w' := { w with heap := w.heap.push (.loop { state := .ready, pending := none, fn := b.fn, tmps := a.tmps, params := ps, assign, body, defers := q.blk }) })
    (p := ⟨w.heap.size, 0, 0, 0, 0⟩) rfl hB rfl rfl rfl rfl
  generalize hφ₁ : φ.upd H.nx ⟨w.heap.size, 0, 0, 0, 0⟩ = φ₁ at hH₁ hK₁ hle
  have hL : φ₁ H.nx = some ⟨w.heap.size, 0, 0, 0, 0⟩ := by subst hφ₁; exact Phi.upd_self _ _ _
  generalize hw₁ : ({ w with heap := w.heap.push (.loop { state := .ready, pending := none, fn := b.fn, tmps := a.tmps, params := ps, assign, body, defers := q.blk }) } : World) = w₁ at hH₁ hK₁ he
  generalize H.add (.loop .ready none fr.fid fr.n T ps.toList assign body d) = H₁ at h1 hH₁ hK₁
  have hG₁ := hG.keep hK₁
  generalize hXe : a.eval X = X' at hX
  cases hX with | fn _ hF hC =>
  next F C =>
  have hres : (resolve a.eval (rangeCall X w.heap.size) 0).run P w₁ = .ok { target := .fn (.func g) C, args := F ++ #[.func (.yield w.heap.size) #[] #[]] } w₁ := by
    have hce : ∀ v, a.eval (.const v) = v := fun _ => rfl
    simp [resolve, hXe, Deferred.ofValue, hce]
  have hAA : VRL φ₁ (first ++ ([.yld H.nx] ++ cap)) (F ++ #[Value.func (.yield w.heap.size) #[] #[]] ++ C).toList := by
    rw [Array.toList_append, Array.toList_append, List.append_assoc]
    exact (hF.mono hle).append ((VRL.cons (.yld hL) .nil).append (hC.mono hle))
  change (appK [.yld H.nx] cap fun r => appK first r fun l => callR E run .normal g l H₁) = _ at h1
  rw [appK_eq, appK_eq] at h1
  -- up to the loop's end
  have hmid : ∀ cs, ∃ φ₂ w₂, Steps P (lone (b.atR a (.code (.rangeFunc X ps assign body) :: k)) cs w0) (lone (b.atR { a with defers := mark ++ a.defers } (.endRangeFunc w.heap.size :: k)) cs w₂) ∧ HR E.ng φ₂ H₂ w₂ ∧ Keep φ₁ H₁ w₁ φ₂ H₂ w₂ := by
    intro cs
    rcases callR_ok hE hrun (.inl ⟨rfl, rfl⟩) h1 hAA hH₁ hG₁ with ⟨_, y, w₂, k1, φ₂, k2, k3, k4⟩ | ⟨k1, k2⟩
    · exact ⟨φ₂, w₂, .one (step_rangeFunc_value he hres (by rw [invoke_func]; exact k1)), k3, k4⟩
    · have hs := stepR_rangeFunc (P := P) (b := b) (a := a) (k := k) (cs := cs) he hres (by rw [invoke_func]; exact k1)
      obtain ⟨x, w₂, fr', ⟨φ₂, j1, j2, j3⟩, j4, j5⟩ := k2 (b.atR { a with defers := mark ++ a.defers } (.inRangeFunc w.heap.size :: k) :: cs) trivial
      obtain ⟨fn, hfn, hr⟩ := j5.res
      have hs2 := step_leave_returned (P := P) (fr := fr') (c := b.atR { a with defers := mark ++ a.defers } (.inRangeFunc w.heap.size :: k)) (cs := cs) (w := w₂) (v := x) ⟨j5.hmode, j5.hdefers, j5.hkind, fn, by rw [j5.hfn]; exact hfn, hr⟩
      rw [finish_atR_inRangeFunc] at hs2
      exact ⟨φ₂, w₂, ((Steps.one hs).trans j4).trans (.one hs2), j2, j3⟩
  refine Goes.dep fun cs _ => ?_
  obtain ⟨φ₂, w₂, hs, hH₂, hK₂⟩ := hmid cs
  have hL₂ := hK₂.le.at_ _ _ hL
  split at h
  · cases h
  · next st p f nt T' ps' assign' body' d' hnb hb₂ =>
    rw [Hp.setK_eq] at h
    obtain ⟨tmps, PS, q', rfl, hob, hTR, hd'⟩ := loop_ok hH₂ hL₂ hb₂
    have hst : st ≠ .busy := hnb
    have hend := endLoop_run (P := P) hob hst
    have hH₃ := hH₂.put (w' := { w₂ with heap := w₂.heap.setIfInBounds w.heap.size (.loop { state := .exhausted, pending := p, fn := f, tmps := tmps, params := PS, assign := assign', body := body', defers := q'.blk }) }) hb₂ hL₂
      (BR.loop (st := .exhausted) (pend := p) hTR hd') rfl
    have hK₃ := Keep.put (B' := .loop .exhausted p f nt T' PS.toList assign' body' d')
      (w' := { w₂ with heap := w₂.heap.setIfInBounds w.heap.size (.loop { state := .exhausted, pending := p, fn := f, tmps := tmps, params := PS, assign := assign', body := body', defers := q'.blk }) }) hH₂ hb₂ hL₂ rfl rfl rfl rfl
    have hK := (hK₁.trans hK₂).trans hK₃
    have hgo : ∀ todo, run fr T ds todo (H₂.set H.nx (some (.loop .exhausted p f nt T' PS.toList assign' body' d'))) = .ok v H' → todo = (p.map Item.code).toList ++ k →
        ∃ m' : List Frame → Machine, Steps P (lone (b.atR a (.code (.rangeFunc X ps assign body) :: k)) cs w0) (m' cs) ∧ Goes P fr.kd b.fn b.kind m' (Post E φ H w v H') := by
      intro todo hr ht
      subst ht
      refine ⟨fun cs => lone (b.atR { a with defers := mark ++ a.defers } ((p.map Item.code).toList ++ k)) cs _, hs.trans (.one (stepR_endRangeFunc hend)), ?_⟩
      have := hrun fr T ds _ _ v H' hr φ₂ b { a with defers := mark ++ a.defers } _ hf (hb.mono (Phi.le_trans hK₁.le hK₂.le)) (hT.mono (Phi.le_trans hK₁.le hK₂.le)) (hD.mono (Phi.le_trans hK₁.le hK₂.le)) hH₃ (hG.keep hK)
      exact this.mono fun x w' hp => hp.from hK
    split at h
    · exact hgo _ h rfl
    · exact hgo _ h rfl
  · cases h
theorem run_ok (hE : EnvOk2 P E) (hdraw : ∀ run, RunOk P E run → DrawOk P E run) : ∀ fuel, RunOk P E (run E fuel) := by
  intro fuel
  induction fuel with
  | zero => intro fr T ds todo H v H' h; cases h
  | succ fuel ih =>
    intro fr T ds todo H v H' h φ b a w hf hb hT hD hH hG
    change runStep E (run E fuel) fr T ds todo H = .ok v H' at h
    generalize run E fuel = rn at ih h
    -- on, with other things to do
    have on : ∀ todo', (∀ cs, step P (lone (b.atR a todo) cs w) = .next (lone (b.atR a todo') cs w)) → rn fr T ds todo' H = .ok v H' → Goes P fr.kd b.fn b.kind (fun cs => lone (b.atR a todo) cs w) (Post E φ H w v H') :=
      fun todo' hs hr => (ih fr T ds todo' H v H' hr φ b a w hf hb hT hD hH hG).step fun cs => .one (hs cs)
    unfold runStep at h
    split at h
    · exact leave_ok hE ih (j := none) rfl h hf hb hT hD hH hG
    · next x k =>
      split at h
      · exact on _ (fun cs => stepR_inBlock) h
      · exact on _ (fun cs => step_lone_go (by simp [stepG, stepG.exec, Frame.atR])) h
      · exact on _ (fun cs => stepR_inLoop) h
      · split at h
        case h_2 => cases h
        next l hk =>
        split at h
        case h_2 => cases h
        next p f nt L ps assign body d hbl =>
        rw [Hp.setK_eq] at h
        rw [hk] at hb
        obtain ⟨hkk, pl, hp, hro⟩ := hb
        obtain ⟨tmps, PS, q, rfl, hob, hTR, hd⟩ := loop_ok hH hp hbl
        have hbr : (Instr.beginRound pl.blk).run P w = .ok () { w with heap := w.heap.setIfInBounds pl.blk (.loop { state := .busy, pending := p, fn := f, tmps := tmps, params := PS, assign := assign, body := body, defers := q.blk }) } := by
          simp [Instr.beginRound, getLoop_run hob, setObj, Sem.run, hob]
        have hH₁ := hH.put (w' := { w with heap := w.heap.setIfInBounds pl.blk (.loop { state := .busy, pending := p, fn := f, tmps := tmps, params := PS, assign := assign, body := body, defers := q.blk }) }) hbl hp
          (BR.loop (st := .busy) (pend := p) hTR hd) rfl
        have hK₁ := Keep.put (B' := .loop .busy p f nt L PS.toList assign body d)
          (w' := { w with heap := w.heap.setIfInBounds pl.blk (.loop { state := .busy, pending := p, fn := f, tmps := tmps, params := PS, assign := assign, body := body, defers := q.blk }) }) hH hbl hp rfl rfl rfl rfl
        have hb' : KdOk φ fr.kd b := by rw [hk]; exact ⟨hkk, pl, hp, hro⟩
        have := ih fr T ds k _ v H' h φ b a _ hf hb' hT hD hH₁ (hG.keep hK₁)
        exact (this.mono fun x w' hp => hp.from hK₁).step fun cs => .one (stepR_beginRound hro hbr)
      · next c =>
        unfold runCode at h
        split at h
        · exact on _ (fun cs => stepR_skip) h
        · exact on _ (fun cs => stepR_label) h
        · exact on _ (fun cs => stepR_seq) h
        · next x ca cb =>
          split at h
          case h_2 => cases h
          next y hy =>
          split at h
          · next hv =>
            have hX := getO_ok hT hH.gr hy hv
            generalize hXe : a.eval x = X' at hX
            cases hX
            exact on _ (fun cs => stepR_cond hXe) h
          · next hv =>
            have hX := getO_ok hT hH.gr hy hv
            generalize hXe : a.eval x = X' at hX
            cases hX
            exact on _ (fun cs => stepR_cond hXe) h
          · cases h
        · exact on _ (fun cs => stepR_block) h
        · exact on _ (fun cs => stepR_loop) h
        · exact on _ (fun cs => step_lone_go (by simp [stepG, stepG.exec, Frame.atR])) h
        · split at h
          · next k' hx => exact on _ (fun cs => stepR_exit hx) h
          · next hx => exact leave_ok hE ih (j := some (.exit _)) ⟨_, rfl, hx⟩ h hf hb hT hD hH hG
        · split at h
          · next k' hx => exact on _ (fun cs => stepR_goto hx) h
          · next hx => exact leave_ok hE ih (j := some (.goto _)) ⟨_, rfl, hx⟩ h hf hb hT hD hH hG
        · exact leave_ok hE ih (j := some .ret) ⟨_, rfl⟩ h hf hb hT hD hH hG
        · next id ops draw =>
          split at h
          case h_2 => cases h
          next T₁ ds₁ H₁ h1 =>
          have hend : ∀ (w0 : World), (∀ cs, CsOk fr.kd cs → ∃ l, step P (lone (b.atR a (.code (.region id ops draw) :: k)) cs w) = .next (lone (b.atR a (.inRegion ops l :: k)) cs w0) ∧
              StepOut P E fr.n φ H w T₁ ds₁ H₁ (lone (b.atR a (.inRegion ops l :: k)) cs w0) (fun a' w' => lone (b.atR a' k) cs w')) →
              Goes P fr.kd b.fn b.kind (fun cs => lone (b.atR a (.code (.region id ops draw) :: k)) cs w) (Post E φ H w v H') := by
            intro w0 hh
            refine Goes.dep fun cs hcs => ?_
            obtain ⟨l, hs, φ₁, a₁, w₁, h2, h3, h4, h5, h6⟩ := hh cs hcs
            refine ⟨fun cs => lone (b.atR a₁ k) cs w₁, (Steps.one hs).trans h2, ?_⟩
            have := ih fr T₁ ds₁ k H₁ v H' h φ₁ b a₁ w₁ hf (hb.mono h6.le) h3 h4 h5 (hG.keep h6)
            exact this.mono fun x w' hp => hp.from h6
          cases draw with
          | true =>
            have hm := hE.mixed
            refine hend { w with drawn := w.drawn + 1 } fun cs _ => ⟨_, by rw [stepR_region_draw, hm], ?_⟩
            obtain ⟨φ₁, a₁, w₁, h2, h3, h4, h5, h6⟩ := hdraw rn ih fr ops T ds H T₁ ds₁ H₁ h1 φ b a { w with drawn := w.drawn + 1 } hb hT hD (hH.drawn _) (hG.drawn _) _ k cs
            exact ⟨φ₁, a₁, w₁, h2, h3, h4, h5, ⟨h6.le, h6.size, h6.old, h6.own, h6.tape, h6.os, h6.out, h6.dom, h6.nx⟩⟩
          | false =>
            refine hend w fun cs hcs => ⟨_, stepR_region, ?_⟩
            rw [List.range_eq_range']
            exact opsR_ok hE ih hcs ops.toList 0 rfl T ds H T₁ ds₁ H₁ h1 φ a w hb hT hD hH hG
        · next f ps assign body =>
          split at h
          case h_2 => cases h
          next y hy =>
          split at h
          case h_2 => cases h
          next g first cap hv =>
          have hX := getO_ok hT hH.gr hy hv
          split at h
          · next l hk =>
            split at h
            case h_2 => cases h
            next d hbl =>
            have hb' := hb
            rw [hk] at hb'
            obtain ⟨hkk, pl, hp, hro⟩ := hb'
            obtain ⟨tmps, PS, q, _, hob, hTR, hd⟩ := loop_ok hH hp hbl
            refine loopR_ok hE ih h (mark := []) hf hb hT hD hH hG hX hd ?_
            simp [Instr.enterLoop, hro, getLoop_run hob, newObj, Sem.run]
          · next hnr =>
            rw [Hp.newK_eq] at h
            have hro : b.roundOf = none := by
              cases hk : fr.kd with
              | normal => rw [hk] at hb; exact hb.2
              | deferred => rw [hk] at hb; exact hb.2
              | round l => exact absurd hk (hnr l)
            obtain ⟨hH₁, hK₁⟩ := hH.new_block (w' := { w with heap := w.heap.push (.deferred (some [])) }) (p := ⟨w.heap.size, 0, 0, 0, 0⟩) rfl (.dfrT (φ := φ.upd H.nx ⟨w.heap.size, 0, 0, 0, 0⟩)) rfl rfl rfl rfl
            have hd := Phi.upd_self φ H.nx ⟨w.heap.size, 0, 0, 0, 0⟩
            have := loopR_ok hE ih h (mark := [{ target := .collected w.heap.size, args := #[] }]) (a := a) (w0 := w) hf (hb.mono hK₁.le) (hT.mono hK₁.le) (.cons (.coll hd) (hD.mono hK₁.le)) hH₁ (hG.keep hK₁) (hX.mono hK₁.le) hd
              (by simp [Instr.enterLoop, hro, newObj, Sem.run]; rfl)
            exact this.mono fun x w' hp => hp.from hK₁
        · cases h
      · cases h
end
end Go.Ev
