/- The evaluator's operations that do not act: what they yield stands for what the model's operations yield. -/
import Derived.Test.YtlgngfiiaoodjaaGreatDoorEvRelate
import Derived.Laws.Small
import Derived.Laws.Slices
import Derived.Laws.Cells
import Derived.Laws.StructEq
import Derived.Laws.LoneSync
set_option linter.unusedVariables false
set_option linter.unusedSimpArgs false
/- The evaluator's operations that do not act: what they yield stands for what the model's operations yield. -/
namespace Go.Ev

/-- the environment tells the truth about the program -/
structure EnvOk (P : Program) (E : Env) : Prop where
  ti : ∀ t i, E.ti t = some i → P.info? t = some i
  fns : ∀ f fn, E.fns f = some fn → P.funcs[f]? = some fn ∧ fn.name ≠ "runtime.NumGoroutine"
  held : ∀ t, E.held t = false → P.stoodInHeld t = false
  eqg : ∀ t, E.eqg t = false → P.eqGuardType P.depth t = false
  mixed : P.follows .mixedOrders = true
/-- the globals' names -/
def GR (ng : Nat) (φ : Phi) : Prop := ∀ g, g < ng → ∃ p, φ (posOf g) = some p ∧ p.blk = g ∧ p.off = 0
theorem GR.mono {ng : Nat} {φ φ' : Phi} (h : GR ng φ) (hφ : φ.le φ') : GR ng φ' := fun g hg => let ⟨p, hp, h1, h2⟩ := h g hg; ⟨p, hφ.at_ _ _ hp, h1, h2⟩

section
variable {P : Program} {E : Env} {w : World}
theorem run_underlying {t : TypeId} {d : TypeDesc} (h : P.underlying t = some d) : (underlying t).run P w = .ok d w := by
  simp [underlying, h]
theorem run_typeInfo {t : TypeId} {i : TypeInfo} (h : P.info? t = some i) : (typeInfo t).run P w = .ok i w := by
  simp [typeInfo, h]
theorem und_ok (hE : EnvOk P E) {t : TypeId} {d : TypeDesc} (h : E.und t = some d) : P.underlying t = some d := by
  unfold Env.und at h
  split at h
  · next i hi =>
    have hi' := hE.ti t i hi
    unfold Program.underlying
    rw [hi']
    split at h
    · next u hu =>
      split at h
      · next j hj =>
        have hj' := hE.ti _ _ hj
        obtain ⟨desc, _⟩ := i
        simp only at hu; subst hu
        simp only [hj', Option.map_some]; exact h
      · cases h
    · next hn =>
      obtain ⟨desc, _⟩ := i
      cases desc <;> first | exact h | exact absurd rfl (hn _ _)
  · cases h
theorem isAgg_ok (hE : EnvOk P E) {t : TypeId} {b : Bool} (h : E.isAgg t = some b) : (isAgg t).run P w = .ok b w := by
  unfold Env.isAgg at h
  unfold isAgg
  rw [Sem.run_bind]
  split at h
  · next d hd => rw [run_underlying (und_ok hE hd)]; cases h; rfl
  · next d hd => rw [run_underlying (und_ok hE hd)]; cases h; rfl
  · next d hn1 hn2 hd =>
    rw [run_underlying (und_ok hE hd)]; cases h
    simp only [Result.andThen_ok]
    rfl
  · cases h
theorem size_info (hE : EnvOk P E) {t : TypeId} {n : Nat} (h : E.size t = some n) : ∃ i, P.info? t = some i ∧ i.size = n := by
  unfold Env.size at h
  split at h
  · next i hi => cases h; exact ⟨i, hE.ti _ _ hi, rfl⟩
  · cases h
theorem size_ok (hE : EnvOk P E) {t : TypeId} {n : Nat} (h : E.size t = some n) : (sizeOf t).run P w = .ok n w := by
  obtain ⟨i, hi, rfl⟩ := size_info hE h
  simp [sizeOf, run_typeInfo hi]
/-- constants -/
noncomputable def toAVs (ih : Value → Option AV) (oml : List Value → Option (List AV)) (v : Value) : Option AV :=
  match v with
  | .bool b => some (.bool b)
  | .int k n => some (.int k n)
  | .string s => some (.str s.size (codeOf s))
  | .pointer none => some .nptr
  | .slice none 0 0 => some .nslice
  | .map none => some .nmap
  | .func (.func f) first cap => (match first.toList, cap.toList with | [], [] => some (.fn f [] []) | _, _ => none)
  | .nilFunc => some .nfn
  | .nilIface => some .nif
  | .iface t v => ob (ih v) fun a => some (.iface t a)
  | .agg cs => ob (oml cs.toList) fun l => some (.agg l)
  | .tuple cs => ob (oml cs.toList) fun l => some (.tup l)
  | _ => none
theorem toAVn_succ (d : Nat) (v : Value) : toAVn (d + 1) v = toAVs (toAVn d) (omap (toAVn d)) v := rfl
theorem toAVn_ok (φ : Phi) : ∀ (d : Nat) (v : Value) (a : AV), toAVn d v = some a → VR φ a v := by
  intro d
  induction d with
  | zero => intro v a h; cases h
  | succ d ih =>
    have ihl : ∀ (m : List Value) (l : List AV), omap (toAVn d) m = some l → VRL φ l m := by
      intro m
      induction m with
      | nil => intro l h; cases h; exact .nil
      | cons x m ihm =>
        intro l h
        obtain ⟨b, r, hb, hr, rfl⟩ := (omap_cons _ _ _ _).1 h
        exact .cons (ih x b hb) (ihm r hr)
    intro v a h
    rw [toAVn_succ] at h
    unfold toAVs at h
    split at h
    · cases h; exact .bool _
    · cases h; exact .int _ _
    · cases h; exact .str ⟨rfl, rfl⟩
    · cases h; exact .nptr
    · cases h; exact .nslice
    · cases h; exact .nmap
    · split at h
      · next h1 h2 => cases h; refine .fn _ ?_ ?_ <;> simp_all <;> exact .nil
      · cases h
    · cases h; exact .nfn
    · cases h; exact .nif
    · obtain ⟨b, hb, h⟩ := ob_some.1 h; cases h; exact .iface _ (ih _ _ hb)
    · obtain ⟨b, hb, h⟩ := ob_some.1 h; cases h; exact .agg (ihl _ _ hb)
    · obtain ⟨b, hb, h⟩ := ob_some.1 h; cases h; exact .tup (ihl _ _ hb)
    · cases h
theorem toAV_ok (φ : Phi) {v : Value} {a : AV} (h : toAV v = some a) : VR φ a v := toAVn_ok φ 6 v a h
theorem zero_ok (hE : EnvOk P E) {t : TypeId} {z : AV} (h : E.zero t = some z) : ∃ i zv, P.info? t = some i ∧ i.zero = some zv ∧ ∀ φ, VR φ z zv := by
  unfold Env.zero at h
  split at h
  · next i hi =>
    split at h
    · next v hv => exact ⟨i, v, hE.ti _ _ hi, hv, fun φ => toAV_ok φ h⟩
    · cases h
  · cases h
theorem run_zeroValue {t : TypeId} {i : TypeInfo} {z : Value} (hi : P.info? t = some i) (hz : i.zero = some z) : (zeroValue t).run P w = .ok z w := by
  simp [zeroValue, run_typeInfo hi, hz]
end

section
variable {P : Program} {E : Env} {φ : Phi} {ng nt : Nat} {T : Tr AV} {a : Act} {w : World}
/-- operands -/
theorem getO_ok (hT : TR φ nt T a.tmps) (hG : GR ng φ) {X : Operand} {x : Opd} {v : AV} (hx : opd ng X = some x) (h : getO x T = some v) : VR φ v (a.eval X) := by
  cases X with
  | tmp t =>
    cases hx
    obtain ⟨y, hy, hr⟩ := hT.get t v h
    simpa [Act.eval, Array.getD_eq_getD_getElem?, hy] using hr
  | const u =>
    simp only [opd] at hx
    split at hx
    · next b hb => cases hx; cases h; exact toAV_ok φ hb
    · cases hx
  | global g =>
    simp only [opd] at hx
    split at hx
    · next hg =>
      cases hx; cases h
      obtain ⟨p, hp, h1, h2⟩ := hG g (by simpa [Nat.blt_eq] using hg)
      have := VR.ptr (φ := φ) 0 hp
      rw [h1, h2] at this; exact this
    · cases hx
  | func f => cases hx; cases h; exact .fn f .nil .nil
theorem getL_ok (hT : TR φ nt T a.tmps) (hG : GR ng φ) : ∀ {Xs : List Operand} {xs : List Opd} {vs : List AV}, omap (opd ng) Xs = some xs → getL xs T = some vs → VRL φ vs (Xs.map a.eval)
  | [], xs, vs, hx, h => by cases hx; cases h; exact .nil
  | X :: Xs, xs, vs, hx, h => by
    obtain ⟨x, r, h1, h2, rfl⟩ := (omap_cons _ _ _ _).1 hx
    obtain ⟨v, r', h3, h4, rfl⟩ := (omap_cons _ _ _ _).1 h
    exact .cons (getO_ok hT hG h1 h3) (getL_ok hT hG h2 h4)
theorem opds_ok (hT : TR φ nt T a.tmps) (hG : GR ng φ) {Xs : Array Operand} {xs : List Opd} {vs : List AV} (hx : opds ng Xs = some xs) (h : getL xs T = some vs) :
    VRL φ vs (Xs.map a.eval).toList := by rw [Array.toList_map]; exact getL_ok hT hG hx h
theorem natV_ok {v : AV} {n : Nat} {x : Value} (hv : VR φ v x) (h : natV v = some n) : ∃ k, x = .int k (n : Int) := by
  unfold natV at h
  split at h
  · cases h; cases hv; exact ⟨_, rfl⟩
  · cases h
theorem natO_ok (hT : TR φ nt T a.tmps) (hG : GR ng φ) {X : Operand} {x : Opd} {n : Nat} (hx : opd ng X = some x) (h : natO x T = some n) : ∃ k, a.eval X = .int k (n : Int) := by
  obtain ⟨v, hv, h⟩ := ob_some.1 h
  exact natV_ok (getO_ok hT hG hx hv) h
theorem guardV_some {α : Type} {b : Bool} {k : Unit → Option α} {x : α} : guardV b k = some x ↔ b = true ∧ k () = some x := by
  cases b <;> simp [guardV]
end

/-! ### each operation -/
section
variable {P : Program} {E : Env} {φ : Phi} {ng nt : Nat} {T : Tr AV} {a : Act} {w : World}
theorem pick_ok (hT : TR φ nt T a.tmps) (hG : GR ng φ) {C A B : Operand} {c x y : Opd} {v : AV} (hc : opd ng C = some c) (hx : opd ng A = some x) (hy : opd ng B = some y)
    (h : pickV c x y T = some v) : ∃ u, (do pure (.value (if ← asBool (a.eval C) then a.eval A else a.eval B)) : Sem Next).run P w = .ok (.value u) w ∧ VR φ v u := by
  obtain ⟨b, hb, h⟩ := ob_some.1 h
  have hb := getO_ok hT hG hc hb
  generalize a.eval C = cv at hb
  split at h
  · cases hb with | bool b => exact ⟨_, by simp [asBool], getO_ok hT hG hx h⟩
  · cases hb with | bool b => exact ⟨_, by simp [asBool], getO_ok hT hG hy h⟩
  · cases h
/-- filling in -/
noncomputable def fillL (T : Tr AV) : List (Nat × Nat × Opd) → List AV → Option (List AV)
  | [], z => some z
  | p :: ps, z => match getO p.2.2 T with
    | some v => if v.cells.length = p.2.1 ∧ p.1 + v.cells.length ≤ z.length then fillL T ps (z.take p.1 ++ v.cells ++ z.drop (p.1 + v.cells.length)) else none
    | none => none
theorem fillK_eq {X : Type} (n : X) (T : Tr AV) : ∀ (ps : List (Nat × Nat × Opd)) (z : List AV) (K : List AV → X),
    fillK n z ps T K = match fillL T ps z with | some l => K l | none => n
  | [], _, _ => rfl
  | p :: ps, z, K => by
    show (match getO p.2.2 T with
      | some v => (match Nat.beq (len v.cells) p.2.1 with
        | true => putK n v.cells z p.1 fun z => fillK n z ps T K
        | false => n)
      | none => n) = _
    rw [fillL]
    cases getO p.2.2 T with
    | none => rfl
    | some v =>
      simp only [len_eq, putK_eq]
      cases h1 : Nat.beq v.cells.length p.2.1 with
      | true =>
        have h1' := Nat.eq_of_beq_eq_true h1
        by_cases h2 : p.1 + v.cells.length ≤ z.length
        · rw [if_pos h2, if_pos ⟨h1', h2⟩]; exact fillK_eq n T ps _ K
        · simp [h2]
      | false =>
        have h1' := Nat.ne_of_beq_eq_false h1
        simp [h1']
theorem foldl_set (off : Nat) : ∀ (vs : List Value) (k : Nat) (cs : Array Value), off + k + vs.length ≤ cs.size →
    ((vs.zipIdx k).foldl (fun cs (x : Value × Nat) => cs.setIfInBounds (off + x.2) x.1) cs).toList = cs.toList.take (off + k) ++ vs ++ cs.toList.drop (off + k + vs.length)
  | [], k, cs, _ => by simp
  | v :: vs, k, cs, h => by
    simp only [List.length_cons] at h
    rw [List.zipIdx_cons, List.foldl_cons, foldl_set off vs (k + 1) _ (by simp; omega)]
    simp only [Array.toList_setIfInBounds, List.length_cons]
    rw [show off + (k + 1) = off + k + 1 by omega, show off + k + 1 + vs.length = off + k + (vs.length + 1) by omega]
    have hk : off + k < cs.toList.length := by simp; omega
    rw [List.drop_set_of_lt (by omega), List.take_set, List.take_succ_eq_append_getElem hk, List.set_append_right _ _ (by simp; omega)]
    simp [Nat.min_eq_left (show off + k ≤ cs.size by simp at hk; omega)]
theorem fill_ok (hT : TR φ nt T a.tmps) (hG : GR ng φ) {place place' : Nat → Option (Nat × Nat)} (hp : ∀ i x, place' i = some x → place i = some x) :
    ∀ (ps : List (Nat × Operand)) (qs : List (Nat × Nat × Opd)) (z l : List AV) (zc : Array Value), partsOf ng place' ps = some qs → fillL T qs z = some l → VRL φ z zc.toList →
    ∃ lc, Instr.fill place zc (ps.map fun x => (x.1, a.eval x.2)) = some lc ∧ VRL φ l lc.toList
  | [], qs, z, l, zc, hq, h, hz => by cases hq; cases h; exact ⟨zc, rfl, hz⟩
  | (i, X) :: ps, qs, z, l, zc, hq, h, hz => by
    obtain ⟨q, r, h1, h2, rfl⟩ := (omap_cons _ _ _ _).1 hq
    simp only at h1
    split at h1
    · next o s y hpl hy =>
      cases h1
      simp only [fillL] at h
      split at h
      · next v hv =>
        split at h
        · next hc =>
          have hr := getO_ok hT hG hy hv
          have hrc := hr.cells
          have hlen : v.cells.length = (a.eval X).cells.size := by rw [hrc.length]; simp
          have hzl : z.length = zc.size := by rw [hz.length]; simp
          simp only [List.map_cons, Instr.fill, hp _ _ hpl]
          rw [if_neg (by simp only [Bool.or_eq_true, bne_iff_ne, ne_eq, decide_eq_true_eq, not_or, Decidable.not_not]; omega)]
          refine fill_ok hT hG hp ps r _ l _ h2 h ?_
          have := foldl_set o (a.eval X).cells.toList 0 zc (by simp; omega)
          simp only [Nat.add_zero, Array.length_toList] at this
          rw [← Array.foldl_toList, Array.toList_zipIdx, this, ← hlen]
          exact ((hz.take o).append hrc).append (hz.drop _)
        · cases h
      · cases h
    · cases h1
theorem part_ok (hE : EnvOk P E) {t : TypeId} {b : Bool} {n o : Nat} {l : List AV} {cs : Array Value} {v : AV} (hb : E.isAgg t = some b) (hn : E.size t = some n)
    (hl : VRL φ l cs.toList) (h : subV l o n b = some v) : ∃ x, (part t cs o).run P w = .ok x w ∧ VR φ v x := by
  unfold subV at h
  cases b with
  | true =>
    simp only [dropK_eq, takeK_eq] at h
    split at h
    · split at h
      · cases h
        refine ⟨.agg (cs.extract o (o + n)), by simp [part, isAgg_ok hE hb, size_ok hE hn], .agg ?_⟩
        rw [Array.toList_extract]
        simpa using (hl.drop o).take n
      · cases h
    · cases h
  | false =>
    simp only [nth_eq] at h
    obtain ⟨x, hx, hr⟩ := hl.get h
    refine ⟨x, ?_, hr⟩
    have hx' : cs[o]? = some x := by rw [← Array.getElem?_toList]; exact hx
    simp [part, isAgg_ok hE hb, hx']
end

section
variable {P : Program} {E : Env} {φ : Phi} {ng nt : Nat} {T : Tr AV} {a : Act} {w : World}
/-- what a pure operation yields -/
def PureOk (P : Program) (ng : Nat) (o : Oper) (f : Tr AV → Option AV) : Prop :=
  ∀ φ nt T (a : Act) w v, TR φ nt T a.tmps → GR ng φ → f T = some v → ∃ x, (execOp a.eval o).run P w = .ok (.value x) w ∧ VR φ v x

theorem exec_v {o : Oper} {ρ : Operand → Value} {s : Sem Value} {x : Value} {w' : World} (h : execOp ρ o = (do pure (.value (← s)))) (hs : s.run P w = .ok x w') :
    (execOp ρ o).run P w = .ok (.value x) w' := by rw [h]; simp [hs]

theorem move_ok {o : Oper} {X : Operand} {x : Opd} (ho : o.op = .move X ∨ o.op = .assign X) (hx : opd ng X = some x) : PureOk P ng o (getO x) := by
  intro φ nt T a w v hT hG h
  refine ⟨a.eval X, ?_, getO_ok hT hG hx h⟩
  rcases ho with ho | ho <;> simp [execOp, ho]
theorem pick_pure {o : Oper} {C A B : Operand} {c x y : Opd} (ho : o.op = .pick C A B) (hc : opd ng C = some c) (hx : opd ng A = some x) (hy : opd ng B = some y) :
    PureOk P ng o (pickV c x y) := by
  intro φ nt T a w v hT hG h
  obtain ⟨u, hu, hr⟩ := pick_ok (P := P) (w := w) hT hG hc hx hy h
  exact ⟨u, by simpa [execOp, ho] using hu, hr⟩
theorem run_mapM_places (hE : EnvOk P E) : ∀ (fs : List Field), (∀ f ∈ fs, (E.size f.type).isSome = true) →
    (fs.mapM (fun f => do pure (f.offset, ← sizeOf f.type) : Field → Sem (Nat × Nat))).run P w = .ok (fs.map fun f => (f.offset, (E.size f.type).getD 0)) w
  | [], _ => by simp
  | f :: fs, h => by
    have ih := run_mapM_places hE fs (fun g hg => h g (List.mem_cons_of_mem _ hg))
    obtain ⟨n, hn⟩ := Option.isSome_iff_exists.1 (h f (List.mem_cons_self ..))
    simp only [List.mapM_cons, Sem.run_bind, size_ok hE hn, Result.andThen_ok, ih, Sem.run_pure, List.map_cons, hn, Option.getD_some]
/-! ### methods -/
theorem methL_eq (name : String) : ∀ l : List Method, methL name l = l.find? (·.name == name)
  | [] => rfl
  | m :: l => by
    change (match m.name == name with | true => some m | false => methL name l) = _
    rw [List.find?_cons, methL_eq name l]
    cases m.name == name <;> rfl
theorem meth_ok (hE : EnvOk P E) {name : String} {t : TypeId} {f : FuncId} (h : methOf E name t = some f) :
    ∃ i m e, P.info? t = some i ∧ i.methods.find? (·.name == name) = some m ∧ m.path.toList = [] ∧ m.func = some (f, true) ∧ P.underlying t = some (.pointer e) := by
  obtain ⟨i, hi, h⟩ := ob_some.1 h
  obtain ⟨m, hm, h⟩ := ob_some.1 h
  rw [methL_eq, Array.find?_toList] at hm
  split at h
  · next f' e h1 h2 h3 =>
    cases h
    exact ⟨i, m, e, hE.ti t i hi, hm, h1, h2, und_ok hE h3⟩
  · cases h
theorem depth_succ (n : Nat) : n + Made.depth = (n + 99) + 1 := rfl
theorem nilAhead_run (hE : EnvOk P E) {name : String} {t : TypeId} {f : FuncId} (h : methOf E name t = some f) (v : Value) (w : World) (n : Nat) :
    (nilAhead (n + Made.depth) t v name).run P w = .ok (some false) w := by
  obtain ⟨i, m, e, h1, h2, h3, h4, _⟩ := meth_ok hE h
  rw [depth_succ, nilAhead]
  simp [run_typeInfo h1, h2, h3, followBlind, h4]
theorem method_run (hE : EnvOk P E) {name : String} {t : TypeId} {f : FuncId} (h : methOf E name t = some f) (v : Value) (w : World) (n : Nat) :
    (method (n + Made.depth) t v name).run P w = .ok (f, v) w := by
  obtain ⟨i, m, e, h1, h2, h3, h4, h5⟩ := meth_ok hE h
  rw [depth_succ, method]
  simp [run_typeInfo h1, h2, h3, follow, h4, receiverAt, run_underlying h5, Place.get]
theorem nilck_ok (hE : EnvOk P E) {o : Oper} {X : Operand} {x : Opd} (ho : o.op = .nilCheck X) (hx : opd ng X = some x) : PureOk P ng o (nilckV E x) := by
  intro φ nt T a w v hT hG h
  obtain ⟨u, hu, h⟩ := ob_some.1 h
  have hr := getO_ok hT hG hx hu
  generalize hX : a.eval X = X' at hr
  split at h
  case h_8 =>
    obtain ⟨f, hf, h⟩ := ob_some.1 h
    cases h
    refine ⟨X', ?_, hr⟩
    cases hr
    simp [execOp, ho, hX, nilAhead_run hE hf]
  all_goals try cases h
  all_goals
    refine ⟨X', ?_, hr⟩
    cases hr <;> simp [execOp, ho, hX]
theorem le_dec (x y : Int) : decide (x ≤ y) = bnot (ilt y x) := by
  rw [bnot_eq, ilt_eq, ← decide_not]
  exact decide_eq_decide.2 Int.not_lt.symm
theorem kinds_eq {j k : IntKind} (h : Nat.beq (kno j) (kno k) = true) : j = k := (kno_beq j k).1 h
theorem bitsW_ok {op : BinOp} {k : IntKind} {x y : Int} {v : AV} (h : bits op k x y = some v) (φ : Phi) : ∃ u, (Op.intBits op k x y).run P w = .ok u w ∧ VR φ v u := by
  unfold bits at h
  cases op <;> simp only [] at h <;> (try cases h)
  all_goals exact ⟨_, by simp [Op.intBits], .int _ _⟩
theorem ibin_ok {op : BinOp} {k : IntKind} {x y : Int} {v : AV} {t : TypeId} (hne : op ≠ .shl ∧ op ≠ .shr) (h : ibin op k x y = some v) (φ : Phi) :
    ∃ u, (binOp op t (.int k x) (.int k y)).run P w = .ok u w ∧ VR φ v u := by
  cases op <;> simp only [ibin] at h
  case add => cases h; exact ⟨_, by simp [binOp_add, Op.intArith, wr_eq, addI_eq], .int _ _⟩
  case sub => cases h; exact ⟨_, by simp [binOp_sub, Op.intArith, wr_eq, subI_eq], .int _ _⟩
  case mul => cases h; exact ⟨_, by simp only [binOp_mul, Op.intArith, wr_eq, Sem.run_pure]; rfl, .int _ _⟩
  case quo =>
    split at h
    · cases h
    · next hz => cases h; exact ⟨_, by rw [binOp_quo]; have : y ≠ 0 := fun e => by simp [e, ieq] at hz
                                       simp [Op.intDiv, this, wr_eq], .int _ _⟩
  case rem =>
    split at h
    · cases h
    · next hz => cases h; exact ⟨_, by rw [binOp_rem]; have : y ≠ 0 := fun e => by simp [e, ieq] at hz
                                       simp [Op.intDiv, this], .int _ _⟩
  case eql => cases h; exact ⟨_, by simp [binOp_eql, ieq_eq]; rfl, .bool _⟩
  case neq => cases h; exact ⟨_, by simp [binOp_neq, ieq_eq, bnot_eq]; rfl, .bool _⟩
  case lss => cases h; exact ⟨_, by simp [binOp_lss, ilt_eq], .bool _⟩
  case leq => cases h; exact ⟨_, by simp only [binOp_leq, Sem.run_pure]; rw [le_dec x y], .bool _⟩
  case gtr => cases h; exact ⟨_, by simp [binOp_gtr, ilt_eq], .bool _⟩
  case geq => cases h; exact ⟨_, by simp only [binOp_geq, Sem.run_pure]; rw [show decide (x ≥ y) = bnot (ilt x y) from le_dec y x], .bool _⟩
  case shl => exact absurd rfl hne.1
  case shr => exact absurd rfl hne.2
  all_goals (obtain ⟨u, hu, hr⟩ := bitsW_ok (P := P) (w := w) h φ; exact ⟨u, by simpa [binOp] using hu, hr⟩)
theorem list_beq (s t : ByteArray) : (s.data.toList == t.data.toList) = decide (s = t) := by
  rw [Bool.eq_iff_iff]
  simp only [beq_iff_eq, decide_eq_true_eq]
  exact ⟨fun h => ByteArray.ext (Array.toList_inj.1 h), fun h => by rw [h]⟩
theorem shift_ok {op : BinOp} {k yk : IntKind} {x y : Int} {v : AV} (h : ishift op k x y = some v) (φ : Phi) : ∃ u, (Op.shift op k x yk y).run P w = .ok u w ∧ VR φ v u := by
  unfold ishift at h
  split at h
  · cases h
  · next m =>
    cases op <;> simp only [] at h <;> (try cases h)
    · exact ⟨_, by simp only [Op.shift]; rw [if_neg (show ¬ Int.ofNat m < 0 from Int.not_lt.2 (Int.natCast_nonneg m)), wr_eq]; rfl, .int _ _⟩
    · exact ⟨_, by simp only [Op.shift]; rw [if_neg (show ¬ Int.ofNat m < 0 from Int.not_lt.2 (Int.natCast_nonneg m))]; rfl, .int _ _⟩
theorem sbin_ok {op : BinOp} {n c m d : Nat} {s t : ByteArray} {v : AV} {ty : TypeId} (hs : StrIs n c s) (ht : StrIs m d t) (h : sbin op n c m d = some v) (φ : Phi) :
    ∃ u, (binOp op ty (.string s) (.string t)).run P w = .ok u w ∧ VR φ v u := by
  cases op <;> simp only [sbin] at h <;> (try cases h)
  case add =>
    split at h
    · next hle =>
      cases h
      have hle := Nat.le_of_ble_eq_true hle
      refine ⟨.string (s ++ t), ?_, .str (strIs_append hs ht)⟩
      have h1 := hs.1
      have h2 := ht.1
      rw [binOp_string_add]
      unfold Op.stringOp
      simp only
      rw [if_neg]
      · rfl
      · rw [IntKind.max_i64, h1, h2]
        simp only [Nat.add_eq] at hle
        omega
    · cases h
  case eql => exact ⟨_, by simp only [binOp_string_eql, Sem.run_pure]; rw [ByteArray.toList_eq, ByteArray.toList_eq, list_beq, ← seq_eq hs ht], .bool _⟩
  case neq => exact ⟨_, by simp only [binOp_string_neq, Sem.run_pure]; rw [ByteArray.toList_eq, ByteArray.toList_eq, list_beq, ← seq_eq hs ht, ← bnot_eq], .bool _⟩
theorem bno_inj {a b : BinOp} (h : Nat.beq (bno a) (bno b) = true) : a = b := by
  cases a <;> cases b <;> first | rfl | exact absurd h (by decide)
theorem Tm.beq_eq : ∀ (a b : Tm), Tm.beq a b = true → a = b := by
  intro a
  induction a with
  | v i => intro b h; cases b <;> simp [Tm.beq] at h; rw [h]
  | c n => intro b h; cases b <;> simp [Tm.beq, ieq_iff] at h; rw [h]
  | bin o k a b iha ihb =>
    intro x h
    cases x with
    | bin p j c d =>
      simp only [Tm.beq] at h
      split at h
      · next h1 h2 h3 => rw [bno_inj h1, kinds_eq h2, iha _ h3, ihb _ h]
      · cases h
    | _ => simp [Tm.beq] at h
  | conv k a iha =>
    intro x h
    cases x with
    | conv j b =>
      simp only [Tm.beq] at h
      split at h
      · next h1 => rw [kinds_eq h1, iha _ h]
      · cases h
    | _ => simp [Tm.beq] at h
theorem askLt_cons (c : Cd) (D : List Cd) (a b : Tm) : askLt (c :: D) a b = match c with | .lt x y q => (match Tm.beq x a, Tm.beq y b with | true, true => some q | _, _ => askLt D a b) | _ => askLt D a b := rfl
theorem askLt_ok {o : Nat → Int} {D : List Cd} {a b : Tm} {r : Bool} (hD : DOk o D) (h : askLt D a b = some r) : decide (a.den o < b.den o) = r := by
  induction D with
  | nil => cases h
  | cons c D ih =>
    have hD' : DOk o D := fun x hx => hD x (List.mem_cons_of_mem _ hx)
    have hc := hD c (List.mem_cons_self ..)
    rw [askLt_cons] at h
    split at h
    · next x y q =>
      split at h
      · next h1 h2 => cases h; rw [← Tm.beq_eq _ _ h1, ← Tm.beq_eq _ _ h2]; exact hc
      · exact ih hD' h
    · exact ih hD' h
theorem askEq_cons (c : Cd) (D : List Cd) (a b : Tm) : askEq (c :: D) a b = match c with | .eq x y q => (match Tm.beq x a, Tm.beq y b with | true, true => some q | _, _ => askEq D a b) | _ => askEq D a b := rfl
theorem askEq_ok {o : Nat → Int} {D : List Cd} {a b : Tm} {r : Bool} (hD : DOk o D) (h : askEq D a b = some r) : decide (a.den o = b.den o) = r := by
  induction D with
  | nil => cases h
  | cons c D ih =>
    have hD' : DOk o D := fun x hx => hD x (List.mem_cons_of_mem _ hx)
    have hc := hD c (List.mem_cons_self ..)
    rw [askEq_cons] at h
    split at h
    · next x y q =>
      split at h
      · next h1 h2 => cases h; rw [← Tm.beq_eq _ _ h1, ← Tm.beq_eq _ _ h2]; exact hc
      · exact ih hD' h
    · exact ih hD' h
theorem symbin_ok {op : BinOp} {t : TypeId} {D : List Cd} {k : IntKind} {a b : Tm} {v : AV} (hD : DOk φ.opq D) (h : symbin op D k a b = some v) :
    ∃ u, (binOp op t (.int k (a.den φ.opq)) (.int k (b.den φ.opq))).run P w = .ok u w ∧ VR φ v u := by
  have ar : ∀ (op' : BinOp) (n : Int), op' ≠ .shl ∧ op' ≠ .shr → ibin op' k (a.den φ.opq) (b.den φ.opq) = some (.int k n) →
      ∃ u, (binOp op' t (.int k (a.den φ.opq)) (.int k (b.den φ.opq))).run P w = .ok u w ∧ VR φ (.sym D k (.bin op' k a b)) u := by
    intro op' n hne hi
    obtain ⟨u, hu, hr⟩ := ibin_ok (P := P) (w := w) (t := t) hne hi φ
    cases hr
    refine ⟨_, hu, ?_⟩
    have := VR.sym (φ := φ) k (.bin op' k a b) hD
    have e : (Tm.bin op' k a b).den φ.opq = n := by simp only [Tm.den, hi]
    rw [e] at this; exact this
  have cm : ∀ (op' : BinOp) (r : Bool), op' ≠ .shl ∧ op' ≠ .shr → ibin op' k (a.den φ.opq) (b.den φ.opq) = some (.bool r) →
      ∃ u, (binOp op' t (.int k (a.den φ.opq)) (.int k (b.den φ.opq))).run P w = .ok u w ∧ VR φ (.bool r) u := fun op' r hne hi => ibin_ok hne hi φ
  unfold symbin at h
  split at h
  · cases h; exact ar .add (wr k (addI (a.den φ.opq) (b.den φ.opq))) (by decide) rfl
  · cases h; exact ar .sub (wr k (subI (a.den φ.opq) (b.den φ.opq))) (by decide) rfl
  · cases h; exact ar .mul (wr k (Int.mul (a.den φ.opq) (b.den φ.opq))) (by decide) rfl
  · split at h
    · next hq =>
      cases h
      have e : ieq (b.den φ.opq) 0 = false := by rw [ieq_eq]; exact askEq_ok hD hq
      exact ar .quo (wr k (Int.tdiv (a.den φ.opq) (b.den φ.opq))) (by decide) (by simp only [ibin, e])
    · cases h
  · split at h
    · next hq =>
      cases h
      have e : ieq (b.den φ.opq) 0 = false := by rw [ieq_eq]; exact askEq_ok hD hq
      exact ar .rem (Int.tmod (a.den φ.opq) (b.den φ.opq)) (by decide) (by simp only [ibin, e])
    · cases h
  · obtain ⟨r, hr, h⟩ := ob_some.1 h
    cases h; exact cm .eql r (by decide) (by simp only [ibin]; rw [ieq_eq, askEq_ok hD hr])
  · obtain ⟨r, hr, h⟩ := ob_some.1 h
    cases h; exact cm .neq _ (by decide) (by simp only [ibin]; rw [ieq_eq, askEq_ok hD hr])
  · obtain ⟨r, hr, h⟩ := ob_some.1 h
    cases h; exact cm .lss r (by decide) (by simp only [ibin]; rw [ilt_eq, askLt_ok hD hr])
  · obtain ⟨r, hr, h⟩ := ob_some.1 h
    cases h; exact cm .gtr r (by decide) (by simp only [ibin]; rw [ilt_eq, askLt_ok hD hr])
  · obtain ⟨r, hr, h⟩ := ob_some.1 h
    cases h; exact cm .leq _ (by decide) (by simp only [ibin]; rw [ilt_eq, askLt_ok hD hr])
  · obtain ⟨r, hr, h⟩ := ob_some.1 h
    cases h; exact cm .geq _ (by decide) (by simp only [ibin]; rw [ilt_eq, askLt_ok hD hr])
  · cases h
theorem binS_ok {op : BinOp} {t : TypeId} {x y : AV} {X Y : Value} {v : AV} (hX : VR φ x X) (hY : VR φ y Y) (h : binS op x y = some v) : ∃ u, (binOp op t X Y).run P w = .ok u w ∧ VR φ v u := by
  unfold binS at h
  split at h
  · next D j a =>
    split at h
    · next k n =>
      obtain ⟨hk, h'⟩ := guardV_some.1 h
      have e := kinds_eq hk
      subst e
      cases hX with | sym _ _ hD => cases hY; exact symbin_ok (b := .c n) hD h'
    · next F k b =>
      obtain ⟨hk, h'⟩ := guardV_some.1 h
      have e := kinds_eq hk
      subst e
      cases hX with | sym _ _ hD => cases hY with | sym _ _ _ => exact symbin_ok hD h'
    · cases h
  · next k n =>
    split at h
    · next D j a =>
      obtain ⟨hk, h'⟩ := guardV_some.1 h
      have e := kinds_eq hk
      subst e
      cases hX; cases hY with | sym _ _ hD => exact symbin_ok (a := .c n) hD h'
    · cases h
  · cases h
theorem binW_ok {op : BinOp} {t : TypeId} {x y : AV} {X Y : Value} {v : AV} (hX : VR φ x X) (hY : VR φ y Y) (h : binW op x y = some v) : ∃ u, (binOp op t X Y).run P w = .ok u w ∧ VR φ v u := by
  unfold binW at h
  split at h
  · cases hX; cases hY
    obtain ⟨u, hu, hr⟩ := shift_ok (P := P) (w := w) h φ
    exact ⟨u, by simpa [binOp] using hu, hr⟩
  · cases hX; cases hY
    obtain ⟨u, hu, hr⟩ := shift_ok (P := P) (w := w) h φ
    exact ⟨u, by simpa [binOp] using hu, hr⟩
  · next op' j a k b h1 h2 =>
    obtain ⟨hk, h'⟩ := guardV_some.1 h
    have e := kinds_eq hk
    subst e
    cases hX; cases hY
    exact ibin_ok ⟨fun e => h1 e, fun e => h2 e⟩ h' φ
  · cases hX with | str hs => cases hY with | str ht => exact sbin_ok hs ht h φ
  · exact binS_ok hX hY h
theorem boolW_ok {neg : Bool} {t : TypeId} {x y : AV} {X Y : Value} {v : AV} (hX : VR φ x X) (hY : VR φ y Y) (ht : P.underlying t = some .bool) (h : boolW neg x y = some v) :
    ∃ u, (binOp (match neg with | true => .neq | false => .eql) t X Y).run P w = .ok u w ∧ VR φ v u := by
  unfold boolW at h
  split at h
  · cases hX; cases hY; cases h
    next a b =>
    cases neg
    · exact ⟨_, run_eql_bool w t _ _ ht, by cases a <;> cases b <;> exact .bool _⟩
    · exact ⟨_, run_neq_bool w t _ _ ht, by cases a <;> cases b <;> exact .bool _⟩
  · cases h
theorem unW_ok {op : UnOp} {x : AV} {X : Value} {v : AV} (hX : VR φ x X) (h : unW op x = some v) : ∃ u, (Op.unary op X).run P w = .ok u w ∧ VR φ v u := by
  unfold unW at h
  split at h
  · cases hX; cases h; exact ⟨_, by simp [Op.unary, bnot_eq], .bool _⟩
  · cases hX; cases h; exact ⟨_, by simp [Op.unary, Op.intArith, wr_eq, subI_eq], .int _ _⟩
  · next D k e =>
    cases hX with | sym _ _ hD =>
    cases h
    have := VR.sym (φ := φ) k (.bin .sub k (.c 0) e) hD
    have e1 : (Tm.bin .sub k (.c 0) e).den φ.opq = wr k (subI 0 (e.den φ.opq)) := by simp only [Tm.den, ibin]
    rw [e1] at this
    exact ⟨_, by simp [Op.unary, Op.intArith, wr_eq, subI_eq], this⟩
  · cases hX
    next k n =>
    obtain ⟨u, hu, hr⟩ := bitsW_ok (P := P) (w := w) h φ
    refine ⟨u, ?_, hr⟩
    simp only [Op.unary]
    rw [← hu]
    congr 2
    cases k.signed <;> rfl
  · cases h
end
end Go.Ev
/- The evaluator's operations that do not act, one by one. -/
namespace Go.Ev
section
variable {P : Program} {E : Env} {ng : Nat}
theorem eqGuard_of_VR {φ : Phi} {op : BinOp} {t : TypeId} {x y : Operand} {u : AV} {X Y : Value} (hX : VR φ u X) (hne : u ≠ .nif ∧ u ≠ .any) (hna : ∀ l, u ≠ .agg l) : eqGuard op t x y X Y = pure () := by
  cases hX <;> first | exact absurd rfl hne.1 | exact absurd rfl hne.2 | exact absurd rfl (hna _) | (cases op <;> rfl)
theorem binW_shape {op : BinOp} {x y v : AV} (h : binW op x y = some v) : (x ≠ .nif ∧ x ≠ .any) ∧ ∀ l, x ≠ .agg l := by
  refine ⟨⟨?_, ?_⟩, ?_⟩
  · rintro rfl; unfold binW at h; split at h <;> simp_all [binS]
  · rintro rfl; unfold binW at h; split at h <;> simp_all [binS]
  · rintro l rfl; unfold binW at h; split at h <;> simp_all [binS]
theorem bin_pure {o : Oper} {op : BinOp} {t yt : TypeId} {X Y : Operand} {x y : Opd} (ho : o.op = .binOp op t X Y yt) (hx : opd ng X = some x) (hy : opd ng Y = some y) :
    PureOk P ng o (binV op x y) := by
  intro φ nt T a w v hT hG h
  obtain ⟨u, hu, h⟩ := ob_some.1 h
  obtain ⟨u', hu', h⟩ := ob_some.1 h
  have hX := getO_ok hT hG hx hu
  have hY := getO_ok hT hG hy hu'
  obtain ⟨r, hr, hv⟩ := binW_ok (P := P) (w := w) (t := t) hX hY h
  obtain ⟨h1, h2⟩ := binW_shape h
  exact ⟨r, by simp [execOp, ho, eqGuard_of_VR hX h1 h2, hr], hv⟩
theorem bool_pure (hE : EnvOk P E) {o : Oper} {neg : Bool} {t yt : TypeId} {X Y : Operand} {x y : Opd} (ho : o.op = .binOp (match neg with | true => .neq | false => .eql) t X Y yt)
    (hx : opd ng X = some x) (hy : opd ng Y = some y) (ht : E.und t = some .bool) : PureOk P ng o (boolV neg x y) := by
  intro φ nt T a w v hT hG h
  obtain ⟨u, hu, h⟩ := ob_some.1 h
  obtain ⟨u', hu', h⟩ := ob_some.1 h
  have hX := getO_ok hT hG hx hu
  have hY := getO_ok hT hG hy hu'
  obtain ⟨r, hr, hv⟩ := boolW_ok (P := P) (w := w) (t := t) hX hY (und_ok hE ht) h
  have h1 : (u ≠ .nif ∧ u ≠ .any) ∧ ∀ l, u ≠ .agg l := by
    refine ⟨⟨?_, ?_⟩, ?_⟩
    · rintro rfl; simp [boolW] at h
    · rintro rfl; simp [boolW] at h
    · rintro l rfl; simp [boolW] at h
  refine ⟨r, ?_, hv⟩
  cases neg <;> simp only [] at ho hr <;> simp [execOp, ho, eqGuard_of_VR hX h1.1 h1.2, hr]
theorem un_pure {o : Oper} {op : UnOp} {t : TypeId} {X : Operand} {x : Opd} (ho : o.op = .unOp op t X) (hx : opd ng X = some x) : PureOk P ng o (unV op x) := by
  intro φ nt T a w v hT hG h
  obtain ⟨u, hu, h⟩ := ob_some.1 h
  obtain ⟨r, hr, hv⟩ := unW_ok (P := P) (w := w) (getO_ok hT hG hx hu) h
  exact ⟨r, by simp [execOp, ho, hr], hv⟩
theorem conv_pure (hE : EnvOk P E) {o : Oper} {k : IntKind} {s d : TypeId} {ds : TypeDesc} {X : Operand} {x : Opd} (ho : o.op = .convert s d X) (hx : opd ng X = some x)
    (hs : E.und s = some ds) (hd : E.und d = some (.int k)) : PureOk P ng o (convV k x) := by
  intro φ nt T a w v hT hG h
  obtain ⟨u, hu, h⟩ := ob_some.1 h
  have hX := getO_ok hT hG hx hu
  generalize hXe : a.eval X = X' at hX
  split at h
  · cases hX; cases h
    exact ⟨_, by simp [execOp, ho, hXe, convert, run_underlying (und_ok hE hs), run_underlying (und_ok hE hd), Conv.intToInt, wr_eq], .int _ _⟩
  · next D j e =>
    cases hX with | sym _ _ hD =>
    cases h
    have := VR.sym (φ := φ) k (.conv k e) hD
    have e1 : (Tm.conv k e).den φ.opq = wr k (e.den φ.opq) := by simp only [Tm.den]
    rw [e1] at this
    exact ⟨_, by simp [execOp, ho, hXe, convert, run_underlying (und_ok hE hs), run_underlying (und_ok hE hd), Conv.intToInt, wr_eq], this⟩
  · cases h
theorem same_pure (hE : EnvOk P E) {o : Oper} {s d : TypeId} {X : Operand} {x : Opd} (ho : o.op = .convert s d X) (hx : opd ng X = some x)
    (hs : E.und s = some .string) (hd : E.und d = some .string) : PureOk P ng o (sameV x) := by
  intro φ nt T a w v hT hG h
  obtain ⟨u, hu, h⟩ := ob_some.1 h
  have hX := getO_ok hT hG hx hu
  generalize hXe : a.eval X = X' at hX
  split at h
  · cases hX with | str hst =>
    cases h
    exact ⟨_, by simp [execOp, ho, hXe, convert, run_underlying (und_ok hE hs), run_underlying (und_ok hE hd)], .str hst⟩
  · cases h
theorem mkif_pure (hE : EnvOk P E) {o : Oper} {t : TypeId} {d : TypeDesc} {X : Operand} {x : Opd} (ho : o.op = .makeInterface t X) (hx : opd ng X = some x)
    (hd : E.und t = some d) (hn : ∀ ms, d ≠ .interface ms) : PureOk P ng o (mkifV t x) := by
  intro φ nt T a w v hT hG h
  obtain ⟨u, hu, h⟩ := ob_some.1 h
  cases h
  refine ⟨_, ?_, .iface t (getO_ok hT hG hx hu)⟩
  have : (Instr.makeInterface t (a.eval X)).run P w = .ok (.iface t (a.eval X)) w := by
    simp only [Instr.makeInterface, Sem.run_bind, run_underlying (und_ok hE hd), Result.andThen_ok]
    cases d <;> first | exact absurd rfl (hn _) | rfl
  simp [execOp, ho, this]
theorem mkfn_pure {o : Oper} {f : FuncId} {A B : Array Operand} {x y : List Opd} (ho : o.op = .makeFunc (.func f) A B) (hx : opds ng A = some x) (hy : opds ng B = some y) :
    PureOk P ng o (mkfnV f x y) := by
  intro φ nt T a w v hT hG h
  obtain ⟨u, hu, h⟩ := ob_some.1 h
  obtain ⟨u', hu', h⟩ := ob_some.1 h
  cases h
  exact ⟨_, by simp [execOp, ho, Instr.makeFunc], .fn f (opds_ok hT hG hx hu) (opds_ok hT hG hy hu')⟩
theorem mkb_pure {o : Oper} {name : String} {A B : Array Operand} {x y : List Opd} (ho : o.op = .makeFunc (.method name) A B) (hx : opds ng A = some x) (hy : opds ng B = some y) :
    PureOk P ng o (mkbV name x y) := by
  intro φ nt T a w v hT hG h
  obtain ⟨u, hu, h⟩ := ob_some.1 h
  obtain ⟨u', hu', h⟩ := ob_some.1 h
  split at h
  · next t _ _ =>
    cases h
    have hA := opds_ok hT hG hx hu
    generalize hXA : A.map a.eval = XA at hA
    obtain ⟨l⟩ := XA
    cases hA with | cons h1 h2 =>
    cases h2
    cases h1 with | iface _ hz =>
    next z =>
    have e : (execOp a.eval o).run P w = .ok (.value (.func (.method name) #[.iface t z] (B.map a.eval))) w := by
      simp [execOp, ho, Instr.makeFunc, hXA]
    exact ⟨_, e, .bound _ _ _ _⟩
  · cases h
/-! ### type assertions -/
theorem hasAll_ok : ∀ (l : List (String × TypeId)) (ms : List Method), hasAll l ms = true → ∀ w ∈ l, (ms.any fun m => m.name == w.1 && m.sig == w.2) = true
  | [], _, _, _, h => by cases h
  | w :: l, ms, h, x, hx => by
    have key : ∀ ms : List Method, lrec (X := Bool) false (fun (m : Method) _ more => match (m.name == w.1 && m.sig == w.2) with | true => true | false => more ()) ms = (ms.any fun m => m.name == w.1 && m.sig == w.2) := by
      intro ms
      induction ms with
      | nil => rfl
      | cons m ms ih =>
        change (match (m.name == w.1 && m.sig == w.2) with | true => true | false => lrec (X := Bool) false (fun (m : Method) _ more => match (m.name == w.1 && m.sig == w.2) with | true => true | false => more ()) ms) = _
        rw [ih, List.any_cons]
        cases (m.name == w.1 && m.sig == w.2) <;> rfl
    change (match lrec (X := Bool) false (fun (m : Method) _ more => match (m.name == w.1 && m.sig == w.2) with | true => true | false => more ()) ms with | true => hasAll l ms | false => false) = true at h
    rw [key] at h
    split at h
    · next h1 =>
      cases hx with
      | head => exact h1
      | tail _ hx => exact hasAll_ok l ms h x hx
    · cases h
theorem missing_none {want : Array (String × TypeId)} {got : Array Method} (h : hasAll want.toList got.toList = true) : Instr.missingMethod want got = none := by
  have h0 : (want.toList.filter fun (x : String × TypeId) => !got.any fun m => m.name == x.1 && m.sig == x.2) = [] := by
    rw [List.filter_eq_nil_iff]
    intro x hx
    have := hasAll_ok _ _ h x hx
    rw [← Array.any_toList]
    simp [this]
  unfold Instr.missingMethod
  have h1 : (want.toList.filter fun x => match x with | (name, sig) => !got.any fun m => m.name == name && m.sig == sig) = [] := h0
  simp only [h1]
  rfl
theorem tas_pure (hE : EnvOk P E) {o : Oper} {X : Operand} {x : Opd} {xt t : TypeId} {ok : Bool} {d : TypeDesc} (ho : o.op = .typeAssert X xt t ok) (hx : opd ng X = some x) (hd : E.und t = some d) :
    PureOk P ng o (tasV E d t ok x) := by
  intro φ nt T a w v hT hG h
  obtain ⟨u, hu, h⟩ := ob_some.1 h
  have hX := getO_ok hT hG hx hu
  have hund := und_ok hE hd
  have okV_ok : ∀ (u : AV) (y : Value), VR φ u y → VR φ (okV ok u) (if ok then .tuple #[y, .bool true] else y) := by
    intro u y hy
    cases ok
    · exact hy
    · exact .tup (.cons hy (.cons (.bool true) .nil))
  generalize hXe : a.eval X = X' at hX
  split at h
  · next want u0 y =>
    obtain ⟨i, hi, h⟩ := ob_some.1 h
    obtain ⟨h1, h⟩ := guardV_some.1 h
    cases h
    cases hX with | iface _ hy =>
    refine ⟨_, ?_, okV_ok _ _ (.iface _ hy)⟩
    simp [execOp, ho, hXe, Instr.typeAssert, run_underlying hund, run_typeInfo (hE.ti _ _ hi), missing_none h1]
  · cases h
  · next d' u0 y hnot =>
    obtain ⟨h1, h⟩ := guardV_some.1 h
    obtain e := Nat.eq_of_beq_eq_true h1
    cases h
    cases hX with | iface _ hy =>
    refine ⟨_, ?_, okV_ok _ _ hy⟩
    subst e
    cases d <;> first | exact absurd rfl (hnot _) | simp [execOp, ho, hXe, Instr.typeAssert, run_underlying hund]
  · cases h
theorem ext_pure {o : Oper} {i : Nat} {X : Operand} {x : Opd} (ho : o.op = .extract X i) (hx : opd ng X = some x) : PureOk P ng o (extV x i) := by
  intro φ nt T a w v hT hG h
  obtain ⟨u, hu, h⟩ := ob_some.1 h
  have hX := getO_ok hT hG hx hu
  generalize hXe : a.eval X = X' at hX
  split at h
  · cases hX with | tup hl =>
    rw [nth_eq] at h
    obtain ⟨y, hy, hr⟩ := hl.get h
    rw [Array.getElem?_toList] at hy
    exact ⟨y, by simp [execOp, ho, hXe, Instr.extract, hy], hr⟩
  · cases h
theorem faddr_pure (hE : EnvOk P E) {o : Oper} {s : TypeId} {fs : Array Field} {i : Nat} {f : Field} {n : Nat} {X : Operand} {x : Opd} (ho : o.op = .fieldAddr s X i) (hx : opd ng X = some x)
    (hs : E.und s = some (.struct fs)) (hf : fs[i]? = some f) (hn : E.size f.type = some (n + 1)) : PureOk P ng o (faddrV x f.offset) := by
  intro φ nt T a w v hT hG h
  obtain ⟨u, hu, h⟩ := ob_some.1 h
  have hX := getO_ok hT hG hx hu
  generalize hXe : a.eval X = X' at hX
  split at h
  · cases hX with | ptr off hp =>
    cases h
    refine ⟨_, by simp [execOp, ho, hXe, Instr.fieldAt, run_underlying (und_ok hE hs), hf, Instr.sureAddr, fieldPlace, size_ok hE hn, Addr.add_lit]; rfl, ?_⟩
    rw [Nat.add_assoc]; exact .ptr _ hp
  · cases h
theorem field_pure (hE : EnvOk P E) {o : Oper} {t : TypeId} {fs : Array Field} {i : Nat} {f : Field} {n : Nat} {b : Bool} {X : Operand} {x : Opd} (ho : o.op = .field t X i) (hx : opd ng X = some x)
    (hs : E.und t = some (.struct fs)) (hf : fs[i]? = some f) (hn : E.size f.type = some n) (hb : E.isAgg f.type = some b) : PureOk P ng o (fieldV x f.offset n b) := by
  intro φ nt T a w v hT hG h
  obtain ⟨u, hu, h⟩ := ob_some.1 h
  have hX := getO_ok hT hG hx hu
  generalize hXe : a.eval X = X' at hX
  split at h
  · cases hX with | agg hl =>
    obtain ⟨y, hy, hr⟩ := part_ok (P := P) (w := w) hE hb hn hl h
    exact ⟨y, by simp [execOp, ho, hXe, Instr.field, run_underlying (und_ok hE hs), hf, asAgg, hy], hr⟩
  · cases h
theorem lt_of_blt {i n : Nat} (h : Nat.blt i n = true) : i < n := by simpa [Nat.blt_eq] using h
theorem iaddrS_pure (hE : EnvOk P E) {o : Oper} {t e : TypeId} {s : Nat} {X I : Operand} {x i : Opd} (ho : o.op = .indexAddr t X I) (hx : opd ng X = some x) (hi : opd ng I = some i)
    (ht : E.und t = some (.slice e)) (hs : E.size e = some s) : PureOk P ng o (iaddrSV s x i) := by
  intro φ nt T a w v hT hG h
  obtain ⟨u, hu, h⟩ := ob_some.1 h
  obtain ⟨m, hm, h⟩ := ob_some.1 h
  have hX := getO_ok hT hG hx hu
  obtain ⟨k, hk⟩ := natO_ok hT hG hi hm
  generalize hXe : a.eval X = X' at hX
  split at h
  · obtain ⟨hlt, h⟩ := guardV_some.1 h
    have hlt := lt_of_blt hlt
    cases h
    cases hX with
    | sliceC off l c hp =>
      refine ⟨_, by simp [execOp, ho, hXe, hk, Instr.indexAt, asIntOf, run_underlying (und_ok hE ht), size_ok hE hs, hlt, Addr.add_lit]; rfl, ?_⟩
      rw [Nat.add_assoc]; exact .ptr _ hp
    | sliceO off l c s' hp _ _ =>
      refine ⟨_, by simp [execOp, ho, hXe, hk, Instr.indexAt, asIntOf, run_underlying (und_ok hE ht), size_ok hE hs, hlt, Addr.add_lit]; rfl, ?_⟩
      rw [Nat.add_assoc]; exact .ptr _ hp
  · cases h
theorem iaddrA_pure (hE : EnvOk P E) {o : Oper} {t e : TypeId} {n s : Nat} {X I : Operand} {x i : Opd} (ho : o.op = .indexAddr t X I) (hx : opd ng X = some x) (hi : opd ng I = some i)
    (ht : E.und t = some (.array n e)) (hs : E.size e = some s) : PureOk P ng o (iaddrAV n s x i) := by
  intro φ nt T a w v hT hG h
  obtain ⟨u, hu, h⟩ := ob_some.1 h
  obtain ⟨m, hm, h⟩ := ob_some.1 h
  have hX := getO_ok hT hG hx hu
  obtain ⟨k, hk⟩ := natO_ok hT hG hi hm
  generalize hXe : a.eval X = X' at hX
  split at h
  · obtain ⟨hlt, h⟩ := guardV_some.1 h
    have hlt := lt_of_blt hlt
    cases h
    cases hX with | ptr off hp =>
    refine ⟨_, by simp [execOp, ho, hXe, hk, Instr.indexAt, asIntOf, run_underlying (und_ok hE ht), size_ok hE hs, hlt, Addr.add_lit, Instr.sureAddr]; rfl, ?_⟩
    rw [Nat.add_assoc]; exact .ptr _ hp
  · cases h
theorem idxS_pure (hE : EnvOk P E) {o : Oper} {t : TypeId} {X I : Operand} {x i : Opd} (ho : o.op = .index t X I) (hx : opd ng X = some x) (hi : opd ng I = some i)
    (ht : E.und t = some .string) : PureOk P ng o (idxSV x i) := by
  intro φ nt T a w v hT hG h
  obtain ⟨u, hu, h⟩ := ob_some.1 h
  obtain ⟨m, hm, h⟩ := ob_some.1 h
  have hX := getO_ok hT hG hx hu
  obtain ⟨k, hk⟩ := natO_ok hT hG hi hm
  generalize hXe : a.eval X = X' at hX
  split at h
  · obtain ⟨hlt, h⟩ := guardV_some.1 h
    have hlt := lt_of_blt hlt
    cases h
    cases hX with | str hst =>
    next s =>
    have hlt' : m < s.size := by rw [hst.1]; exact hlt
    have hg : s[m]? = some s[m] := getElem?_pos s m hlt'
    refine ⟨.int .u8 (s[m].toNat : Nat), by simp [execOp, ho, hXe, hk, Instr.index, asIntOf, run_underlying (und_ok hE ht), hg], ?_⟩
    rw [strIs_get hst hg]; exact .int _ _
  · cases h
theorem idxA_pure (hE : EnvOk P E) {o : Oper} {t e : TypeId} {n s : Nat} {b : Bool} {X I : Operand} {x i : Opd} (ho : o.op = .index t X I) (hx : opd ng X = some x) (hi : opd ng I = some i)
    (ht : E.und t = some (.array n e)) (hs : E.size e = some s) (hb : E.isAgg e = some b) : PureOk P ng o (idxAV n s b x i) := by
  intro φ nt T a w v hT hG h
  obtain ⟨u, hu, h⟩ := ob_some.1 h
  obtain ⟨m, hm, h⟩ := ob_some.1 h
  obtain ⟨hlt, h⟩ := guardV_some.1 h
  have hX := getO_ok hT hG hx hu
  obtain ⟨k, hk⟩ := natO_ok hT hG hi hm
  generalize hXe : a.eval X = X' at hX
  have hlt := lt_of_blt hlt
  split at h
  · cases hX with | agg hl =>
    obtain ⟨y, hy, hr⟩ := part_ok (P := P) (w := w) hE hb hs hl h
    exact ⟨y, by simp [execOp, ho, hXe, hk, Instr.index, asIntOf, run_underlying (und_ok hE ht), size_ok hE hs, hlt]; exact hy ▸ rfl, hr⟩
  · cases h
theorem optNat_ok {φ : Phi} {nt : Nat} {T : Tr AV} {a : Act} (hT : TR φ nt T a.tmps) (hG : GR ng φ) {X : Option Operand} {x : Option Opd} {d n : Nat} (hx : optOpd ng X = some x)
    (h : optNat x T d = some n) : (X = none ∧ n = d) ∨ ∃ Y k, X = some Y ∧ a.eval Y = .int k (n : Int) := by
  unfold optOpd at hx
  split at hx
  · cases hx; cases h; exact .inl ⟨rfl, rfl⟩
  · split at hx
    · next y hy =>
      cases hx
      obtain ⟨k, hk⟩ := natO_ok hT hG hy h
      exact .inr ⟨_, k, rfl, hk⟩
    · cases hx
theorem le_of_ble {i n : Nat} (h : Nat.ble i n = true) : i ≤ n := Nat.le_of_ble_eq_true h
theorem sbound {w : World} {k : IntKind} {n y : Nat} {c : BoundsCode} (h : n ≤ y) : (Instr.sliceBound (.int k (n : Int)) y c).run P w = .ok n w := by
  have := run_sliceBound (P := P) w k (n : Int) y c (by omega) (by omega)
  simpa using this
/-- low and high, as the model checks them; no third index -/
theorem bounds_ok {α : Type} {φ : Phi} {nt : Nat} {T : Tr AV} {a : Act} {w : World} (hT : TR φ nt T a.tmps) (hG : GR ng φ) {L H : Option Operand} {l h : Option Opd} {dh cap : Nat} {K : Nat → Nat → Option α} {v : α}
    (hl : optOpd ng L = some l) (hh : optOpd ng H = some h) (hk : boundsV l h T dh cap K = some v) :
    ∃ lo hi, K lo hi = some v ∧ lo ≤ hi ∧ hi ≤ cap ∧ ∀ isS cap', cap ≤ cap' → (Instr.sliceBounds isS dh cap' (L.map a.eval) (H.map a.eval) none).run P w = .ok (lo, hi, cap') w := by
  obtain ⟨hi, h1, hk⟩ := ob_some.1 hk
  obtain ⟨h2, hk⟩ := guardV_some.1 hk
  obtain ⟨lo, h3, hk⟩ := ob_some.1 hk
  obtain ⟨h4, hk⟩ := guardV_some.1 hk
  have h2 := le_of_ble h2
  have h4 := le_of_ble h4
  refine ⟨lo, hi, hk, h4, h2, fun isS cap' hc => ?_⟩
  have h2' : hi ≤ cap' := Nat.le_trans h2 hc
  rcases optNat_ok hT hG hh h1 with ⟨rfl, rfl⟩ | ⟨Y, kh, rfl, hY⟩ <;> rcases optNat_ok hT hG hl h3 with ⟨rfl, rfl⟩ | ⟨Z, kl, rfl, hZ⟩ <;>
    simp [Instr.sliceBounds, *, sbound]
theorem bounds3_ok {α : Type} {φ : Phi} {nt : Nat} {T : Tr AV} {a : Act} {w : World} (hT : TR φ nt T a.tmps) (hG : GR ng φ) {L : Option Operand} {Hi M : Operand} {l : Option Opd} {h : Opd} {m dh cap : Nat} {km : IntKind}
    {K : Nat → Nat → Option α} {v : α} (hl : optOpd ng L = some l) (hh : opd ng Hi = some h) (hm : a.eval M = .int km (m : Int)) (hmc : m ≤ cap) (hk : boundsV l (some h) T dh m K = some v) :
    ∃ lo hi, K lo hi = some v ∧ lo ≤ hi ∧ hi ≤ m ∧ ∀ isS ln, (Instr.sliceBounds isS ln cap (L.map a.eval) (some (a.eval Hi)) (some (a.eval M))).run P w = .ok (lo, hi, m) w := by
  obtain ⟨hi, h1, hk⟩ := ob_some.1 hk
  obtain ⟨h2, hk⟩ := guardV_some.1 hk
  obtain ⟨lo, h3, hk⟩ := ob_some.1 hk
  obtain ⟨h4, hk⟩ := guardV_some.1 hk
  have h2 := le_of_ble h2
  have h4 := le_of_ble h4
  refine ⟨lo, hi, hk, h4, h2, fun isS ln => ?_⟩
  obtain ⟨kh, hkh⟩ := natO_ok hT hG hh h1
  rcases optNat_ok hT hG hl h3 with ⟨rfl, rfl⟩ | ⟨Z, kl, rfl, hZ⟩ <;>
    simp [Instr.sliceBounds, *, sbound]
theorem sliceS_pure (hE : EnvOk P E) {o : Oper} {t : TypeId} {X : Operand} {L H : Option Operand} {x : Opd} {l h : Option Opd} (ho : o.op = .slice t X L H none) (hx : opd ng X = some x)
    (hl : optOpd ng L = some l) (hh : optOpd ng H = some h) (ht : E.und t = some .string) : PureOk P ng o (sliceSV x l h) := by
  intro φ nt T a w v hT hG hv
  obtain ⟨u, hu, hv⟩ := ob_some.1 hv
  have hX := getO_ok hT hG hx hu
  generalize hXe : a.eval X = X' at hX
  split at hv
  · cases hX with | str hst =>
    next s =>
    obtain ⟨lo, hi, hk, h1, h2, hb⟩ := bounds_ok (P := P) (w := w) hT hG hl hh hv
    cases hk
    have hb := hb false _ (Nat.le_refl _)
    refine ⟨.string (s.extract lo hi), ?_, .str (strIs_extract hst h1 h2)⟩
    rw [← hst.1] at hb
    have hsl : (Instr.sliceAt t (.string s) (L.map a.eval) (H.map a.eval) none).run P w = .ok (.string (s.extract lo hi)) w := by
      simp [Instr.sliceAt, Instr.slice, run_underlying (und_ok hE ht), hb]
    simp [execOp, ho, hXe, hsl]
  · cases hv
theorem optOpd_none {L : Option Operand} (h : optOpd ng L = some none) : L = none := by
  unfold optOpd at h
  split at h
  · rfl
  · split at h <;> cases h
theorem optOpd_some {L : Option Operand} {y : Opd} (h : optOpd ng L = some (some y)) : ∃ Y, L = some Y ∧ opd ng Y = some y := by
  unfold optOpd at h
  split at h
  · cases h
  · split at h
    · next z hz => cases h; exact ⟨_, rfl, hz⟩
    · cases h
theorem slice_pure (hE : EnvOk P E) {o : Oper} {t e : TypeId} {size : Nat} {X : Operand} {L H : Option Operand} {x : Opd} {l h : Option Opd} (ho : o.op = .slice t X L H none) (hx : opd ng X = some x)
    (hl : optOpd ng L = some l) (hh : optOpd ng H = some h) (ht : E.und t = some (.slice e)) (hs : E.size e = some size) : PureOk P ng o (sliceV size x l h none) := by
  intro φ nt T a w v hT hG hv
  obtain ⟨u, hu, hv⟩ := ob_some.1 hv
  have hX := getO_ok hT hG hx hu
  have key : ∀ r, (Instr.slice t (a.eval X) (L.map a.eval) (H.map a.eval) none).run P w = .ok r w → (execOp a.eval o).run P w = .ok (.value r) w := by
    intro r hr
    have : (Instr.sliceAt t (a.eval X) (L.map a.eval) (H.map a.eval) none).run P w = .ok r w := by
      simp [Instr.sliceAt, run_underlying (und_ok hE ht), hr]
    simp [execOp, ho, this]
  generalize hXe : a.eval X = X' at hX key
  split at hv
  · cases hX
    obtain ⟨m, hm, hv⟩ := ob_some.1 hv
    obtain ⟨_, hv⟩ := guardV_some.1 hv
    obtain ⟨lo, hi, hk, h1, h2, hb⟩ := bounds_ok (P := P) (w := w) hT hG hl hh hv
    cases hk
    refine ⟨_, key _ (by simp [Instr.slice, run_underlying (und_ok hE ht), hb true 0 (Nat.le_refl _), size_ok hE hs]; rfl), ?_⟩
    have e1 : lo = 0 := by omega
    have e2 : hi = 0 := by omega
    subst e1 e2
    exact .nslice
  · next b off n c op =>
    obtain ⟨lo, hi, hk, h1, h2, hb⟩ := bounds_ok (P := P) (w := w) hT hG hl hh hv
    cases hX with
    | sliceC off n c hp =>
      have hb := hb true c (Nat.le_refl _)
      split at hk
      · next he hop =>
        cases hk
        have he := Nat.eq_of_beq_eq_true he
        refine ⟨_, key _ (by simp [Instr.slice, run_underlying (und_ok hE ht), hb, size_ok hE hs, he]; rfl), ?_⟩
        rw [← he]
        exact .sliceC _ _ _ hp
      · next he hop => cases hop
      · next he hop =>
        cases hk
        have he := Nat.ne_of_beq_eq_false he
        refine ⟨_, key _ (by simp [Instr.slice, run_underlying (und_ok hE ht), hb, size_ok hE hs, Ne.symm he, Addr.add_lit]; rfl), ?_⟩
        rw [Nat.add_assoc]
        exact .sliceC _ _ _ hp
      · next he hop => cases hop
    | sliceO off n c s hp hsz hn =>
      next p =>
      have hb := hb true (c + p.ext) (by omega)
      split at hk
      · next he hop => cases hop
      · next op' he hop =>
        split at hk
        · cases hk
          refine ⟨_, key _ (by simp [Instr.slice, run_underlying (und_ok hE ht), hb, size_ok hE hs, Addr.add_lit]; rfl), ?_⟩
          exact .sliceO _ _ _ _ hp hsz hn
        · cases hk
      · next he hop => cases hop
      · next op' he hop =>
        have he := Nat.ne_of_beq_eq_false he
        split at hk
        · next hbs =>
          have hbs := Nat.eq_of_beq_eq_true hbs
          cases hk
          have hne : ¬ (c + p.ext = lo) := by omega
          refine ⟨_, key _ (by simp [Instr.slice, run_underlying (und_ok hE ht), hb, size_ok hE hs, hne, Addr.add_lit]; rfl), ?_⟩
          rw [Nat.add_assoc, show c + p.ext - lo = (c - lo) + p.ext by omega]
          refine .sliceO _ _ _ _ hp hsz ?_
          show off + lo * size + (c - lo) * (s + 1) = p.n
          rw [← hbs, Nat.add_assoc, ← Nat.add_mul, show lo + (c - lo) = c by omega]; exact hn
        · cases hk
  · next D e' =>
    split at hv
    case h_2 => cases hv
    next y =>
    obtain ⟨z, hz, hv⟩ := ob_some.1 hv
    obtain rfl := optOpd_none hl
    obtain ⟨Y, rfl, hy⟩ := optOpd_some hh
    have hY := getO_ok hT hG hy hz
    cases hX with | osl hD hle hc hp =>
    next p n c =>
    have fin : ∀ (m : Nat) (k : IntKind), m ≤ c → a.eval Y = .int k (m : Int) → ∃ p', (p' = none → p = none) ∧ (execOp a.eval o).run P w = .ok (.value (.slice p' m c)) w := by
      intro m k hm he
      refine ⟨if c = 0 then p else p.map (·.add (0 * size)), fun e => ?_, key _ ?_⟩
      · split at e
        · exact e
        · cases p with
          | none => rfl
          | some q => cases e
      · simp [Instr.slice, run_underlying (und_ok hE ht), Instr.sliceBounds, he, sbound hm, size_ok hE hs]
    unfold oslW at hv
    split at hv
    · next k m =>
      split at hv
      · next hq =>
        cases hv
        have hq : decide (e'.den φ.opq < (m : Int)) = false := askLt_ok hD hq
        have hq := of_decide_eq_false hq
        have hmn : m ≤ n := by rw [hle] at hq; omega
        generalize hYe : a.eval Y = Y' at hY
        cases hY
        obtain ⟨p', hp', hr⟩ := fin m _ (Nat.le_trans hmn hc) hYe
        exact ⟨_, hr, .osl hD rfl (Nat.le_trans hmn hc) (fun e => by have := hp (hp' e); omega)⟩
      · cases hv
    · next F k h =>
      split at hv
      · next q1 q2 =>
        cases hv
        have q1 : decide (h.den φ.opq < 0) = false := askLt_ok hD q1
        have q1 := of_decide_eq_false q1
        have q2 := of_decide_eq_false (askLt_ok hD q2)
        obtain ⟨m, hm⟩ := Int.eq_ofNat_of_zero_le (Int.not_lt.1 q1)
        have hmn : m ≤ n := by rw [hle, hm] at q2; omega
        generalize hYe : a.eval Y = Y' at hY
        cases hY with | sym _ _ _ =>
        rw [hm] at hYe
        obtain ⟨p', hp', hr⟩ := fin m _ (Nat.le_trans hmn hc) hYe
        exact ⟨_, hr, .osl hD hm (Nat.le_trans hmn hc) (fun e => by have := hp (hp' e); omega)⟩
      · cases hv
    · cases hv
  · cases hv
theorem sliceE_pure (hE : EnvOk P E) {o : Oper} {t e : TypeId} {size : Nat} {X : Operand} {L H : Option Operand} {x : Opd} {l h : Option Opd} (ho : o.op = .slice t X L H none) (hx : opd ng X = some x)
    (hl : optOpd ng L = some l) (hh : optOpd ng H = some h) (ht : E.und t = some (.slice e)) (hs : E.size e = some size) : PureOk P ng o (sliceE size x l h) := by
  intro φ nt T a w v hT hG hv
  unfold sliceE at hv
  split at hv
  · next u hu => cases hv; exact slice_pure hE ho hx hl hh ht hs φ nt T a w _ hT hG hu
  · obtain ⟨u, hu, hv⟩ := ob_some.1 hv
    have hX := getO_ok hT hG hx hu
    have key : ∀ r, (Instr.slice t (a.eval X) (L.map a.eval) (H.map a.eval) none).run P w = .ok r w → (execOp a.eval o).run P w = .ok (.value r) w := by
      intro r hr
      have : (Instr.sliceAt t (a.eval X) (L.map a.eval) (H.map a.eval) none).run P w = .ok r w := by
        simp [Instr.sliceAt, run_underlying (und_ok hE ht), hr]
      simp [execOp, ho, this]
    generalize hXe : a.eval X = X' at hX key
    split at hv
    case h_3 => cases hv
    case h_2 =>
      obtain ⟨lo, hi, hk, h1, h2, hb⟩ := bounds_ok (P := P) (w := w) hT hG hl hh hv
      cases hk
      cases hX with | osl hD he hc hp =>
      next p n c =>
      have e0 : n = 0 := by simp [Tm.den] at he; omega
      have e1 : lo = 0 := by omega
      have e2 : hi = 0 := by omega
      subst e0 e1 e2
      have hb := hb true c hc
      cases p with
      | none =>
        obtain ⟨_, rfl⟩ := hp rfl
        refine ⟨.slice none 0 0, key _ (by simp [Instr.slice, run_underlying (und_ok hE ht), hb, size_ok hE hs]), .osl (fun c hc => by cases hc) (by rfl) (Nat.le_refl _) (fun _ => ⟨rfl, rfl⟩)⟩
      | some p =>
        by_cases hc0 : c = 0
        · subst hc0
          refine ⟨.slice (some p) 0 0, key _ (by simp [Instr.slice, run_underlying (und_ok hE ht), hb, size_ok hE hs]), .osl (fun c hc => by cases hc) (by rfl) (Nat.le_refl _) (fun h => by cases h)⟩
        · refine ⟨.slice (some (p.add (0 * size))) 0 c, key _ (by simp [Instr.slice, run_underlying (und_ok hE ht), hb, size_ok hE hs, hc0]), .osl (fun c hc => by cases hc) (by rfl) (Nat.zero_le _) (fun h => by cases h)⟩
    next b off n c op =>
    obtain ⟨lo, hi, hk, h1, h2, hb⟩ := bounds_ok (P := P) (w := w) hT hG hl hh hv
    obtain ⟨h3, hk⟩ := guardV_some.1 hk
    have h3 := Nat.eq_of_beq_eq_true h3
    cases hk
    cases hX with | sliceO _ _ _ _ hp hsz hn =>
    next p =>
    have hb := hb true (c + p.ext) (by omega)
    have hz : hi - lo = 0 := by omega
    by_cases he : c + p.ext = lo
    · rw [he] at hb
      refine ⟨.slice (some ⟨p.blk, p.off + off, none⟩) (hi - lo) 0, key _ (by simp [Instr.slice, run_underlying (und_ok hE ht), hb, size_ok hE hs, he]), .osl (fun c hc => by cases hc) (by rw [hz]; rfl) (by omega) (fun h => by cases h)⟩
    · refine ⟨.slice (some ⟨p.blk, p.off + off + lo * size, none⟩) (hi - lo) (c + p.ext - lo), key _ (by simp [Instr.slice, run_underlying (und_ok hE ht), hb, size_ok hE hs, he, Addr.add_lit]), .osl (fun c hc => by cases hc) (by rw [hz]; rfl) (by omega) (fun h => by cases h)⟩
theorem slice3_pure (hE : EnvOk P E) {o : Oper} {t e : TypeId} {size : Nat} {X : Operand} {L : Option Operand} {Hi M : Operand} {x : Opd} {l : Option Opd} {h m : Opd} (ho : o.op = .slice t X L (some Hi) (some M)) (hx : opd ng X = some x)
    (hl : optOpd ng L = some l) (hh : opd ng Hi = some h) (hm : opd ng M = some m) (ht : E.und t = some (.slice e)) (hs : E.size e = some size) : PureOk P ng o (sliceV size x l (some h) (some m)) := by
  intro φ nt T a w v hT hG hv
  obtain ⟨u, hu, hv⟩ := ob_some.1 hv
  have hX := getO_ok hT hG hx hu
  have key : ∀ r, (Instr.slice t (a.eval X) (L.map a.eval) (some (a.eval Hi)) (some (a.eval M))).run P w = .ok r w → (execOp a.eval o).run P w = .ok (.value r) w := by
    intro r hr
    have : (Instr.sliceAt t (a.eval X) (L.map a.eval) (some (a.eval Hi)) (some (a.eval M))).run P w = .ok r w := by
      simp [Instr.sliceAt, run_underlying (und_ok hE ht), hr]
    simp [execOp, ho, this]
  generalize hXe : a.eval X = X' at hX key
  split at hv
  · cases hX
    obtain ⟨mm, hmm, hv⟩ := ob_some.1 hv
    obtain ⟨hz, hv⟩ := guardV_some.1 hv
    have hz := Nat.eq_of_beq_eq_true hz
    subst hz
    obtain ⟨km, hkm⟩ := natO_ok hT hG hm hmm
    obtain ⟨lo, hi, hk, h1, h2, hb⟩ := bounds3_ok (P := P) (w := w) hT hG hl hh hkm (Nat.le_refl 0) hv
    cases hk
    refine ⟨_, key _ (by simp [Instr.slice, run_underlying (und_ok hE ht), hb true 0, size_ok hE hs]; rfl), ?_⟩
    have e1 : lo = 0 := by omega
    have e2 : hi = 0 := by omega
    subst e1 e2
    exact .nslice
  · next b off n c op =>
    obtain ⟨mm, hmm, hv⟩ := ob_some.1 hv
    obtain ⟨hz, hv⟩ := guardV_some.1 hv
    have hz := le_of_ble hz
    obtain ⟨km, hkm⟩ := natO_ok hT hG hm hmm
    have fin : ∀ (p : Pl) (c' : Nat), φ b = some p → mm ≤ c' → X' = .slice (some ⟨p.blk, p.off + off, none⟩) n c' → ∃ r, (execOp a.eval o).run P w = .ok (.value r) w ∧ VR φ v r := by
      intro p c' hp hc' hXX
      subst hXX
      obtain ⟨lo, hi, hk, h1, h2, hb⟩ := bounds3_ok (P := P) (w := w) (cap := c') hT hG hl hh hkm hc' hv
      have hb := hb true n
      split at hk
      · next he =>
        cases hk
        have he := Nat.eq_of_beq_eq_true he
        refine ⟨_, key _ (by simp [Instr.slice, run_underlying (und_ok hE ht), hb, size_ok hE hs, he]; rfl), ?_⟩
        rw [← he]
        exact .sliceC _ _ _ hp
      · next he =>
        cases hk
        have he := Nat.ne_of_beq_eq_false he
        refine ⟨_, key _ (by simp [Instr.slice, run_underlying (und_ok hE ht), hb, size_ok hE hs, Ne.symm he, Addr.add_lit]; rfl), ?_⟩
        rw [Nat.add_assoc]
        exact .sliceC _ _ _ hp
    cases hX with
    | sliceC off n c hp => exact fin _ c hp hz rfl
    | sliceO off n c s hp hsz hn => exact fin _ _ hp (Nat.le_trans hz (Nat.le_add_right _ _)) rfl
  · cases hv
  · cases hv
theorem sliceA_pure (hE : EnvOk P E) {o : Oper} {t e : TypeId} {n size : Nat} {X : Operand} {L H : Option Operand} {x : Opd} {l h : Option Opd} (ho : o.op = .slice t X L H none) (hx : opd ng X = some x)
    (hl : optOpd ng L = some l) (hh : optOpd ng H = some h) (ht : E.und t = some (.array n e)) (hs : E.size e = some size) : PureOk P ng o (sliceAV n size x l h none) := by
  intro φ nt T a w v hT hG hv
  obtain ⟨u, hu, hv⟩ := ob_some.1 hv
  have hX := getO_ok hT hG hx hu
  have key : ∀ r, (Instr.sliceAt t (a.eval X) (L.map a.eval) (H.map a.eval) none).run P w = .ok r w → (execOp a.eval o).run P w = .ok (.value r) w := by
    intro r hr
    simp [execOp, ho, hr]
  generalize hXe : a.eval X = X' at hX key
  split at hv
  · next b off =>
    obtain ⟨m, hm, hv⟩ := ob_some.1 hv
    cases hm
    obtain ⟨_, hv⟩ := guardV_some.1 hv
    obtain ⟨lo, hi, hk, h1, h2, hb⟩ := bounds_ok (P := P) (w := w) hT hG hl hh hv
    have hb := hb false _ (Nat.le_refl _)
    cases hX with | ptr off hp =>
    split at hk
    · next he =>
      cases hk
      have he := Nat.eq_of_beq_eq_true he
      refine ⟨_, key _ (by simp [Instr.sliceAt, run_underlying (und_ok hE ht), hb, size_ok hE hs, he, Instr.sureAddr]; rfl), ?_⟩
      rw [← he]
      exact .sliceC _ _ _ hp
    · next he =>
      cases hk
      have he := Nat.ne_of_beq_eq_false he
      refine ⟨_, key _ (by simp [Instr.sliceAt, run_underlying (und_ok hE ht), hb, size_ok hE hs, Ne.symm he, Addr.add_lit, Instr.sureAddr]; rfl), ?_⟩
      rw [Nat.add_assoc]
      exact .sliceC _ _ _ hp
  · cases hv
end
end Go.Ev
/- The evaluator's operations that do not act: built-ins, builds; all of them together. -/
namespace Go.Ev
section
variable {P : Program} {E : Env} {ng : Nat}
theorem exec_builtin {o : Oper} {c : Call} {b : Builtin} (ho : o.op = .call c) (hc : c.callee = .builtin b) :
    ∃ ks, ∀ (ρ : Operand → Value) (w : World), (execOp ρ o).run P w = (builtin b c.argTypes o.type ks (c.args.map ρ)).run P w :=
  ⟨_, fun ρ w => by simp only [execOp, ho, resolve, hc, invoke, Sem.run_bind, Sem.run_pure, Result.andThen_ok]; rfl⟩
theorem opds_one {A : Array Operand} {x : Opd} (h : opds ng A = some [x]) : ∃ X, A = #[X] ∧ opd ng X = some x := by
  unfold opds at h
  obtain ⟨l⟩ := A
  cases l with
  | nil => cases h
  | cons X r =>
    obtain ⟨b, r', h1, h2, h3⟩ := (omap_cons _ _ _ _).1 h
    cases h3
    cases r with
    | nil => exact ⟨X, rfl, h1⟩
    | cons Y r => obtain ⟨b', r'', h4, h5, h6⟩ := (omap_cons _ _ _ _).1 h2; cases h6
theorem opds_two {A : Array Operand} {x y : Opd} (h : opds ng A = some [x, y]) : ∃ X Y, A = #[X, Y] ∧ opd ng X = some x ∧ opd ng Y = some y := by
  unfold opds at h
  obtain ⟨l⟩ := A
  cases l with
  | nil => cases h
  | cons X r =>
    obtain ⟨b, r', h1, h2, h3⟩ := (omap_cons _ _ _ _).1 h
    cases h3
    cases r with
    | nil => cases h2
    | cons Y r =>
      obtain ⟨b', r'', h4, h5, h6⟩ := (omap_cons _ _ _ _).1 h2
      cases h6
      cases r with
      | nil => exact ⟨X, Y, rfl, h1, h4⟩
      | cons Z r => obtain ⟨_, _, _, _, h6⟩ := (omap_cons _ _ _ _).1 h5; cases h6
theorem types_head {A : Array TypeId} {t : TypeId} {r : List TypeId} (h : A.toList = t :: r) : A[0]? = some t := by
  rw [← Array.getElem?_toList, h]; rfl
theorem lenOfA_str {φ : Phi} {v : AV} {s : ByteArray} {n : Nat} (hv : VR φ v (.string s)) (h : lenOfA v = some n) : s.size = n := by
  cases hv with
  | str hs => simp [lenOfA] at h; rw [hs.1, h]
  | any _ _ => cases h
theorem bind_value {s : Sem Value} {x : Value} {w w' : World} (h : s.run P w = .ok x w') : (do pure (.value (← s)) : Sem Next).run P w = .ok (.value x) w' := by simp [h]
theorem lenS_pure (hE : EnvOk P E) {o : Oper} {c : Call} {t : TypeId} {r : List TypeId} {x : Opd} (ho : o.op = .call c) (hc : c.callee = .builtin .len) (hx : opds ng c.args = some [x])
    (ht : c.argTypes.toList = t :: r) (hd : E.und t = some .string) : PureOk P ng o (lenSV x) := by
  intro φ nt T a w v hT hG h
  obtain ⟨u, hu, h⟩ := ob_some.1 h
  obtain ⟨X, hA, hX⟩ := opds_one hx
  have hR := getO_ok hT hG hX hu
  obtain ⟨ks, hks⟩ := exec_builtin (P := P) ho hc
  generalize hXe : a.eval X = X' at hR
  split at h
  · cases h
    cases hR with | str hs =>
    refine ⟨_, ?_, .int _ _⟩
    rw [hks]
    refine bind_value ?_
    simp [Builtin.len_, types_head ht, hA, hXe, run_underlying (und_ok hE hd), goInt, hs.1]
  · cases h
theorem len_pure (hE : EnvOk P E) {o : Oper} {c : Call} {t e : TypeId} {r : List TypeId} {x : Opd} (ho : o.op = .call c) (hc : c.callee = .builtin .len) (hx : opds ng c.args = some [x])
    (ht : c.argTypes.toList = t :: r) (hd : E.und t = some (.slice e)) : PureOk P ng o (lenV x) := by
  intro φ nt T a w v hT hG h
  obtain ⟨u, hu, h⟩ := ob_some.1 h
  obtain ⟨X, hA, hX⟩ := opds_one hx
  have hR := getO_ok hT hG hX hu
  obtain ⟨ks, hks⟩ := exec_builtin (P := P) ho hc
  generalize hXe : a.eval X = X' at hR
  split at h
  · cases h
    cases hR <;>
    · refine ⟨_, ?_, .int _ _⟩
      rw [hks]
      refine bind_value ?_
      simp [Builtin.len_, types_head ht, hA, hXe, run_underlying (und_ok hE hd), goInt]
  · cases h
    cases hR
    refine ⟨_, ?_, .int _ _⟩
    rw [hks]
    refine bind_value ?_
    simp [Builtin.len_, types_head ht, hA, hXe, run_underlying (und_ok hE hd), goInt]
  · next D e' =>
    cases h
    cases hR with | osl hD hl hc hp =>
    split
    · next m =>
      have hl : m = _ := hl
      subst hl
      refine ⟨_, ?_, .int _ _⟩
      rw [hks]
      refine bind_value ?_
      simp [Builtin.len_, types_head ht, hA, hXe, run_underlying (und_ok hE hd), goInt]
    · have := VR.sym (φ := φ) .i64 e' hD
      rw [hl] at this
      refine ⟨_, ?_, this⟩
      rw [hks]
      refine bind_value ?_
      simp [Builtin.len_, types_head ht, hA, hXe, run_underlying (und_ok hE hd), goInt]
  · cases h
theorem lenA_pure (hE : EnvOk P E) {o : Oper} {c : Call} {b : Builtin} {t e : TypeId} {n : Nat} {r : List TypeId} {x : Opd} (ho : o.op = .call c) (hb : b = .len ∨ b = .cap) (hc : c.callee = .builtin b) (hx : opds ng c.args = some [x])
    (ht : c.argTypes.toList = t :: r) (hd : E.und t = some (.array n e)) : PureOk P ng o (fun _ => some (.int .i64 (.ofNat n))) := by
  intro φ nt T a w v hT hG h
  cases h
  obtain ⟨X, hA, hX⟩ := opds_one hx
  obtain ⟨ks, hks⟩ := exec_builtin (P := P) ho hc
  refine ⟨_, ?_, .int _ _⟩
  rw [hks]
  rcases hb with rfl | rfl
  · exact bind_value (by simp [Builtin.len_, types_head ht, hA, run_underlying (und_ok hE hd), goInt])
  · exact bind_value (by simp [Builtin.cap_, types_head ht, hA, run_underlying (und_ok hE hd), goInt])
theorem cap_pure (hE : EnvOk P E) {o : Oper} {c : Call} {t e : TypeId} {r : List TypeId} {x : Opd} (ho : o.op = .call c) (hc : c.callee = .builtin .cap) (hx : opds ng c.args = some [x])
    (ht : c.argTypes.toList = t :: r) (hd : E.und t = some (.slice e)) : PureOk P ng o (capV x) := by
  intro φ nt T a w v hT hG h
  obtain ⟨u, hu, h⟩ := ob_some.1 h
  obtain ⟨X, hA, hX⟩ := opds_one hx
  have hR := getO_ok hT hG hX hu
  obtain ⟨ks, hks⟩ := exec_builtin (P := P) ho hc
  generalize hXe : a.eval X = X' at hR
  split at h
  · cases h
    cases hR
    refine ⟨_, ?_, .int _ _⟩
    rw [hks]
    refine bind_value ?_
    simp [Builtin.cap_, types_head ht, hA, hXe, run_underlying (und_ok hE hd), goInt]
  · cases h
    cases hR
    refine ⟨_, ?_, .int _ _⟩
    rw [hks]
    refine bind_value ?_
    simp [Builtin.cap_, types_head ht, hA, hXe, run_underlying (und_ok hE hd), goInt]
  · cases h
theorem mm_ok {φ : Phi} {mx : Bool} {w : World} : ∀ (vs : List AV) (xs : List Value) (k : IntKind) (n : Int) (v : AV), VRL φ vs xs → mmGo mx k vs n = some v →
    ∃ u, (xs.foldlM (match mx with | true => Builtin.max2 | false => Builtin.min2) (.int k n)).run P w = .ok u w ∧ VR φ v u
  | [], _, k, n, v, .nil, h => by cases h; exact ⟨_, rfl, .int _ _⟩
  | a :: vs, _, k, n, v, .cons (x := x) (m := m) hx hl, h => by
    obtain ⟨m', hm', h⟩ := ob_some.1 (show ob (intV a) (fun m => mmGo mx k vs (mmPick mx n m)) = some v from h)
    unfold intV at hm'
    split at hm'
    · cases hm'
      cases hx
      obtain ⟨u, hu, hr⟩ := mm_ok vs m k _ v hl h
      refine ⟨u, ?_, hr⟩
      rw [List.foldlM_cons, Sem.run_bind]
      cases mx <;> simp only [mmPick] at hu ⊢
      · by_cases e : m' < n
        · rw [(ilt_iff _ _).2 e] at hu; simp [Builtin.min2, e]; exact hu
        · have : ilt m' n = false := by rw [ilt_eq]; simp [e]
          rw [this] at hu; simp [Builtin.min2, e]; exact hu
      · by_cases e : n < m'
        · rw [(ilt_iff _ _).2 e] at hu; simp [Builtin.max2, e]; exact hu
        · have : ilt n m' = false := by rw [ilt_eq]; simp [e]
          rw [this] at hu; simp [Builtin.max2, e]; exact hu
    · cases hm'
theorem mm_pure {o : Oper} {c : Call} {mx : Bool} {xs : List Opd} (ho : o.op = .call c) (hc : c.callee = .builtin (match mx with | true => .max | false => .min)) (hx : opds ng c.args = some xs) :
    PureOk P ng o (mmV mx xs) := by
  intro φ nt T a w v hT hG h
  obtain ⟨l, hl, h⟩ := ob_some.1 h
  have hL := opds_ok hT hG hx hl
  obtain ⟨ks, hks⟩ := exec_builtin (P := P) ho hc
  unfold mmW at h
  split at h
  · next k n tl =>
    generalize hA : (c.args.map a.eval) = A at hL
    obtain ⟨A⟩ := A
    cases hL with | cons hx hl =>
    cases hx
    obtain ⟨u, hu, hr⟩ := mm_ok (P := P) (w := w) _ _ _ _ _ hl h
    refine ⟨u, ?_, hr⟩
    rw [hks, hA]
    cases mx <;> exact bind_value (by simpa [Builtin.min_, Builtin.max_] using hu)
  · next D j e k n =>
    obtain ⟨hk, h⟩ := guardV_some.1 h
    have hk := kinds_eq hk
    subst hk
    generalize hA : (c.args.map a.eval) = A at hL
    obtain ⟨A⟩ := A
    cases hL with | cons hx hl =>
    cases hl with | cons hy hl =>
    cases hl
    cases hx with | sym _ _ hD =>
    cases hy
    cases mx
    · obtain ⟨r, hr, h⟩ := ob_some.1 (show ob (askLt D (.c n) e) (fun r => some (match r with | true => AV.int j n | false => .sym D j e)) = some v from h)
      have hr : decide (n < e.den φ.opq) = r := askLt_ok hD hr
      cases h
      cases r
      · have hr := of_decide_eq_false hr
        refine ⟨_, ?_, .sym _ _ hD⟩
        rw [hks, hA]
        exact bind_value (by simp [Builtin.min_, Builtin.min2, hr])
      · have hr := of_decide_eq_true hr
        refine ⟨_, ?_, .int _ _⟩
        rw [hks, hA]
        exact bind_value (by simp [Builtin.min_, Builtin.min2, hr])
    · obtain ⟨r, hr, h⟩ := ob_some.1 (show ob (askLt D e (.c n)) (fun r => some (match r with | true => AV.int j n | false => .sym D j e)) = some v from h)
      have hr : decide (e.den φ.opq < n) = r := askLt_ok hD hr
      cases h
      cases r
      · have hr := of_decide_eq_false hr
        refine ⟨_, ?_, .sym _ _ hD⟩
        rw [hks, hA]
        exact bind_value (by simp [Builtin.max_, Builtin.max2, hr])
      · have hr := of_decide_eq_true hr
        refine ⟨_, ?_, .int _ _⟩
        rw [hks, hA]
        exact bind_value (by simp [Builtin.max_, Builtin.max2, hr])
  · cases h
theorem sized_iff (fs : List Field) : sized E fs = true → ∀ f ∈ fs, (E.size f.type).isSome = true := by
  induction fs with
  | nil => intro _ f hf; cases hf
  | cons g fs ih =>
    intro h f hf
    change (match E.size g.type with | some _ => sized E fs | none => false) = true at h
    split at h
    · next n hn => cases hf with | head => simp [hn] | tail _ hf => exact ih h f hf
    · cases h
theorem buildS_pure (hE : EnvOk P E) {o : Oper} {t : TypeId} {fs : Array Field} {ps : Array (Nat × Operand)} {z : AV} {l : List (Nat × Nat × Opd)} (ho : o.op = .build t ps)
    (hz : E.zero t = some z) (ht : E.und t = some (.struct fs)) (hs : sized E fs.toList = true) (hl : partsOf ng (fieldPlaces E fs) ps.toList = some l) : PureOk P ng o (buildV z.cells l) := by
  intro φ nt T a w v hT hG h
  unfold buildV at h
  rw [fillK_eq] at h
  split at h
  · next lc hlc =>
    cases h
    obtain ⟨i, zv, hi, hzv, hzr⟩ := zero_ok hE hz
    obtain ⟨cs, hcs, hr⟩ := fill_ok (place := fun i => (fs.toList.map fun f => (f.offset, (E.size f.type).getD 0))[i]?) (place' := fieldPlaces E fs) hT hG (fun i x hx => by
      unfold fieldPlaces at hx
      split at hx
      · next f hf =>
        split at hx
        · next n hn =>
          cases hx
          rw [List.getElem?_map]
          rw [← Array.getElem?_toList] at hf
          simp [hf, hn]
        · cases hx
      · cases hx) ps.toList l z.cells lc zv.cells hl hlc (hzr φ).cells
    refine ⟨.agg cs, ?_, .agg hr⟩
    have hm := run_mapM_places (P := P) (w := w) hE fs.toList (sized_iff _ hs)
    have hb : (Instr.build t (ps.map fun (i, x) => (i, a.eval x))).run P w = .ok (.agg cs) w := by
      simp only [Instr.build, Sem.run_bind, run_zeroValue hi hzv, Result.andThen_ok, run_underlying (und_ok hE ht)]
      rw [Array.mapM_eq_mapM_toList, Sem.run_map, hm]
      simp only [Result.andThen_ok, Array.toList_map, List.getElem?_toArray]
      rw [show (List.map (fun (x : Nat × Operand) => match x with | (i, x) => (i, a.eval x)) ps.toList) = ps.toList.map fun x => (x.1, a.eval x.2) from rfl, hcs]
      rfl
    simp [execOp, ho, hb]
  · cases h
theorem buildA_pure (hE : EnvOk P E) {o : Oper} {t e : TypeId} {n s : Nat} {ps : Array (Nat × Operand)} {z : AV} {l : List (Nat × Nat × Opd)} (ho : o.op = .build t ps)
    (hz : E.zero t = some z) (ht : E.und t = some (.array n e)) (hs : E.size e = some s) (hl : partsOf ng (fun i => some (Nat.mul i s, s)) ps.toList = some l) : PureOk P ng o (buildV z.cells l) := by
  intro φ nt T a w v hT hG h
  unfold buildV at h
  rw [fillK_eq] at h
  split at h
  · next lc hlc =>
    cases h
    obtain ⟨i, zv, hi, hzv, hzr⟩ := zero_ok hE hz
    obtain ⟨cs, hcs, hr⟩ := fill_ok (place := fun i => some (i * s, s)) (place' := fun i => some (Nat.mul i s, s)) hT hG (fun i x hx => hx) ps.toList l z.cells lc zv.cells hl hlc (hzr φ).cells
    refine ⟨.agg cs, ?_, .agg hr⟩
    have hb : (Instr.build t (ps.map fun (i, x) => (i, a.eval x))).run P w = .ok (.agg cs) w := by
      simp only [Instr.build, Sem.run_bind, run_zeroValue hi hzv, Result.andThen_ok, run_underlying (und_ok hE ht), size_ok hE hs]
      simp only [Array.toList_map]
      rw [show (List.map (fun (x : Nat × Operand) => match x with | (i, x) => (i, a.eval x)) ps.toList) = ps.toList.map fun x => (x.1, a.eval x.2) from rfl, hcs]
      rfl
    simp [execOp, ho, hb]
  · cases h
end
end Go.Ev
/- The evaluator's operations that look at the heap. -/
namespace Go.Ev
/-- what an operation that looks at the heap yields -/
def ReadOk (P : Program) (E : Env) (o : Oper) (f : Tr AV → Hp → Option AV) : Prop :=
  ∀ φ nt T H (a : Act) w v, TR φ nt T a.tmps → HR E.ng φ H w → GL E φ H w → f T H = some v → ∃ x, (execOp a.eval o).run P w = .ok (.value x) w ∧ VR φ v x
theorem HR.gr {ng : Nat} {φ : Phi} {H : Hp} {w : World} (h : HR ng φ H w) : GR ng φ := h.glob
section
variable {P : Program} {E : Env}
theorem load1_run (hE : EnvOk P E) {t : TypeId} {ad : Addr} {y : Value} {w : World} (ht : E.isAgg t = some false) (hy : w.cell? ad = some y) : (loadVar t ad).run P w = .ok y w := by
  simp [loadVar, isAgg_ok hE ht, hy]
theorem loadn_run (hE : EnvOk P E) {t : TypeId} {n : Nat} {ad : Addr} {cs : List Value} {w : World} (ht : E.isAgg t = some true) (hn : E.size t = some n) (hl : cs.length = n)
    (hcs : ∀ j v, cs[j]? = some v → w.cell? (ad.add j) = some v) : (loadVar t ad).run P w = .ok (.agg cs.toArray) w := by
  have hload := run_loadCells_list (P := P) w _ cs hcs
  rw [hl] at hload
  simp [loadVar, isAgg_ok hE ht, size_ok hE hn, hload]
theorem ld1_read (hE : EnvOk P E) {o : Oper} {t : TypeId} {X : Operand} {x : Opd} (ho : o.op = .load t X) (hx : opd E.ng X = some x) (ht : E.isAgg t = some false) : ReadOk P E o (ld1 E.gl x) := by
  intro φ nt T H a w v hT hH hG h
  obtain ⟨u, hu, h⟩ := ob_some.1 h
  have hX := getO_ok hT hH.gr hx hu
  generalize hXe : a.eval X = X' at hX
  split at h
  · cases hX with | ptr off hp =>
    obtain ⟨y, hy, hr⟩ := cell_ok hH hG hp h
    refine ⟨y, ?_, hr⟩
    simp [execOp, ho, hXe, Instr.loadAt, Instr.sureAddr, load1_run hE ht hy]
  · cases h
theorem ldn_read (hE : EnvOk P E) {o : Oper} {t : TypeId} {n : Nat} {X : Operand} {x : Opd} (ho : o.op = .load t X) (hx : opd E.ng X = some x) (ht : E.isAgg t = some true) (hn : E.size t = some n) :
    ReadOk P E o (ldn E.gl x n) := by
  intro φ nt T H a w v hT hH hG h
  obtain ⟨u, hu, h⟩ := ob_some.1 h
  have hX := getO_ok hT hH.gr hx hu
  generalize hXe : a.eval X = X' at hX
  split at h
  · cases hX with | ptr off hp =>
    obtain ⟨l, hl, h⟩ := ob_some.1 h
    cases h
    obtain ⟨cs, hcl, hr, hcs⟩ := loadN_ok hH hG hp hl
    refine ⟨.agg cs.toArray, ?_, .agg hr⟩
    simp [execOp, ho, hXe, Instr.loadAt, Instr.sureAddr, loadn_run hE ht hn hcl hcs]
  · cases h
theorem uptr_read (hE : EnvOk P E) {o : Oper} {s d e : TypeId} {n : Nat} {X : Operand} {x : Opd} (ho : o.op = .convert s d X) (hx : opd E.ng X = some x)
    (hs : E.und s = some (.pointer e)) (hd : E.und d = some .unsafePointer) (hn : E.size e = some (n + 1)) : ReadOk P E o (uptrV E.gl x) := by
  intro φ nt T H a w v hT hH hG h
  obtain ⟨u, hu, h⟩ := ob_some.1 h
  have hX := getO_ok hT hH.gr hx hu
  generalize hXe : a.eval X = X' at hX
  split at h
  · cases hX with | ptr off hp =>
    obtain ⟨l, hl, h⟩ := ob_some.1 h
    cases h
    obtain ⟨y, hy, hr⟩ := cell_ok hH hG hp hl
    obtain ⟨i, hi, hin⟩ := size_info hE hn
    refine ⟨_, ?_, .ptr _ hp⟩
    have := run_convert_to_unsafe (P := P) (und_ok hE hs) (und_ok hE hd) (by simp [hi, hin]) hy
    simp [execOp, ho, hXe, this]
  · cases h
/-! ### '==' -/
theorem plain_ok {φ : Phi} {H : Hp} {w : World} (hH : HR E.ng φ H w) (hG : GL E φ H w) {b : Pos} {p : Pl} (hp : φ b = some p) (h : plainAt E.gl b H = true) :
    ∃ c e, w.heap[p.blk]? = some (.cells c e (0, 0)) := by
  unfold plainAt at h
  split at h
  · next pl l hb =>
    obtain ⟨q, o, hq, ho, hB⟩ := hH.blk _ _ hb
    rw [hp] at hq; cases hq
    cases hB with | cells hl hc hg hf hpl =>
    cases pl with
    | zero => cases h
    | succ t => rw [(hpl t rfl).1] at ho; exact ⟨_, _, ho⟩
  · cases h
  · split at h
    · next l hb =>
      obtain ⟨q, o, t, hq, ho, hB⟩ := hG.at_ _ _ hb
      rw [hp] at hq; cases hq
      cases hB with | cells hl hc hg hf hpl => rw [(hpl t rfl).1] at ho; exact ⟨_, _, ho⟩
    · cases h
/-- two names of blocks at hand lie at two places -/
theorem plain_apart {φ : Phi} {H : Hp} {w : World} (hH : HR E.ng φ H w) (hG : GL E φ H w) {b c : Pos} {p q : Pl} (hp : φ b = some p) (hq : φ c = some q)
    (h : plainAt E.gl b H = true) (h' : plainAt E.gl c H = true) (hne : b ≠ c) : p.blk ≠ q.blk := by
  intro he
  have live : ∀ b, plainAt E.gl b H = true → (∃ B, Tr.get b H.t = some B) ∨ ∃ l, Tr.get b E.gl = some l := by
    intro b hb
    unfold plainAt at hb
    split at hb
    · next pl l hB => exact .inl ⟨_, hB⟩
    · cases hb
    · split at hb
      · next l hl => exact .inr ⟨l, hl⟩
      · cases hb
  rcases live b h with ⟨B, hB⟩ | ⟨l, hl⟩ <;> rcases live c h' with ⟨C, hC⟩ | ⟨m, hm⟩
  · exact hne (hH.inj b c B C p q hB hC hp hq he)
  · exact hG.sep c m q b B p hm hq hB hp he
  · exact hG.sep b l p c C q hl hp hC hq he.symm
  · exact hne (hG.inj b l c m p q hl hm hp hq he)
theorem sameAddr_other {w : World} {a b : Addr} {c d : Array Value} {e f : TypeId} (ha : w.heap[a.block]? = some (.cells c e (0, 0))) (hb : w.heap[b.block]? = some (.cells d f (0, 0))) (hne : a.block ≠ b.block) :
    (sameAddr a b).run P w = .ok false w := by
  have fa : ∀ off, w.frozen? { block := a.block, off := off } = false := fun off => by simp [World.frozen?, ha]
  have fb : ∀ off, w.frozen? { block := b.block, off := off } = false := fun off => by simp [World.frozen?, hb]
  have fa' : w.frozen? a = false := by simp [World.frozen?, ha]
  have fb' : w.frozen? b = false := by simp [World.frozen?, hb]
  have sa : w.shape? a.block = some (e, c.size) := by simp [World.shape?, ha]
  have sb : w.shape? b.block = some (f, d.size) := by simp [World.shape?, hb]
  simp [sameAddr, hne, fa', fb', noView, viewAt, sa, sb, mayBeOne, stringish, fa, fb]
theorem partA_ok (hE : EnvOk P E) {φ : Phi} {w : World} {t : TypeId} {l : List AV} {cs : Array Value} {o : Nat} {v : AV} (hl : VRL φ l cs.toList) (h : partA E t l o = some v) :
    ∃ x, (part t cs o).run P w = .ok x w ∧ VR φ v x := by
  unfold partA at h
  split at h
  · next b n hb hn => exact part_ok hE hb hn hl h
  · cases h
theorem eqFs_ok (hE : EnvOk P E) {φ : Phi} {H : Hp} {w : World} {D : Nat} {ih : TypeId → AV → AV → Hp → Option Bool} (hih : ∀ t x y X Y r, ih t x y H = some r → VR φ x X → VR φ y Y → (Op.equalIn D t X Y).run P w = .ok r w)
    {l m : List AV} {xs ys : Array Value} (hl : VRL φ l xs.toList) (hm : VRL φ m ys.toList) : ∀ (fs : List Field) (r : Bool), eqFs E ih l m H fs = some r → (Op.eqFields D xs ys fs).run P w = .ok r w
  | [], r, h => by cases h; rfl
  | f :: fs, r, h => by
    rw [show eqFs E ih l m H (f :: fs) = (match f.name == "_" with
      | true => eqFs E ih l m H fs
      | false => ob (partA E f.type l f.offset) fun u => ob (partA E f.type m f.offset) fun v =>
        ob (ih f.type u v H) fun r => match r with | true => eqFs E ih l m H fs | false => some false) from rfl] at h
    unfold Op.eqFields
    split at h
    · next hn =>
      rw [if_neg (by simpa using hn)]
      exact eqFs_ok hE hih hl hm fs r h
    · next hn =>
      rw [if_pos (by simpa using hn)]
      obtain ⟨u, hu, h⟩ := ob_some.1 h
      obtain ⟨v, hv, h⟩ := ob_some.1 h
      obtain ⟨b, hb, h⟩ := ob_some.1 h
      obtain ⟨U, hU, rU⟩ := partA_ok (P := P) (w := w) hE hl hu
      obtain ⟨V, hV, rV⟩ := partA_ok (P := P) (w := w) hE hm hv
      have hq := hih _ _ _ _ _ _ hb rU rV
      simp only [Sem.run_bind, hU, hV, hq, Result.andThen_ok]
      split at h
      · simp only [Bool.not_true, Bool.false_eq_true, if_false]; exact eqFs_ok hE hih hl hm fs r h
      · cases h; rfl
theorem aeq_ok (hE : EnvOk P E) {φ : Phi} {H : Hp} {w : World} (hH : HR E.ng φ H w) (hG : GL E φ H w) : ∀ (d D : Nat) (t : TypeId) (x y : AV) (X Y : Value) (r : Bool), d ≤ D →
    aeq E d t x y H = some r → VR φ x X → VR φ y Y → (Op.equalIn D t X Y).run P w = .ok r w := by
  intro d
  induction d with
  | zero => intro D t x y X Y r _ h; cases h
  | succ d ih =>
    intro D t x y X Y r hD h hX hY
    obtain ⟨D, rfl⟩ : ∃ D', D = D' + 1 := ⟨D - 1, by omega⟩
    rw [show aeq E (d + 1) t x y H = aeqStep E (aeq E d) t x y H from rfl] at h
    unfold aeqStep at h
    split at h
    case h_1 hu => cases hX; cases hY; cases h; rw [run_equalIn_bool' w D t _ _ (und_ok hE hu)]; next a b => cases a <;> cases b <;> rfl
    case h_2 hu =>
      obtain ⟨hk, h'⟩ := guardV_some.1 h
      have e := kinds_eq hk
      subst e
      cases hX; cases hY; cases h'
      rw [run_equalIn_int w D t _ _ _ _ (und_ok hE hu), ieq_eq]
      rfl
    case h_3 hu =>
      cases hX with | str hs => cases hY with | str ht =>
      cases h
      rw [run_equalIn_string w D t _ _ (und_ok hE hu), ByteArray.toList_eq, ByteArray.toList_eq, list_beq, seq_eq hs ht]
    case h_4 hu => cases hX; cases hY; cases h; simp [Op.equalIn, run_underlying (und_ok hE hu)]
    case h_5 hu => cases hX; cases hY; cases h; simp [Op.equalIn, run_underlying (und_ok hE hu)]
    case h_6 hu => cases hX; cases hY; cases h; simp [Op.equalIn, run_underlying (und_ok hE hu)]
    case h_7 e b o c p hu =>
      split at h
      · next n hn =>
        cases hX with | ptr o hp => cases hY with | ptr p hq =>
        next p1 p2 =>
        split at h
        · next hbc =>
          have hbc := (Pos.beq_iff _ _).1 hbc
          subst hbc
          rw [hp] at hq; cases hq
          cases h
          simp [Op.equalIn, run_underlying (und_ok hE hu), size_ok hE hn, sameAddr]
          by_cases e : o = p
          · subst e; simp
          · have : Nat.beq o p = false := by cases hh : Nat.beq o p with | true => exact absurd (Nat.eq_of_beq_eq_true hh) e | false => rfl
            rw [this]; simp [e]
        · next hbc =>
          obtain ⟨g1, h⟩ := guardV_some.1 h
          obtain ⟨g2, h⟩ := guardV_some.1 h
          cases h
          have hne : b ≠ c := fun e => by rw [(Pos.beq_iff _ _).2 e] at hbc; cases hbc
          obtain ⟨ca, ea, ha⟩ := plain_ok hH hG hp g1
          obtain ⟨cb, eb, hb⟩ := plain_ok hH hG hq g2
          have := sameAddr_other (P := P) (a := ⟨p1.blk, p1.off + o, none⟩) (b := ⟨p2.blk, p2.off + p, none⟩) ha hb (plain_apart hH hG hp hq g1 g2 hne)
          simp [Op.equalIn, run_underlying (und_ok hE hu), size_ok hE hn, this]
      · cases h
    case h_8 hu => cases hX; cases hY; cases h; simp [Op.equalIn, run_underlying (und_ok hE hu)]
    case h_9 hu => cases hX; cases hY; cases h; simp [Op.equalIn, run_underlying (und_ok hE hu)]
    case h_10 hu => cases hX; cases hY; cases h; simp [Op.equalIn, run_underlying (und_ok hE hu)]
    case h_11 hu => cases hX; cases hY; cases h; simp [Op.equalIn, run_underlying (und_ok hE hu)]
    case h_12 hu =>
      cases hX; cases h
      cases hY <;> (unfold Op.equalIn; simp [run_underlying (und_ok hE hu)])
    case h_13 hu =>
      cases hY; cases h
      cases hX <;> (unfold Op.equalIn; simp [run_underlying (und_ok hE hu)])
    case h_14 hu => cases hX; cases hY; cases h; simp [Op.equalIn, run_underlying (und_ok hE hu)]
    case h_15 hu => cases hX; cases hY; cases h; simp [Op.equalIn, run_underlying (und_ok hE hu)]
    case h_16 hu => cases hX; cases hY; cases h; simp [Op.equalIn, run_underlying (und_ok hE hu)]
    case h_17 hu => cases hX; cases hY; cases h; simp [Op.equalIn, run_underlying (und_ok hE hu)]
    case h_18 hu => cases hX; cases hY; cases h; simp [Op.equalIn, run_underlying (und_ok hE hu)]
    case h_19 hu => cases hX; cases hY; cases h; simp [Op.equalIn, run_underlying (und_ok hE hu)]
    case h_20 fs l m hu =>
      obtain ⟨g, h⟩ := guardV_some.1 h
      have hu' := und_ok hE hu
      have hf : P.fieldsOf t = fs := by simp [Program.fieldsOf, hu']
      have hh : P.stoodInHeld t = false := hE.held t (by rw [bnot_eq] at g; simpa using g)
      cases hX with | agg hl => cases hY with | agg hm =>
      rw [run_equalIn_struct w D t _ _ (by rw [hf]; exact hu') hh, hf]
      exact eqFs_ok hE (fun t x y X Y r hr hx hy => ih D t x y X Y r (by omega) hr hx hy) hl hm _ _ h
    case h_21 => cases h
theorem eqGuard_ok (hE : EnvOk P E) {φ : Phi} {w : World} {op : BinOp} {t : TypeId} {X Y : Operand} {u u' : AV} {X' Y' : Value} (hX : VR φ u X') (hY : VR φ u' Y')
    (g : eqOk E t (match isLit X with | true => true | false => isLit Y) u u' = true) : (eqGuard op t X Y X' Y').run P w = .ok () w := by
  cases hX
  case nif =>
    cases hY
    case nif =>
      simp only [eqOk] at g
      cases X with
      | const c => rw [eqGuard_nil_constL]; rfl
      | tmp _ => cases Y <;> first | (rw [eqGuard_nil_constR]; rfl) | simp [isLit] at g
      | global _ => cases Y <;> first | (rw [eqGuard_nil_constR]; rfl) | simp [isLit] at g
      | func _ => cases Y <;> first | (rw [eqGuard_nil_constR]; rfl) | simp [isLit] at g
    all_goals first | (cases op <;> rfl) | (simp [eqOk] at g; done)
  case agg =>
    cases hY
    case agg =>
      simp only [eqOk, bnot_eq] at g
      exact run_eqGuard_agg w op t X Y _ _ (hE.eqg t (by simpa using g))
    all_goals first | (cases op <;> rfl) | (simp [eqOk] at g; done)
  all_goals first | (cases op <;> rfl) | (simp [eqOk] at g; done)
theorem binOp_eq_ok {φ : Phi} {w : World} {neg : Bool} {t : TypeId} {lit r : Bool} {u u' : AV} {X' Y' : Value} (hX : VR φ u X') (hY : VR φ u' Y')
    (g : eqOk E t lit u u' = true) (heq : (Op.equalIn 10000 t X' Y').run P w = .ok r w) :
    (binOp (match neg with | true => .neq | false => .eql) t X' Y').run P w = .ok (.bool (match neg with | true => bnot r | false => r)) w := by
  have e1 : (binOp .eql t X' Y').run P w = .ok (.bool r) w := by
    cases hX <;> first
      | (cases hY <;> simp [eqOk] at g; done)
      | (simp [binOp, Op.equal, Op.maxDepth, heq]; done)
      | (cases hY <;> first | (simp [eqOk] at g; done) | (simp [binOp, Op.equal, Op.maxDepth, heq]; done))
  have e2 : (binOp .neq t X' Y').run P w = .ok (.bool (!r)) w := by
    cases hX <;> first
      | (cases hY <;> simp [eqOk] at g; done)
      | (simp [binOp, Op.equal, Op.maxDepth, heq]; done)
      | (cases hY <;> first | (simp [eqOk] at g; done) | (simp [binOp, Op.equal, Op.maxDepth, heq]; done))
  cases neg
  · exact e1
  · rw [bnot_eq]; exact e2
theorem eq_read (hE : EnvOk P E) {o : Oper} {neg : Bool} {t yt : TypeId} {X Y : Operand} {x y : Opd} (ho : o.op = .binOp (match neg with | true => .neq | false => .eql) t X Y yt)
    (hx : opd E.ng X = some x) (hy : opd E.ng Y = some y) : ReadOk P E o (eqV E neg t (match isLit X with | true => true | false => isLit Y) x y) := by
  intro φ nt T H a w v hT hH hG h
  obtain ⟨u, hu, h⟩ := ob_some.1 h
  obtain ⟨u', hu', h⟩ := ob_some.1 h
  obtain ⟨g, h⟩ := guardV_some.1 h
  obtain ⟨r, hr, h⟩ := ob_some.1 h
  cases h
  have hX := getO_ok hT hH.gr hx hu
  have hY := getO_ok hT hH.gr hy hu'
  have heq := aeq_ok hE hH hG 40 10000 t _ _ _ _ r (by omega) hr hX hY
  have h1 : ∀ op, (eqGuard op t X Y (a.eval X) (a.eval Y)).run P w = .ok () w := fun op => eqGuard_ok hE hX hY g
  have h2 := binOp_eq_ok (P := P) (neg := neg) hX hY g heq
  refine ⟨_, ?_, .bool _⟩
  simp only [execOp, ho, Sem.run_bind, h1, Result.andThen_ok, h2, Sem.run_pure]
  rfl
/-! ### maps -/
theorem sameNow_ok {φ : Phi} {kd : TypeDesc} {k e : AV} {K X : Value} (hk : isKey kd k = true) (hK : VR φ k K) (hX : VR φ e X) (hl : keyLike k e = true) :
    Instr.sameNow kd K X = some (keyEq k e) := by
  unfold isKey at hk
  split at hk
  · cases hK
    cases hX <;> simp only [keyLike, Bool.false_eq_true] at hl
    have e := kinds_eq hl
    subst e
    simp [Instr.sameNow, keyEq, ieq_eq]
    rfl
  · cases hK with | str hs =>
    cases hX <;> simp only [keyLike, Bool.false_eq_true] at hl
    next ht =>
    simp only [Instr.sameNow, keyEq, seq_eq hs ht]
    rw [beq_toListBytes, ByteArray.toList_eq, ByteArray.toList_eq, list_beq]
  · cases hK
    cases hX <;> simp only [keyLike, Bool.false_eq_true] at hl
    rename_i b c
    cases b <;> cases c <;> rfl
  · cases hk
theorem findE_ok {φ : Phi} {kd : TypeDesc} {k : AV} {K : Value} (hk : isKey kd k = true) (hK : VR φ k K) : ∀ (es : List (AV × AV × Nat)) (m : List MapEntry) (i : Nat) (r : Option (Nat × AV)), ER φ es m →
    findE k es i = some r → (r = none ∧ Instr.findNow kd K m i = some none) ∨ ∃ j v V e, r = some (j, v) ∧ Instr.findNow kd K m i = some (some (j, V)) ∧ VR φ v V ∧ i ≤ j ∧ es[j - i]? = some e ∧ e.2.1 = v ∧ keyEq k e.1 = true
  | _, _, i, r, .nil, h => by cases h; exact .inl ⟨rfl, rfl⟩
  | _, _, i, r, .cons (k := k') (v := v') (e := e) (l := l) (m := m) hk' hv' hr, h => by
    rw [show findE k ((k', v', e.born) :: l) i = (match keyLike k k' with
      | false => none
      | true => match keyEq k k' with
        | true => some (some (i, v'))
        | false => findE k l (Nat.succ i)) from rfl] at h
    split at h
    · cases h
    · next hl =>
      have hs := sameNow_ok hk hK hk' hl
      split at h
      · next he =>
        cases h
        rw [he] at hs
        exact .inr ⟨i, v', e.val, (k', v', e.born), rfl, by simp [Instr.findNow, hs], hv', Nat.le_refl _, by simp, rfl, he⟩
      · next he =>
        rw [he] at hs
        rcases findE_ok hk hK l m (i + 1) r hr h with ⟨h1, h2⟩ | ⟨j, v, V, e', h1, h2, h3, h4, h5, h6, h7⟩
        · exact .inl ⟨h1, by simp [Instr.findNow, hs, h2]⟩
        · refine .inr ⟨j, v, V, e', h1, by simp [Instr.findNow, hs, h2], h3, by omega, ?_, h6, h7⟩
          rw [show j - i = (j - (i + 1)) + 1 by omega, List.getElem?_cons_succ]; exact h5
theorem checkKey_ok (hE : EnvOk P E) {φ : Phi} {w : World} {t : TypeId} {kd : TypeDesc} {k : AV} {K : Value} {b : Bool} (ht : E.und t = some kd) (hk : isKey kd k = true) (hK : VR φ k K) :
    (Instr.checkKey b 10000 t K).run P w = .ok () w := by
  unfold isKey at hk
  split at hk
  · cases hK; rw [show (10000 : Nat) = 9999 + 1 from rfl, Instr.checkKey]; simp only [Sem.run_bind, run_underlying (und_ok hE ht), Result.andThen_ok]; rfl
  · cases hK; rw [show (10000 : Nat) = 9999 + 1 from rfl, Instr.checkKey]; simp only [Sem.run_bind, run_underlying (und_ok hE ht), Result.andThen_ok]; rfl
  · cases hK; rw [show (10000 : Nat) = 9999 + 1 from rfl, Instr.checkKey]; simp only [Sem.run_bind, run_underlying (und_ok hE ht), Result.andThen_ok]; rfl
  · cases hk
theorem findKey_ok (hE : EnvOk P E) {w : World} {t : TypeId} {kd : TypeDesc} {K : Value} {m : List MapEntry} {r : Option (Nat × Value)} (ht : E.und t = some kd) (hf : Instr.findNow kd K m 0 = some r) :
    (Instr.findKey t K m).run P w = .ok r w := by
  simp [Instr.findKey, run_underlying (und_ok hE ht), hf]
/-! keys of a struct type -/
theorem checkKeyN_ok (hE : EnvOk P E) {φ : Phi} {w : World} {t : TypeId} {kd : TypeDesc} {k : AV} {K : Value} {b : Bool} {n : Nat} (ht : E.und t = some kd) (hk : isKey kd k = true) (hK : VR φ k K) :
    (Instr.checkKey b (n + 1) t K).run P w = .ok () w := by
  unfold isKey at hk
  split at hk
  · cases hK; rw [Instr.checkKey]; simp only [Sem.run_bind, run_underlying (und_ok hE ht), Result.andThen_ok]; rfl
  · cases hK; rw [Instr.checkKey]; simp only [Sem.run_bind, run_underlying (und_ok hE ht), Result.andThen_ok]; rfl
  · cases hK; rw [Instr.checkKey]; simp only [Sem.run_bind, run_underlying (und_ok hE ht), Result.andThen_ok]; rfl
  · cases hk
theorem run_forIn_unit {α : Type} {w : World} (f : α → PUnit → Sem (ForInStep PUnit)) : ∀ (l : List α), (∀ a ∈ l, (f a ⟨⟩).run P w = .ok (.yield ⟨⟩) w) → (forIn l PUnit.unit f).run P w = .ok ⟨⟩ w
  | [], _ => by simp [Sem.run_pure]
  | a :: l, h => by
    simp only [List.forIn_cons, Sem.run_bind, h a (List.mem_cons_self ..), Result.andThen_ok]
    exact run_forIn_unit f l fun b hb => h b (List.mem_cons_of_mem _ hb)
theorem isKeyS_mem {l : List AV} : ∀ (fs : List Field), isKeyS E fs l = true → ∀ f ∈ fs, isKeyF E l f = true
  | [], _, _, h => by cases h
  | f :: fs, h, g, hg => by
    change (match isKeyF E l f with | true => isKeyS E fs l | false => false) = true at h
    split at h
    · next h1 =>
      cases hg with
      | head => exact h1
      | tail _ hg => exact isKeyS_mem fs h g hg
    · cases h
theorem checkKeyS_ok (hE : EnvOk P E) {φ : Phi} {w : World} {t : TypeId} {fs : Array Field} {l : List AV} {cs : Array Value} {b : Bool} (ht : E.und t = some (.struct fs)) (hk : isKeyS E fs.toList l = true) (hl : VRL φ l cs.toList) :
    (Instr.checkKey b 10000 t (.agg cs)).run P w = .ok () w := by
  rw [show (10000 : Nat) = 9999 + 1 from rfl, Instr.checkKey]
  simp only [Sem.run_bind, run_underlying (und_ok hE ht), Result.andThen_ok]
  rw [← Array.forIn_toList, run_forIn_unit]
  · rfl
  · intro f hf
    have hf := isKeyS_mem _ hk f hf
    unfold isKeyF at hf
    split at hf
    · next kd v hkd hv =>
      obtain ⟨x, hx, hr⟩ := partA_ok (P := P) (w := w) hE hl hv
      have hc := checkKeyN_ok (P := P) (b := b) (w := w) (n := 9998) hE hkd hf hr
      by_cases hn : f.name = "_"
      · simp [hn]
      · simp [hn, hx, hc]
    · cases hf
theorem findS_ok (hE : EnvOk P E) {φ : Phi} {H : Hp} {w : World} (hH : HR E.ng φ H w) (hG : GL E φ H w) {t : TypeId} {k : AV} {K : Value} (hK : VR φ k K) : ∀ (es : List (AV × AV × Nat)) (m : List MapEntry) (i : Nat) (r : Option (Nat × AV)), ER φ es m →
    findS E t k H es i = some r → (r = none ∧ (Instr.findAsking t K m i).run P w = .ok none w) ∨ ∃ j v V, r = some (j, v) ∧ (Instr.findAsking t K m i).run P w = .ok (some (j, V)) w ∧ VR φ v V
  | _, _, i, r, .nil, h => by cases h; exact .inl ⟨rfl, rfl⟩
  | _, _, i, r, .cons (k := k') (v := v') (e := e) (l := l) (m := m) hk' hv' hr, h => by
    rw [show findS E t k H ((k', v', e.born) :: l) i = (ob (aeq E 12 t k k' H) fun r => match r with | true => some (some (i, v')) | false => findS E t k H l (Nat.succ i)) from rfl] at h
    obtain ⟨q, hq, h⟩ := ob_some.1 h
    have heq : (Op.equal t K e.key).run P w = .ok q w := aeq_ok hE hH hG 12 Op.maxDepth _ _ _ _ _ _ (by decide) hq hK hk'
    split at h
    · cases h
      exact .inr ⟨i, v', e.val, rfl, by simp [Instr.findAsking, heq], hv'⟩
    · rcases findS_ok hE hH hG hK l m (i + 1) r hr h with ⟨h1, h2⟩ | ⟨j, v, V, h1, h2, h3⟩
      · exact .inl ⟨h1, by simp [Instr.findAsking, heq, h2]⟩
      · exact .inr ⟨j, v, V, h1, by simp [Instr.findAsking, heq, h2], h3⟩
theorem findKeyS_ok (hE : EnvOk P E) {w : World} {t : TypeId} {fs : Array Field} {cs : Array Value} {m : List MapEntry} {r : Option (Nat × Value)} (ht : E.und t = some (.struct fs)) (hf : (Instr.findAsking t (.agg cs) m 0).run P w = .ok r w) :
    (Instr.findKey t (.agg cs) m).run P w = .ok r w := by
  cases m with
  | nil =>
    have : r = none := by
      have h0 : (Instr.findAsking t (.agg cs) [] 0).run P w = .ok none w := rfl
      rw [h0] at hf; cases hf; rfl
    subst this
    simp [Instr.findKey, run_underlying (und_ok hE ht), Instr.findNow]
  | cons e m =>
    have hs : Instr.findNow (.struct fs) (.agg cs) (e :: m) 0 = none := by simp [Instr.findNow, Instr.sameNow]
    simp only [Instr.findKey, Sem.run_bind, run_underlying (und_ok hE ht), Result.andThen_ok, hs]
    exact hf
theorem map_ok {φ : Phi} {H : Hp} {w : World} {ng : Nat} (hH : HR ng φ H w) {b : Pos} {es : List (AV × AV × Nat)} {cl : Nat} {p : Pl} (hp : φ b = some p) (h : Tr.get b H.t = some (.map es cl)) :
    ∃ m : Array MapEntry, w.heap[p.blk]? = some (.map m cl) ∧ ER φ es m.toList := by
  obtain ⟨q, o, hq, ho, hB⟩ := hH.blk _ _ h
  rw [hp] at hq; cases hq
  cases hB with | map he => exact ⟨_, ho, he⟩
theorem run_getObj_map {w : World} {r : Nat} {m : Array MapEntry} {cl : Nat} (h : w.heap[r]? = some (.map m cl)) : (getObj r).run P w = .ok (.map m cl) w := by
  simp [getObj, Sem.run, h]
theorem outV_ok {φ : Phi} {ok b : Bool} {u : AV} {U : Value} (h : VR φ u U) : VR φ (outV ok u b) (if ok then .tuple #[U, .bool b] else U) := by
  cases ok
  · exact h
  · exact .tup (.cons h (.cons (.bool b) .nil))
theorem lookup_read (hE : EnvOk P E) {o : Oper} {t kt et : TypeId} {kd : TypeDesc} {z : AV} {X I : Operand} {x i : Opd} {ok : Bool} (ho : o.op = .lookup t X I ok) (hx : opd E.ng X = some x) (hi : opd E.ng I = some i)
    (ht : E.und t = some (.map kt et)) (hkd : E.und kt = some kd) (hz : E.zero et = some z) : ReadOk P E o (lookupV kd z x i ok) := by
  intro φ nt T H a w v hT hH hG h
  obtain ⟨u, hu, h⟩ := ob_some.1 h
  obtain ⟨k, hk, h⟩ := ob_some.1 h
  obtain ⟨g, h⟩ := guardV_some.1 h
  have hX := getO_ok hT hH.gr hx hu
  have hK := getO_ok hT hH.gr hi hk
  generalize hXe : a.eval X = X' at hX
  generalize hKe : a.eval I = K' at hK
  obtain ⟨zi, zv, hzi, hzv, hzr⟩ := zero_ok hE hz
  split at h
  · cases hX; cases h
    refine ⟨_, ?_, outV_ok (hzr φ)⟩
    have hfk := findKey_ok (P := P) (w := w) hE (K := K') (m := []) hkd rfl
    simp [execOp, ho, hXe, hKe, Instr.lookup, run_underlying (und_ok hE ht), checkKey_ok hE hkd g hK, hfk, run_zeroValue hzi hzv]
  · next b =>
    cases hX with | map hp =>
    split at h
    · next es cl hb =>
      obtain ⟨m, hm, her⟩ := map_ok hH hp hb
      obtain ⟨r, hr, h⟩ := ob_some.1 h
      rcases findE_ok g hK es m.toList 0 r her hr with ⟨rfl, hf⟩ | ⟨j, v', V, e, rfl, hf, hv', _⟩
      · cases h
        refine ⟨_, ?_, outV_ok (hzr φ)⟩
        simp [execOp, ho, hXe, hKe, Instr.lookup, run_underlying (und_ok hE ht), run_getObj_map hm, checkKey_ok hE hkd g hK, findKey_ok hE hkd hf, run_zeroValue hzi hzv]
      · cases h
        refine ⟨_, ?_, outV_ok hv'⟩
        simp [execOp, ho, hXe, hKe, Instr.lookup, run_underlying (und_ok hE ht), run_getObj_map hm, checkKey_ok hE hkd g hK, findKey_ok hE hkd hf]
    · cases h
  · cases h
theorem lookupS_read (hE : EnvOk P E) {o : Oper} {t kt et : TypeId} {fs : Array Field} {z : AV} {X I : Operand} {x i : Opd} {ok : Bool} (ho : o.op = .lookup t X I ok) (hx : opd E.ng X = some x) (hi : opd E.ng I = some i)
    (ht : E.und t = some (.map kt et)) (hkd : E.und kt = some (.struct fs)) (hz : E.zero et = some z) : ReadOk P E o (lookupSV E kt fs.toList z x i ok) := by
  intro φ nt T H a w v hT hH hG h
  obtain ⟨u, hu, h⟩ := ob_some.1 h
  obtain ⟨k, hk, h⟩ := ob_some.1 h
  have hX := getO_ok hT hH.gr hx hu
  have hK := getO_ok hT hH.gr hi hk
  generalize hXe : a.eval X = X' at hX
  generalize hKe : a.eval I = K' at hK
  obtain ⟨zi, zv, hzi, hzv, hzr⟩ := zero_ok hE hz
  split at h
  · next l b =>
    obtain ⟨g, h⟩ := guardV_some.1 h
    cases hX with | map hp =>
    cases hK with | agg hl =>
    next cs =>
    split at h
    · next es cl hb =>
      obtain ⟨m, hm, her⟩ := map_ok hH hp hb
      obtain ⟨r, hr, h⟩ := ob_some.1 h
      have hck := fun b => checkKeyS_ok (P := P) (w := w) (b := b) hE hkd g hl
      rcases findS_ok hE hH hG (.agg hl) es m.toList 0 r her hr with ⟨rfl, hf⟩ | ⟨j, v', V, rfl, hf, hv'⟩
      · cases h
        refine ⟨_, ?_, outV_ok (hzr φ)⟩
        simp [execOp, ho, hXe, hKe, Instr.lookup, run_underlying (und_ok hE ht), run_getObj_map hm, hck, findKeyS_ok hE hkd hf, run_zeroValue hzi hzv]
      · cases h
        refine ⟨_, ?_, outV_ok hv'⟩
        simp [execOp, ho, hXe, hKe, Instr.lookup, run_underlying (und_ok hE ht), run_getObj_map hm, hck, findKeyS_ok hE hkd hf]
    · cases h
  · cases h
theorem ER.length {φ : Phi} {es : List (AV × AV × Nat)} {m : List MapEntry} (h : ER φ es m) : es.length = m.length := by
  induction h with
  | nil => rfl
  | cons _ _ _ ih => simp [ih]
theorem lenM_read (hE : EnvOk P E) {o : Oper} {c : Call} {t kt et : TypeId} {r : List TypeId} {x : Opd} (ho : o.op = .call c) (hc : c.callee = .builtin .len) (hx : opds E.ng c.args = some [x])
    (ht : c.argTypes.toList = t :: r) (hd : E.und t = some (.map kt et)) : ReadOk P E o (lenMV x) := by
  intro φ nt T H a w v hT hH hG h
  obtain ⟨u, hu, h⟩ := ob_some.1 h
  obtain ⟨X, hA, hX⟩ := opds_one hx
  have hR := getO_ok hT hH.gr hX hu
  obtain ⟨ks, hks⟩ := exec_builtin (P := P) ho hc
  generalize hXe : a.eval X = X' at hR
  split at h
  · cases h; cases hR
    refine ⟨_, ?_, .int _ _⟩
    rw [hks]
    exact bind_value (by simp [Builtin.len_, types_head ht, hA, hXe, run_underlying (und_ok hE hd), goInt])
  · cases hR with | map hp =>
    split at h
    · next es cl hb =>
      cases h
      obtain ⟨m, hm, her⟩ := map_ok hH hp hb
      refine ⟨_, ?_, .int _ _⟩
      rw [hks]
      have hl : m.size = len es := by rw [len_eq, her.length]; simp
      exact bind_value (by simp [Builtin.len_, types_head ht, hA, hXe, run_underlying (und_ok hE hd), goInt, run_getObj_map hm, hl])
    · cases h
  · cases h
end
end Go.Ev
