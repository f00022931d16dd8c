/- The evaluator's operations on addresses. -/
import Derived.Test.YtlgngfiiaoodjaaGreatDoorEvActs
import Derived.Lib.UnsafeStr
import Derived.Laws.IdiomStrings
set_option linter.unusedVariables false
set_option linter.unusedSimpArgs false
/- The evaluator's operations on addresses. -/
namespace Go.Ev
section
variable {P : Program} {E : Env}
theorem liesAt_self {e : TypeId} {k : Nat} (hc : P.cellsOf e = k + 1) (count n : Nat) (hn : n ≤ count) : liesAt P P.depth e count 0 e n = true := by
  have hd : P.depth = (2 * (P.types.size + Made.depth) + 1) + 1 := rfl
  rw [hd]
  simp only [liesAt, Bool.or_eq_true]
  left
  rw [hd]
  simp [rowAt, hc, hn, sameLayout]
theorem ptrU_read (hE : EnvOk P E) {o : Oper} {s d u : TypeId} {n : Nat} {X : Operand} {x : Opd} (ho : o.op = .convert s d X) (hx : opd E.ng X = some x)
    (hs : E.und s = some .unsafePointer) (hd : E.und d = some (.pointer u)) (hn : E.size u = some (n + 1)) : ReadOk P E o (ptrUV u (n + 1) x) := by
  intro φ nt T H a w v hT hH hG h
  obtain ⟨v', hu, h⟩ := ob_some.1 h
  have hX := getO_ok hT hH.gr hx hu
  generalize hXe : a.eval X = X' at hX
  have hsu := und_ok hE hs
  have hdu := und_ok hE hd
  split at h
  · cases h; cases hX
    refine ⟨_, ?_, .nptr⟩
    simp [execOp, ho, hXe, convert, run_underlying hsu, run_underlying hdu, Conv.unsafePointer]
  · next b =>
    cases hX with | ptr _ hp =>
    next p =>
    split at h
    case h_2 => cases h
    next pl l hb =>
    obtain ⟨h1, h⟩ := guardV_some.1 h
    obtain ⟨h2, h⟩ := guardV_some.1 h
    cases h
    have h1 : pl = u + 1 := Nat.eq_of_beq_eq_true h1
    have h2 := le_of_ble h2
    rw [len_eq] at h2
    obtain ⟨q, ob, hq, hob, hB⟩ := hH.blk _ _ hb
    rw [hp] at hq; cases hq
    cases hB with | cells hl hc hg hf hpl =>
    next c e fz =>
    obtain ⟨hfz, hoff, he⟩ := hpl u h1
    subst he
    obtain ⟨i, hi, hin⟩ := size_info hE hn
    have hco : P.cellsOf e = n + 1 := by simp [Program.cellsOf, hi, hin]
    have hcnt : 1 ≤ c.size / P.cellsOf e := by
      rw [hco]
      refine (Nat.le_div_iff_mul_le (by omega)).2 ?_
      omega
    refine ⟨_, ?_, .ptr 0 hp⟩
    have hlies := liesAt_self (P := P) hco (c.size / P.cellsOf e) 1 hcnt
    have hshape : w.shape? p.blk = some (e, c.size) := by simp only [World.shape?, hob]
    simp [execOp, ho, hXe, convert, run_underlying hsu, run_underlying hdu, Conv.unsafePointer, Conv.seenAt, viewAt, hshape, size_ok hE hn, variablesAt, hoff, hlies]
  · cases h
theorem sdata_pure {ng : Nat} {o : Oper} {c : Call} {x : Opd} (ho : o.op = .call c) (hc : c.callee = .builtin .unsafeSliceData) (hx : opds ng c.args = some [x]) : PureOk P ng o (sdataV x) := by
  intro φ nt T a w v hT hG h
  obtain ⟨u, hu, h⟩ := ob_some.1 h
  obtain ⟨X, hA, hX⟩ := opds_one hx
  have hR := getO_ok hT hG hX hu
  obtain ⟨ks, hks⟩ := exec_builtin (P := P) ho hc
  generalize hXe : a.eval X = X' at hR
  split at h
  · cases h; cases hR
    refine ⟨_, ?_, .nptr⟩
    rw [hks]
    refine bind_value ?_
    rw [hA]
    simp only [List.map_toArray, List.map_cons, List.map_nil, hXe]
    exact Lib.run_unsafeSliceData_nil _ _ _ _ _
  · cases h
    cases hR with
    | sliceC _ _ _ hp =>
      refine ⟨_, ?_, .ptr _ hp⟩
      rw [hks]
      refine bind_value ?_
      rw [hA]
      simp only [List.map_toArray, List.map_cons, List.map_nil, hXe]
      exact Lib.run_unsafeSliceData_row _ _ _ _ _ _ (by omega)
    | sliceO _ _ _ _ hp hs hn =>
      refine ⟨_, ?_, .ptr _ hp⟩
      rw [hks]
      refine bind_value ?_
      rw [hA]
      simp only [List.map_toArray, List.map_cons, List.map_nil, hXe]
      exact Lib.run_unsafeSliceData_row _ _ _ _ _ _ (by omega)
  · cases h
theorem strC_succ (n : Nat) (l : List AV) : strC (n + 1) l = match l with
    | .int .u8 (.ofNat x) :: tl => guardV (Nat.blt x 256) fun _ => ob (strC n tl) fun c => some (Nat.add x (Nat.mul 256 c))
    | _ => none := rfl
theorem strC_ok {φ : Phi} : ∀ (n : Nat) (l : List AV) (c : Nat), strC n l = some c → ∃ bs : List UInt8, bs.length = n ∧ cl bs = c ∧ n ≤ l.length ∧ ∀ (j : Nat) (x : UInt8), bs[j]? = some x → l[j]? = some (AV.int .u8 (x.toNat : Int))
  | 0, l, c, h => by cases h; exact ⟨[], rfl, rfl, Nat.zero_le _, fun j x hx => by simp at hx⟩
  | n + 1, l, c, h => by
    rw [strC_succ] at h
    split at h
    · next x tl =>
      obtain ⟨h1, h⟩ := guardV_some.1 h
      obtain ⟨c', hc', h⟩ := ob_some.1 h
      cases h
      have h1 : x < 256 := by simpa [Nat.blt_eq] using h1
      obtain ⟨bs, e1, e2, e3, e4⟩ := strC_ok (φ := φ) n tl c' hc'
      have hx : (x.toUInt8).toNat = x := by simp; omega
      refine ⟨x.toUInt8 :: bs, by simp [e1], ?_, by simp; omega, fun j y hy => ?_⟩
      · show x.toUInt8.toNat + 256 * cl bs = x + 256 * c'
        rw [hx, e2]
      · cases j with
        | zero => simp at hy; subst hy; simp [hx]
        | succ j => simpa using e4 j y (by simpa using hy)
    · cases h
theorem b2s_read (hE : EnvOk P E) {o : Oper} {s d e : TypeId} {X : Operand} {x : Opd} (ho : o.op = .convert s d X) (hx : opd E.ng X = some x)
    (hs : E.und s = some (.slice e)) (hd : E.und d = some .string) (he : E.und e = some (.int .u8)) : ReadOk P E o (b2sV E.gl x) := by
  intro φ nt T H a w v hT hH hG h
  obtain ⟨u, hu, h⟩ := ob_some.1 h
  have hX := getO_ok hT hH.gr hx hu
  generalize hXe : a.eval X = X' at hX
  have conv : ∀ p l c z, X' = .slice p l c → (Conv.bytesToString (.slice p l c)).run P w = .ok z w → (execOp a.eval o).run P w = .ok (.value z) w := by
    intro p l c z hX' hz
    have h1 := run_convert_bytes_string (P := P) w s d e p l c (und_ok hE hs) (und_ok hE he) (und_ok hE hd)
    simp [execOp, ho, hXe, hX', h1, hz]
  split at h
  · cases h; cases hX
    exact ⟨.string .empty, conv _ _ _ _ rfl (by simp [Conv.bytesToString]), .str ⟨rfl, by rw [codeOf_eq]; rfl⟩⟩
  · next b of l c op =>
    obtain ⟨_, h⟩ := guardV_some.1 h
    obtain ⟨vs, hvs, h⟩ := ob_some.1 h
    obtain ⟨code, hc, h⟩ := ob_some.1 h
    cases h
    have key : ∀ (p : Pl) (k : Nat), φ b = some p → X' = .slice (some ⟨p.blk, p.off + of, none⟩) l k → ∃ x, (execOp a.eval o).run P w = .ok (.value x) w ∧ VR φ (.str l code) x := by
      intro p k hp hX'
      obtain ⟨cs, hcl, hr, hcs⟩ := loadN_ok hH hG hp hvs
      obtain ⟨bs, e1, e2, e3, e4⟩ := strC_ok (φ := φ) _ _ _ hc
      have hll : vs.length = l := by rw [← hcl]; exact hr.length
      have hcsb : cs = bs.map fun x => Value.int .u8 (x.toNat : Int) := by
        apply List.ext_getElem?
        intro j
        rw [List.getElem?_map]
        cases hb : bs[j]? with
        | none =>
          have : bs.length ≤ j := by simpa using hb
          rw [List.getElem?_eq_none (by omega)]; rfl
        | some y =>
          obtain ⟨z, hz, hvr⟩ := hr.get (e4 j y hb)
          cases hvr
          rw [hz]; rfl
      have hload := run_loadCells_list (P := P) w _ cs hcs
      rw [hcl] at hload
      refine ⟨.string ⟨bs.toArray⟩, conv _ _ _ _ hX' ?_, .str ⟨?_, ?_⟩⟩
      · rw [run_bytesToString w _ l k (bs.map fun x => (x.toNat : Int)) (by rw [hload, hcsb]; simp [Function.comp_def]), foldl_push_byteCells]
        simp
      · show (⟨bs.toArray⟩ : ByteArray).size = l
        simp [ByteArray.size, e1]
      · rw [codeOf_eq]; exact e2
    cases hX with
    | sliceC _ _ _ hp => exact key _ _ hp rfl
    | sliceO _ _ _ _ hp _ _ => exact key _ _ hp rfl
  · cases h
theorem ustr_act (hE : EnvOk P E) {o : Oper} {c : Call} {pt it e : TypeId} {x y : Opd} (ho : o.op = .call c) (hc : c.callee = .builtin .unsafeString) (hx : opds E.ng c.args = some [x, y])
    (ht : c.argTypes.toList = [pt, it]) (hp : E.und pt = some (.pointer e)) (hs : E.size e = some 1) : ActOk P E o (ustrR e x y) := by
  intro φ nt T H a w v H' hT hH hG h
  obtain ⟨u, hu, h1⟩ := rb_ok h; clear h
  obtain ⟨u', hu', h⟩ := rb_ok h1; clear h1
  obtain ⟨X, Y, hA, hX, hY⟩ := opds_two hx
  have hRX := getO_ok hT hH.gr hX hu
  have hRY := getO_ok hT hH.gr hY hu'
  obtain ⟨ks, hks⟩ := exec_builtin (P := P) ho hc
  generalize hXe : a.eval X = X' at hRX
  generalize hYe : a.eval Y = Y' at hRY
  have hat : c.argTypes = #[pt, it] := by
    have := congrArg List.toArray ht
    simpa using this
  have base : ∀ z w', (Builtin.unsafeString_ #[pt, it] o.type #[X', Y']).run P w = .ok z w' → (execOp a.eval o).run P w = .ok (.value z) w' := by
    intro z w' hh
    rw [hks]
    refine bind_value ?_
    rw [two_args hA, hXe, hYe, hat]; exact hh
  have hemp : VR φ (.str 0 0) (.string .empty) := .str ⟨rfl, by rw [codeOf_eq]; rfl⟩
  split at h
  · cases h; cases hRX; cases hRY
    exact ⟨φ, w, _, _, base _ w (Lib.run_unsafeString_none w pt it o.type none), yields_value _, hemp, hH, Keep.refl _ _ _⟩
  · next b n =>
    cases hRX with | ptr _ hpb =>
    next p =>
    cases hRY
    split at h
    · cases h
      exact ⟨φ, w, _, _, base _ w (Lib.run_unsafeString_none w pt it o.type _), yields_value _, hemp, hH, Keep.refl _ _ _⟩
    · next m =>
      split at h
      case h_2 => cases h
      next pl l hb =>
      split at h
      case h_2 => cases h
      next code h1 h2 h3 =>
      rw [Hp.setK_eq] at h
      cases h
      have h1 : pl = e + 1 := Nat.eq_of_beq_eq_true h1
      have h2 : m + 1 ≤ 1000000 := le_of_ble h2
      obtain ⟨bs, e1, e2, e3, e4⟩ := strC_ok (φ := φ) _ _ _ h3
      obtain ⟨q, ob, hq, hob, hB⟩ := hH.blk _ _ hb
      rw [hpb] at hq; cases hq
      cases hB with | cells hl hcz hg hf hpl =>
      next cc et fz =>
      obtain ⟨hfz, hoff, het⟩ := hpl e h1
      subst het
      obtain ⟨i, hi, hin⟩ := size_info hE hs
      have hco : P.cellsOf et = 1 := by simp [Program.cellsOf, hi, hin]
      have hshape : w.shape? p.blk = some (et, cc.size) := by simp only [World.shape?, hob]
      have hcell : ∀ (j : Nat) (x : UInt8), bs[j]? = some x → w.cell? ((⟨p.blk, 0, none⟩ : Addr).add j) = some (.int .u8 x.toNat) := by
        intro j x hx
        obtain ⟨z, hz, hr⟩ := hg j _ (e4 j x hx)
        cases hr
        rw [hoff, Nat.zero_add] at hz
        rw [Addr.add_lit, Nat.zero_add]
        simp [World.cell?, hob, hz]
      have hlen : bs.length ≤ cc.size := by
        have := Nat.zero_le (p.ext * p.sz)
        rw [e1]; omega
      have hrun := Lib.run_unsafeString_row (P := P) w pt it o.type et (und_ok hE hp) hco p.blk cc.size hshape bs (by intro hh; rw [hh] at e1; cases e1) hlen (by omega) hcell
      rw [e1] at hrun
      rw [hoff, Nat.zero_add] at base
      have hplt : p.blk < w.heap.size := (Array.getElem?_eq_some_iff.1 hob).1
      have hothers : ∀ j, j ≠ p.blk → (w.freeze ⟨p.blk, 0, none⟩ (m + 1)).heap[j]? = w.heap[j]? := by
        intro j hj
        unfold World.freeze
        rw [if_neg (by omega)]
        simp only [Array.getElem?_modify]
        rw [if_neg (fun h => hj h.symm)]
      have hsz : (w.freeze ⟨p.blk, 0, none⟩ (m + 1)).heap.size = w.heap.size := by
        unfold World.freeze
        rw [if_neg (by omega)]
        simp
      have hd := hH.drop b
      refine ⟨φ, w.freeze ⟨p.blk, 0, none⟩ (m + 1), _, _, base _ _ hrun, yields_value _, .str ⟨?_, ?_⟩, ⟨fun b' B' hb' => ?_, hd.inj, hd.new, hd.glob⟩, ⟨φ.le_refl, by rw [hsz]; exact Nat.le_refl _, fun j hj hn => hothers j (fun hh => hn b _ p hb hpb hh.symm), fun b' B' q' hb' hq' hl' => ?_, ?_, ?_, ?_, fun _ _ => rfl, Nat.le_refl _⟩⟩
      · show (⟨bs.toArray⟩ : ByteArray).size = m + 1
        simp [ByteArray.size, e1]
      · rw [codeOf_eq]; exact e2
      · obtain ⟨q', ob', hq', hob', hB'⟩ := hd.blk b' B' hb'
        refine ⟨q', ob', hq', ?_, hB'⟩
        rw [hothers]; exact hob'
        intro hh
        simp only [Hp.set, Tr.get_set] at hb'
        by_cases hbb : b' = b
        · rw [if_pos hbb] at hb'; cases hb'
        · rw [if_neg hbb] at hb'
          exact hbb (hH.inj b' b B' _ q' p hb' hb hq' hpb hh)
      · simp only [Hp.set, Tr.get_set] at hb'
        by_cases hbb : b' = b
        · rw [if_pos hbb] at hb'; cases hb'
        · rw [if_neg hbb] at hb'; exact ⟨b', B', q', hb', hq', rfl⟩
      all_goals (unfold World.freeze; rw [if_neg (by omega)])
  · cases h
end
end Go.Ev
/- The evaluator's operations, all together. -/
namespace Go.Ev
/-- what an operation of the evaluator says of one of the program's -/
def CopOk (P : Program) (E : Env) (o : Oper) : COp → Prop
  | .pure f => PureOk P E.ng o f
  | .read f => ReadOk P E o f
  | .slc f g h => (PureOk P E.ng o f ∧ ActOk P E o g) ∧ PureOk P E.ng o h
  | .alc f v => AlcOk P E.ng o f v
  | .st f => StOk P E.ng o f
  | .eff g => ActOk P E o g
  | .call f xs => ∃ c, o.op = .call c ∧ c.callee = .value (.func f) ∧ opds E.ng c.args = some xs
  | .dyn x xs => ∃ c X, o.op = .call c ∧ c.callee = .value X ∧ opd E.ng X = some x ∧ opds E.ng c.args = some xs
  | .inv m x xs => ∃ c X name, o.op = .call c ∧ c.callee = .invoke X name ∧ opd E.ng X = some x ∧ opds E.ng c.args = some xs ∧ m = methOf E name
  | .defer x xs => ∃ c X, o.op = .defer c ∧ c.callee = .value X ∧ opd E.ng X = some x ∧ opds E.ng c.args = some xs
  | .recover => ∃ c, o.op = .call c ∧ c.callee = .builtin .recover
section
variable {P : Program} {E : Env}
theorem cCall_ok (hE : EnvOk P E) {o : Oper} {c : Call} {k : COp} (ho : o.op = .call c) (h : cCall E c = some k) : CopOk P E o k := by
  unfold cCall at h
  split at h
  · next f hc =>
    obtain ⟨l, hl, h⟩ := ob_some.1 h
    cases h
    exact ⟨c, ho, hc, hl⟩
  · next X _ hc =>
    obtain ⟨y, hy, h⟩ := ob_some.1 h
    obtain ⟨l, hl, h⟩ := ob_some.1 h
    cases h
    exact ⟨c, X, ho, hc, hy, hl⟩
  · next r name hc =>
    obtain ⟨y, hy, h⟩ := ob_some.1 h
    obtain ⟨l, hl, h⟩ := ob_some.1 h
    cases h
    exact ⟨c, r, name, ho, hc, hy, hl, rfl⟩
  · next b hc =>
    split at h
    · next x y t u hx ht =>
      split at h
      · next e i he hi hu =>
        obtain ⟨z, hz, h⟩ := ob_some.1 h
        split at h
        · next hl =>
          cases h
          refine append_act hE ho hc hx ht he hi ?_ hz hl
          unfold zerosOf at hu
          split at hu
          · exact .inl rfl
          · next u' us =>
            right
            split at hu
            · cases hu
            · next d hn hd => exact ⟨u', us, d, rfl, hd, fun k hk => hn k (hk ▸ rfl)⟩
            · cases hu
        · cases h
      · next e i he hi hu =>
        obtain ⟨z, hz, h⟩ := ob_some.1 h
        split at h
        · next hl =>
          cases h
          unfold zerosOf at hu
          split at hu
          · cases hu
          · next u' us =>
            split at hu
            · next ku hku => exact appendZ_act hE ho hc hx ht he hi hku hz hl
            · cases hu
            · cases hu
        · cases h
      · cases h
    · next x y t u hx ht =>
      obtain ⟨i, hi, h⟩ := ob_some.1 h
      cases h
      exact copy_act hE ho hc hx ht hi
    · next x t u hx ht =>
      split at h
      · next hd => cases h; exact lenS_pure hE ho hc hx ht hd
      · next e hd => cases h; exact len_pure hE ho hc hx ht hd
      · next a b hd => cases h; exact lenM_read hE ho hc hx ht hd
      · next n e hd => cases h; exact lenA_pure hE ho (.inl rfl) hc hx ht hd
      · cases h
    · next x t u hx ht =>
      split at h
      · next e hd => cases h; exact cap_pure hE ho hc hx ht hd
      · next n e hd => cases h; exact lenA_pure hE ho (.inr rfl) hc hx ht hd
      · cases h
    · next x k' t u hx ht =>
      split at h
      · next kt et hd =>
        obtain ⟨kd, hkd, h⟩ := ob_some.1 h
        cases h
        exact delete_act hE ho hc hx ht hd hkd
      · cases h
    · next l _ hx => cases h; exact mm_pure (mx := false) ho hc hx
    · next l _ hx => cases h; exact mm_pure (mx := true) ho hc hx
    · next hx => cases h; exact ⟨c, ho, hc⟩
    · next x _ hx => cases h; exact sdata_pure ho hc hx
    · next x y pt it hx ht =>
      split at h
      · next e hp =>
        split at h
        · next hs => cases h; exact ustr_act hE ho hc hx ht hp hs
        · cases h
      · cases h
    · cases h
theorem cop_ok (hE : EnvOk P E) {o : Oper} {k : COp} (h : cop E o.op = some k) : CopOk P E o k := by
  cases ho : o.op with
  | move x =>
    rw [ho] at h
    obtain ⟨y, hy, h⟩ := ob_some.1 h; cases h
    exact move_ok (.inl ho) hy
  | assign x =>
    rw [ho] at h
    obtain ⟨y, hy, h⟩ := ob_some.1 h; cases h
    exact move_ok (.inr ho) hy
  | pick c a b =>
    rw [ho] at h
    obtain ⟨x, hx, h⟩ := ob_some.1 h
    obtain ⟨y, hy, h⟩ := ob_some.1 h
    obtain ⟨z, hz, h⟩ := ob_some.1 h; cases h
    exact pick_pure ho hx hy hz
  | alloc e =>
    rw [ho] at h
    obtain ⟨z, hz, h⟩ := ob_some.1 h; cases h
    exact AlcOf.ok (new_alc hE ho hz)
  | box e x =>
    rw [ho] at h
    obtain ⟨y, hy, h⟩ := ob_some.1 h; cases h
    exact AlcOf.ok (box_alc ho hy)
  | build t ps =>
    rw [ho] at h
    obtain ⟨z, hz, h⟩ := ob_some.1 h
    split at h
    · next fs ht =>
      split at h
      · next hs =>
        obtain ⟨l, hl, h⟩ := ob_some.1 h; cases h
        exact buildS_pure hE ho hz ht hs hl
      · cases h
    · next n e ht =>
      obtain ⟨s, hs, h⟩ := ob_some.1 h
      obtain ⟨l, hl, h⟩ := ob_some.1 h; cases h
      exact buildA_pure hE ho hz ht hs hl
    · cases h
  | buildSlice t n ps =>
    rw [ho] at h
    obtain ⟨e, he, h⟩ := ob_some.1 h
    obtain ⟨i, hi, h⟩ := ob_some.1 h
    obtain ⟨z, hz, h⟩ := ob_some.1 h
    split at h
    · next h1 h2 =>
      obtain ⟨l, hl, h⟩ := ob_some.1 h; cases h
      exact AlcOf.ok (bslice_alc hE ho he hi hz h1 h2 hl)
    · cases h
  | load t x =>
    rw [ho] at h
    obtain ⟨y, hy, h⟩ := ob_some.1 h
    split at h
    · next n ht hn => cases h; exact ldn_read hE ho hy ht hn
    · next ht => cases h; exact ld1_read hE ho hy ht
    · cases h
  | store t a x =>
    rw [ho] at h
    obtain ⟨n, hn, h⟩ := ob_some.1 h
    obtain ⟨y, hy, h⟩ := ob_some.1 h
    obtain ⟨z, hz, h⟩ := ob_some.1 h; cases h
    exact st_ok hE ho hn hy hz
  | nilCheck x =>
    rw [ho] at h
    obtain ⟨y, hy, h⟩ := ob_some.1 h; cases h
    exact nilck_ok hE ho hy
  | binOp op t x y yt =>
    rw [ho] at h
    obtain ⟨a, ha, h1⟩ := ob_some.1 h; clear h
    obtain ⟨b, hb, h⟩ := ob_some.1 h1; clear h1
    split at h
    · cases h; exact bin_pure ho ha hb
    · cases h; exact bin_pure ho ha hb
    · next ht => cases h; exact bool_pure (neg := false) hE ho ha hb ht
    · next ht => cases h; exact bool_pure (neg := true) hE ho ha hb ht
    · cases h; exact eq_read (neg := false) hE ho ha hb
    · cases h; exact eq_read (neg := true) hE ho ha hb
    · cases h
  | unOp op t x =>
    rw [ho] at h
    obtain ⟨y, hy, h⟩ := ob_some.1 h; cases h
    exact un_pure ho hy
  | convert s d x =>
    rw [ho] at h
    obtain ⟨y, hy, h⟩ := ob_some.1 h
    split at h
    · next hs hd => cases h; exact conv_pure hE ho hy hs hd
    · next hs hd => cases h; exact same_pure hE ho hy hs hd
    · next u hs hd =>
      split at h
      · next n hn => cases h; exact ptrU_read hE ho hy hs hd hn
      · cases h
    · next e hs hd =>
      split at h
      · next n hn => cases h; exact uptr_read hE ho hy hs hd hn
      · cases h
    · next e hs hd =>
      split at h
      · next he => cases h; exact b2s_read hE ho hy hs hd he
      · cases h
    · next e hs hd =>
      split at h
      · next he hn => cases h; exact s2b_act hE ho hy hs hd he
      · cases h
    · cases h
  | makeInterface t x =>
    rw [ho] at h
    obtain ⟨y, hy, h⟩ := ob_some.1 h
    split at h
    · cases h
    · next d hn hd => cases h; exact mkif_pure hE ho hy hd (fun ms he => hn ms (he ▸ rfl))
    · cases h
  | makeFunc fn a b =>
    cases fn with
    | method n =>
      rw [ho] at h
      obtain ⟨x, hx, h⟩ := ob_some.1 h
      obtain ⟨y, hy, h⟩ := ob_some.1 h; cases h
      exact mkb_pure ho hx hy
    | func f =>
      rw [ho] at h
      obtain ⟨x, hx, h⟩ := ob_some.1 h
      obtain ⟨y, hy, h⟩ := ob_some.1 h; cases h
      exact mkfn_pure ho hx hy
    | _ => rw [ho] at h; cases h
  | makeMap t r =>
    rw [ho] at h
    simp only [cop] at h
    split at h
    · next ht => cases h; exact mkmap_act hE ho ht (.inl rfl)
    · next ht => cases h; exact mkmap_act hE ho ht (.inr ⟨_, _, rfl⟩)
    · cases h
  | makeSlice t l c =>
    rw [ho] at h
    obtain ⟨e, he, h⟩ := ob_some.1 h
    obtain ⟨i, hi, h⟩ := ob_some.1 h
    obtain ⟨z, hz, h⟩ := ob_some.1 h
    obtain ⟨x, hx, h⟩ := ob_some.1 h
    obtain ⟨y, hy, h⟩ := ob_some.1 h
    split at h
    · next h1 h2 => cases h; exact AlcOf.ok (mkslice_alc hE ho he hi hz h1 hx hy)
    · cases h
  | slice t x lo hi mx =>
    rw [ho] at h
    obtain ⟨y, hy, h⟩ := ob_some.1 h
    obtain ⟨l, hl, h⟩ := ob_some.1 h
    obtain ⟨u, hu, h⟩ := ob_some.1 h
    obtain ⟨m, hm, h⟩ := ob_some.1 h
    have mnone : ∀ {M : Option Operand}, optOpd E.ng M = some none → M = none := by
      intro M hM; cases M with
      | none => rfl
      | some M => unfold optOpd at hM; split at hM
                  · next h => cases h
                  · split at hM <;> cases hM
    have msome : ∀ {M : Option Operand} {q : Opd}, optOpd E.ng M = some (some q) → ∃ Q, M = some Q ∧ opd E.ng Q = some q := by
      intro M q hM; cases M with
      | none => cases hM
      | some M =>
        refine ⟨M, rfl, ?_⟩
        unfold optOpd at hM
        split at hM
        · next h => cases h
        · next h => cases h; split at hM
                    · next h => cases hM; exact h
                    · cases hM
    split at h
    · next ht =>
      cases h
      obtain rfl := mnone hm
      exact sliceS_pure hE ho hy hl hu ht
    · next e mx' ht =>
      obtain ⟨s, hs, h⟩ := ob_some.1 h
      split at h
      · cases h
        obtain rfl := mnone hm
        exact ⟨⟨slice_pure hE ho hy hl hu ht hs, slice_act hE ho hy hl hu ht hs⟩, sliceE_pure hE ho hy hl hu ht hs⟩
      · next m' =>
        split at h
        · next h' =>
          cases h
          obtain ⟨M, rfl, hM⟩ := msome hm
          obtain ⟨Hi, rfl, hHi⟩ := msome hu
          exact slice3_pure hE ho hy hl hHi hM ht hs
        · cases h
    · next n e mx' ht =>
      obtain ⟨s, hs, h⟩ := ob_some.1 h
      split at h
      · cases h
        obtain rfl := mnone hm
        exact sliceA_pure hE ho hy hl hu ht hs
      · cases h
    · cases h
  | fieldAddr s x f =>
    rw [ho] at h
    obtain ⟨y, hy, h⟩ := ob_some.1 h
    split at h
    · next fs hs =>
      obtain ⟨fl, hf, h⟩ := ob_some.1 h
      split at h
      · next n hn => cases h; exact faddr_pure hE ho hy hs hf hn
      · cases h
    · cases h
  | field t x f =>
    rw [ho] at h
    obtain ⟨y, hy, h⟩ := ob_some.1 h
    split at h
    · next fs hs =>
      obtain ⟨fl, hf, h⟩ := ob_some.1 h
      obtain ⟨n, hn, h⟩ := ob_some.1 h
      obtain ⟨b, hb, h⟩ := ob_some.1 h; cases h
      exact field_pure hE ho hy hs hf hn hb
    · cases h
  | indexAddr t x i =>
    rw [ho] at h
    obtain ⟨y, hy, h⟩ := ob_some.1 h
    obtain ⟨j, hj, h⟩ := ob_some.1 h
    split at h
    · next e ht => obtain ⟨s, hs, h⟩ := ob_some.1 h; cases h; exact iaddrS_pure hE ho hy hj ht hs
    · next n e ht => obtain ⟨s, hs, h⟩ := ob_some.1 h; cases h; exact iaddrA_pure hE ho hy hj ht hs
    · cases h
  | index t x i =>
    rw [ho] at h
    obtain ⟨y, hy, h⟩ := ob_some.1 h
    obtain ⟨j, hj, h⟩ := ob_some.1 h
    split at h
    · next ht => cases h; exact idxS_pure hE ho hy hj ht
    · next n e ht =>
      obtain ⟨s, hs, h⟩ := ob_some.1 h
      obtain ⟨b, hb, h⟩ := ob_some.1 h; cases h
      exact idxA_pure hE ho hy hj ht hs hb
    · cases h
  | lookup t x i okk =>
    rw [ho] at h
    obtain ⟨y, hy, h⟩ := ob_some.1 h
    obtain ⟨j, hj, h⟩ := ob_some.1 h
    split at h
    · next kt e ht =>
      obtain ⟨kd, hkd, h⟩ := ob_some.1 h
      obtain ⟨z, hz, h⟩ := ob_some.1 h
      split at h
      · cases h; exact lookupS_read hE ho hy hj ht hkd hz
      · cases h; exact lookup_read hE ho hy hj ht hkd hz
    · cases h
  | mapUpdate t m kk v =>
    rw [ho] at h
    obtain ⟨x, hx, h⟩ := ob_some.1 h
    obtain ⟨y, hy, h⟩ := ob_some.1 h
    obtain ⟨z, hz, h⟩ := ob_some.1 h
    split at h
    · next kt e ht =>
      obtain ⟨kd, hkd, h⟩ := ob_some.1 h
      split at h
      · cases h; exact mapsetS_act hE (.inl ho) hx hy hz ht hkd
      · cases h; exact mapset_act hE (.inl ho) hx hy hz ht hkd
    · cases h
  | insert t m kk v =>
    rw [ho] at h
    obtain ⟨x, hx, h⟩ := ob_some.1 h
    obtain ⟨y, hy, h⟩ := ob_some.1 h
    obtain ⟨z, hz, h⟩ := ob_some.1 h
    split at h
    · next kt e ht =>
      obtain ⟨kd, hkd, h⟩ := ob_some.1 h
      split at h
      · cases h; exact mapsetS_act hE (.inr ho) hx hy hz ht hkd
      · cases h; exact mapset_act hE (.inr ho) hx hy hz ht hkd
    · cases h
  | extract x i =>
    rw [ho] at h
    obtain ⟨y, hy, h⟩ := ob_some.1 h; cases h
    exact ext_pure ho hy
  | range t x =>
    rw [ho] at h
    obtain ⟨y, hy, h⟩ := ob_some.1 h
    split at h
    · next ht => cases h; exact rangeS_act hE ho hy ht
    · cases h
  | next x s =>
    rw [ho] at h
    cases s
    · cases h
    · obtain ⟨y, hy, h⟩ := ob_some.1 h; cases h
      exact nextS_act ho hy
  | typeAssert x xt t ok =>
    rw [ho] at h
    obtain ⟨y, hy, h⟩ := ob_some.1 h
    obtain ⟨d, hd, h⟩ := ob_some.1 h; cases h
    exact tas_pure hE ho hy hd
  | call c => rw [ho] at h; exact cCall_ok hE ho h
  | defer c =>
    rw [ho] at h
    change (match cCall E c with | some (.call f l) => some (.defer (.c (.fn f [] [])) l) | some (.dyn x l) => some (.defer x l) | _ => none) = some k at h
    have hc : ∀ kk, cCall E c = some kk → (∀ f l, kk = .call f l → c.callee = .value (.func f) ∧ opds E.ng c.args = some l) ∧ (∀ x l, kk = .dyn x l → ∃ X, c.callee = .value X ∧ opd E.ng X = some x ∧ opds E.ng c.args = some l) := by
      intro kk hkk
      have := cCall_ok (P := P) hE (o := { o with op := .call c }) rfl hkk
      refine ⟨fun f l e => ?_, fun x l e => ?_⟩
      · subst e; obtain ⟨c', h1, h2, h3⟩ := this; cases h1; exact ⟨h2, h3⟩
      · subst e; obtain ⟨c', X, h1, h2, h3, h4⟩ := this; cases h1; exact ⟨X, h2, h3, h4⟩
    split at h
    · next f l hk => cases h; obtain ⟨h1, h2⟩ := (hc _ hk).1 f l rfl; exact ⟨c, _, ho, h1, rfl, h2⟩
    · next x l hk => cases h; obtain ⟨X, h1, h2, h3⟩ := (hc _ hk).2 x l rfl; exact ⟨c, X, ho, h1, h2, h3⟩
    · cases h
  | _ => rw [ho] at h; cases h
end
end Go.Ev
