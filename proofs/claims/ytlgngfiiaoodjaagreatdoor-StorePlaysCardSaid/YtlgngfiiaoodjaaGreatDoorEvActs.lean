/- The evaluator's operations that act: new blocks, stores. -/
import Derived.Test.YtlgngfiiaoodjaaGreatDoorEvPures
import Derived.Laws.MakeOwn
import Derived.Laws.RangeString
import Derived.Laws.AppendOwn
import Derived.Laws.NewFold
set_option linter.unusedVariables false
set_option linter.unusedSimpArgs false
/- The evaluator's operations that act: new blocks, stores. -/
namespace Go.Ev
/-- what an operation leaves in its slot -/
def Yields (n : Next) (x : Value) : Prop := n = .value x ∨ n = .skip ∧ x = undef
def ActOk (P : Program) (E : Env) (o : Oper) (g : Tr AV → Hp → Ret) : Prop :=
  ∀ φ nt T H (a : Act) w v H', TR φ nt T a.tmps → HR E.ng φ H w → GL E φ H w → g T H = .ok v H' →
    ∃ φ' w' n x, (execOp a.eval o).run P w = .ok n w' ∧ Yields n x ∧ VR φ' v x ∧ HR E.ng φ' H' w' ∧ Keep φ H w φ' H' w'
/-- a new block -/
def AlcOk (P : Program) (ng : Nat) (o : Oper) (f : Tr AV → Option Blk) (g : Tr AV → Pos → Option AV) : Prop :=
  ∀ φ nt T (a : Act) w B, TR φ nt T a.tmps → GR ng φ → f T = some B → ∃ (l : List AV) (c : Array Value) (e : TypeId) (mk : Nat → Value), B = .cells (e + 1) l ∧
    (execOp a.eval o).run P w = .ok (.value (mk w.heap.size)) { w with heap := w.heap.push (.cells c e) } ∧ VRL φ l c.toList ∧
    ∀ (φ' : Phi) b p u, g T b = some u → φ' b = some p → p.off = 0 → VR φ' u (mk p.blk)
def AlcOf (P : Program) (ng : Nat) (o : Oper) (e : TypeId) (f : Tr AV → Option (List AV)) (g : Tr AV → Pos → Option AV) : Prop :=
  ∀ φ nt T (a : Act) w l, TR φ nt T a.tmps → GR ng φ → f T = some l → ∃ (c : Array Value) (mk : Nat → Value),
    (execOp a.eval o).run P w = .ok (.value (mk w.heap.size)) { w with heap := w.heap.push (.cells c e) } ∧ VRL φ l c.toList ∧
    ∀ (φ' : Phi) b p u, g T b = some u → φ' b = some p → p.off = 0 → VR φ' u (mk p.blk)
theorem AlcOf.ok {P : Program} {ng : Nat} {o : Oper} {e : TypeId} {f : Tr AV → Option (List AV)} {g : Tr AV → Pos → Option AV} (h : AlcOf P ng o e f g) : AlcOk P ng o (newB e f) g := by
  intro φ nt T a w B hT hG hB
  obtain ⟨l, hl, hB⟩ := ob_some.1 hB
  cases hB
  obtain ⟨c, mk, h1, h2, h3⟩ := h φ nt T a w l hT hG hl
  exact ⟨l, c, e, mk, rfl, h1, h2, h3⟩
/-- a store -/
def StOk (P : Program) (ng : Nat) (o : Oper) (f : Tr AV → Option (Pos × Nat × List AV)) : Prop :=
  ∀ φ nt T (a : Act) b ofs vs, TR φ nt T a.tmps → GR ng φ → f T = some (b, ofs, vs) → ∃ p xs, φ b = some p ∧ VRL φ vs xs ∧ (∀ x ∈ xs, Value.oneCell' x = true) ∧
    ∀ w, (execOp a.eval o).run P w = ((storeCells ⟨p.blk, p.off + ofs, none⟩ xs).run P w).andThen fun _ w' => .ok .skip w'
section
variable {P : Program} {E : Env}
/-! ### cells written -/
def setSeg (cur : Array Value) : Nat → List Value → Array Value
  | _, [] => cur
  | o, v :: vs => setSeg (cur.setIfInBounds o v) (o + 1) vs
theorem setSeg_size : ∀ (vs : List Value) (cur : Array Value) (o : Nat), (setSeg cur o vs).size = cur.size
  | [], _, _ => rfl
  | v :: vs, cur, o => by rw [setSeg, setSeg_size vs]; simp
theorem setSeg_get : ∀ (vs : List Value) (cur : Array Value) (o j : Nat), o + vs.length ≤ cur.size → (setSeg cur o vs)[j]? = if o ≤ j ∧ j < o + vs.length then vs[j - o]? else cur[j]?
  | [], cur, o, j, _ => by
    rw [setSeg, if_neg]
    simp only [List.length_nil, Nat.add_zero]; omega
  | v :: vs, cur, o, j, h => by
    simp only [List.length_cons] at h ⊢
    rw [setSeg, setSeg_get vs _ _ _ (by simp; omega), Array.getElem?_setIfInBounds]
    by_cases h1 : o + 1 ≤ j ∧ j < o + 1 + vs.length
    · rw [if_pos h1, if_pos (by omega), show j - o = (j - (o + 1)) + 1 by omega, List.getElem?_cons_succ]
    · rw [if_neg h1]
      by_cases h2 : o = j
      · subst h2; rw [if_pos rfl, if_pos (by omega), if_pos (by omega), Nat.sub_self]; rfl
      · rw [if_neg h2, if_neg (by omega)]
theorem modify_eq {α : Type} (xs : Array α) (i : Nat) (f : α → α) (x : α) (h : xs[i]? = some x) : xs.modify i f = xs.setIfInBounds i (f x) := by
  obtain ⟨hi, rfl⟩ := Array.getElem?_eq_some_iff.1 h
  apply Array.ext_getElem?
  intro j
  rw [Array.getElem?_modify, Array.getElem?_setIfInBounds]
  by_cases e : i = j
  · subst e; simp [hi]
  · simp [e]
theorem setCell_eq {w : World} {g o : Nat} {cur : Array Value} {e : TypeId} {fz : Nat × Nat} (v : Value) (h : w.heap[g]? = some (.cells cur e fz)) :
    w.setCell ⟨g, o, none⟩ v = { w with heap := w.heap.setIfInBounds g (.cells (cur.setIfInBounds o v) e fz) } := by
  unfold World.setCell
  rw [modify_eq _ _ _ _ h]
  simp
theorem run_storeSeg {g : Nat} {e : TypeId} {fz : Nat × Nat} {o : Nat} : ∀ (vs : List Value) (i : Nat) (cur : Array Value) (w : World), w.heap[g]? = some (.cells cur e fz) → o + i + vs.length ≤ cur.size →
    (∀ j, o + i ≤ j → j < o + i + vs.length → ¬(fz.1 ≤ j ∧ j < fz.2)) → (∀ v ∈ vs, Value.oneCell' v = true) →
    (storeCells ⟨g, o, none⟩ vs i).run P w = .ok () { w with heap := w.heap.setIfInBounds g (.cells (setSeg cur (o + i) vs) e fz) }
  | [], i, cur, w, hg, _, _, _ => by
    simp only [storeCells, setSeg, Sem.run_pure]
    congr 1
    cases w
    simp only at hg ⊢
    congr 1
    apply Array.ext_getElem?
    intro j
    rw [Array.getElem?_setIfInBounds]
    by_cases e : g = j
    · subst e; obtain ⟨h1, h2⟩ := Array.getElem?_eq_some_iff.1 hg; simp [h1, h2]
    · simp [e]
  | v :: vs, i, cur, w, hg, hs, hf, ho => by
    simp only [List.length_cons] at hs hf
    have hlt := (Array.getElem?_eq_some_iff.1 hg).1
    have hc : w.cell? (Addr.add ⟨g, o, none⟩ i) = some cur[o + i] := by
      rw [Addr.add_lit]; simp [World.cell?, hg]
    have hz : w.frozen? (Addr.add ⟨g, o, none⟩ i) = false := by
      have := hf (o + i) (by omega) (by omega)
      rw [Addr.add_lit]; simp [World.frozen?, hg]; omega
    have ih := run_storeSeg (g := g) (e := e) (fz := fz) (o := o) vs (i + 1) (cur.setIfInBounds (o + i) v)
      { w with heap := w.heap.setIfInBounds g (.cells (cur.setIfInBounds (o + i) v) e fz) } (by simp [hlt]) (by simp; omega) (fun j h1 h2 => hf j (by omega) (by omega)) (fun u hu => ho u (List.mem_cons_of_mem _ hu))
    simp only [storeCells, Sem.run_bind, run_store P w _ v .plain (ho v (List.mem_cons_self ..)), hc, hz, Result.andThen_ok, Bool.false_eq_true, if_false]
    rw [Addr.add_lit, setCell_eq v hg, ih]
    simp [setSeg, Nat.add_assoc]
theorem oneCell_of {φ : Phi} {v : AV} {x : Value} (h : VR φ v x) (ho : v.one = true) : Value.oneCell' x = true := by
  cases h with
  | any h1 h2 => cases x <;> first | rfl | exact absurd rfl (h1 _) | exact absurd rfl (h2 _)
  | _ => first | rfl | simp [AV.one] at ho
theorem allOne_cells {φ : Phi} : ∀ {l : List AV} {m : List Value}, VRL φ l m → allOne l = true → ∀ x ∈ m, Value.oneCell' x = true
  | _, _, .nil, _ => by simp
  | v :: l, _, .cons h t, ho => by
    have ho' := (allOne_iff _).1 ho
    intro x hx
    cases hx with
    | head => exact oneCell_of h (ho' v (List.mem_cons_self ..))
    | tail _ hx => exact allOne_cells t ((allOne_iff _).2 fun u hu => ho' u (List.mem_cons_of_mem _ hu)) x hx
/-- a stretch of a block is written -/
theorem put_ok {φ : Phi} {H : Hp} {w : World} {b : Pos} {pl : Nat} {l : List AV} {p : Pl} {o : Nat} {vs : List AV} {xs : List Value} (hH : HR E.ng φ H w) (hb : Tr.get b H.t = some (.cells pl l)) (hp : φ b = some p)
    (hv : VRL φ vs xs) (ho : ∀ x ∈ xs, Value.oneCell' x = true) (hle : o + vs.length ≤ l.length) :
    ∃ w', (storeCells ⟨p.blk, p.off + o, none⟩ xs).run P w = .ok () w' ∧ HR E.ng φ (H.set b (some (.cells pl (l.take o ++ vs ++ l.drop (o + vs.length))))) w' ∧
      Keep φ H w φ (H.set b (some (.cells pl (l.take o ++ vs ++ l.drop (o + vs.length))))) w' := by
  obtain ⟨q, ob, hq, hob, hB⟩ := hH.blk _ _ hb
  rw [hp] at hq; cases hq
  cases hB with | cells hl hc hg hf hpl =>
  next c e fz =>
  have hxl := hv.length
  have hroom : p.n ≤ p.n + p.ext * p.sz := Nat.le_add_right _ _
  have hrun := run_storeSeg (P := P) (g := p.blk) (e := e) (fz := fz) (o := p.off + o) xs 0 c w hob (by omega) (fun j h1 h2 => by
    have := hf (j - p.off) (by omega)
    rw [show p.off + (j - p.off) = j by omega] at this; exact this) ho
  refine ⟨_, hrun, hH.put hb hp (.cells ?_ ?_ ?_ hf hpl) rfl, Keep.put hH hb hp rfl rfl rfl rfl⟩
  · simp; omega
  · rw [setSeg_size]; exact hc
  · intro i v hi
    rw [setSeg_get _ _ _ _ (by omega)]
    rw [List.append_assoc, List.getElem?_append] at hi
    simp only [List.length_take] at hi
    by_cases h1 : i < o
    · rw [if_pos (by omega), List.getElem?_take, if_pos h1] at hi
      rw [if_neg (by omega)]
      exact hg i v hi
    · rw [if_neg (by omega), List.getElem?_append] at hi
      rw [show i - min o l.length = i - o by omega] at hi
      by_cases h2 : i - o < vs.length
      · rw [if_pos h2] at hi
        rw [if_pos (by omega)]
        obtain ⟨x, hx, hr⟩ := hv.get hi
        exact ⟨x, by rw [show p.off + i - (p.off + o + 0) = i - o by omega]; exact hx, hr⟩
      · rw [if_neg h2, List.getElem?_drop] at hi
        rw [if_neg (by omega)]
        rw [show o + vs.length + (i - o - vs.length) = i by omega] at hi
        exact hg i v hi
theorem st_ok (hE : EnvOk P E) {o : Oper} {t : TypeId} {n : Nat} {A X : Operand} {x y : Opd} (ho : o.op = .store t A X) (hn : E.size t = some n) (hx : opd E.ng A = some x) (hy : opd E.ng X = some y) : StOk P E.ng o (stW x y n) := by
  intro φ nt T a b ofs vs hT hG h
  obtain ⟨u, hu, h⟩ := ob_some.1 h
  obtain ⟨u', hu', h⟩ := ob_some.1 h
  have hA := getO_ok hT hG hx hu
  have hX := getO_ok hT hG hy hu'
  generalize hAe : a.eval A = A' at hA
  generalize hXe : a.eval X = X' at hX
  split at h
  · split at h
    · next h1 h2 =>
      cases h
      cases hA with | ptr off hp =>
      have hc := hX.cells
      rw [len_eq] at h1
      have h1 := Nat.eq_of_beq_eq_true h1
      have h3 : X'.cells.size = n := by rw [← h1, hc.length]; simp
      refine ⟨_, X'.cells.toList, hp, hc, allOne_cells hc h2, fun w => ?_⟩
      simp [execOp, ho, hAe, hXe, Instr.storeAt, Instr.sureAddr, storeVar, size_ok hE hn, h3]
    · cases h
  · cases h
theorem overB_some {B : Option Blk} {o : Nat} {vs : List AV} {C : Blk} (h : overB B o vs = some C) : ∃ pl l, B = some (.cells pl l) ∧ o + vs.length ≤ l.length ∧ C = .cells pl (l.take o ++ vs ++ l.drop (o + vs.length)) := by
  unfold overB at h
  split at h
  · next pl l =>
    rw [putK_eq] at h
    split at h
    · next hle => cases h; exact ⟨pl, l, rfl, hle, rfl⟩
    · cases h
  · cases h
/-! ### new blocks -/
theorem new_alc (hE : EnvOk P E) {o : Oper} {t : TypeId} {z : AV} (ho : o.op = .alloc t) (hz : E.zero t = some z) : AlcOf P E.ng o t (newL z.cells) newV := by
  intro φ nt T a w l hT hG h
  cases h
  obtain ⟨zi, zv, hzi, hzv, hzr⟩ := zero_ok hE hz
  refine ⟨zv.cells, fun r => .pointer (some ⟨r, 0, none⟩), ?_, (hzr φ).cells, fun φ' b p u hu hp ho => ?_⟩
  · simp [execOp, ho, Instr.alloc, run_zeroValue hzi hzv, newVar, newRow]
  · cases hu; have := VR.ptr (φ := φ') 0 hp; rw [ho] at this; exact this
theorem box_alc {o : Oper} {t : TypeId} {X : Operand} {x : Opd} (ho : o.op = .box t X) (hx : opd E.ng X = some x) : AlcOf P E.ng o t (boxL x) newV := by
  intro φ nt T a w l hT hG h
  obtain ⟨u, hu, h⟩ := ob_some.1 h
  cases h
  have hX := getO_ok hT hG hx hu
  refine ⟨(a.eval X).cells, fun r => .pointer (some ⟨r, 0, none⟩), ?_, hX.cells, fun φ' b p u hu hp ho => ?_⟩
  · simp [execOp, ho, Instr.box, newVar, newRow]
  · cases hu; have := VR.ptr (φ := φ') 0 hp; rw [ho] at this; exact this
theorem elems_ok {t e : TypeId} {i : TypeInfo} (hE : EnvOk P E) (he : elemIdS E t = some e) (hi : elemOfS E t = some i) : P.underlying t = some (.slice e) ∧ P.info? e = some i ∧ E.ti e = some i := by
  unfold elemIdS at he
  unfold elemOfS at hi
  split at he
  · next e' hu =>
    cases he
    rw [hu] at hi
    exact ⟨und_ok hE hu, hE.ti _ _ hi, hi⟩
  · cases he
/-- n copies of a row of cells, as the model lays them -/
theorem range_rows (z : Array Value) (n : Nat) : ((Array.range (n * z.size)).map (fun j => z[j % z.size]!)).toList = (List.replicate n z.toList).flatten := by
  rw [Array.toList_map, Array.toList_range]
  rcases Nat.eq_zero_or_pos z.size with h | h
  · have : z = #[] := Array.size_eq_zero_iff.1 h
    subst this
    simp
  · induction n with
    | zero => simp
    | succ n ih =>
      rw [Nat.succ_mul, List.range_add, List.map_append, ih, List.replicate_succ', List.flatten_append]
      congr 1
      simp only [List.map_map, List.flatten_cons, List.flatten_nil, List.append_nil]
      apply List.ext_getElem?
      intro j
      rw [List.getElem?_map]
      by_cases hj : j < z.size
      · rw [List.getElem?_range hj]
        simp [Nat.mul_add_mod_self_right, Nat.mod_eq_of_lt hj, hj, getElem!_pos]
      · rw [List.getElem?_eq_none (by simp; omega), List.getElem?_eq_none (by simp; omega)]; rfl
theorem bslice_alc (hE : EnvOk P E) {o : Oper} {t e : TypeId} {i : TypeInfo} {n : Nat} {z : AV} {ps : Array (Nat × Operand)} {l : List (Nat × Nat × Opd)} (ho : o.op = .buildSlice t n ps)
    (he : elemIdS E t = some e) (hi : elemOfS E t = some i) (hz : E.zero e = some z) (h1 : Nat.ble (Nat.mul n i.size) 65536 = true) (h2 : Nat.beq (len z.cells) i.size = true)
    (hl : partsOf E.ng (fun j => some (Nat.mul j i.size, i.size)) ps.toList = some l) : AlcOf P E.ng o e (bsliceL n z.cells l) (bsliceV n) := by
  intro φ nt T a w lc hT hG h
  unfold bsliceL at h
  rw [replK_eq, fillK_eq] at h
  split at h
  · next lc' hlc =>
    cases h
    obtain ⟨hu, hinfo, hti⟩ := elems_ok hE he hi
    obtain ⟨zi, zv, hzi, hzv, hzr⟩ := zero_ok hE hz
    rw [hinfo] at hzi; cases hzi
    have hzc := (hzr φ).cells
    have hsz : zv.cells.size = i.size := by
      rw [len_eq] at h2
      have := Nat.eq_of_beq_eq_true h2
      rw [← this, hzc.length]; simp
    have hrow : VRL φ (List.replicate n z.cells).flatten ((Array.range (n * zv.cells.size)).map (fun j => zv.cells[j % zv.cells.size]!)).toList := by
      rw [range_rows]; exact hzc.replicate n
    obtain ⟨cs, hcs, hr⟩ := fill_ok (place := fun j => some (j * i.size, i.size)) (place' := fun j => some (Nat.mul j i.size, i.size)) hT hG (fun _ _ hx => hx) ps.toList l _ lc _ hl hlc hrow
    have hbig : ¬ (n * i.size > 2 ^ 24) := by have := le_of_ble h1; simp only [Nat.mul_eq] at this; omega
    refine ⟨cs, fun r => .slice (some ⟨r, 0, none⟩) n n, ?_, hr, fun φ' b p u hu hp ho => ?_⟩
    · have hb : (Instr.buildSlice t n (ps.map fun (i, x) => (i, a.eval x))).run P w = .ok (.slice (some ⟨w.heap.size, 0, none⟩) n n) { w with heap := w.heap.push (.cells cs e) } := by
        have hszE : (sizeOf e).run P w = .ok i.size w := by simp [sizeOf, run_typeInfo hinfo]
        simp only [Instr.buildSlice, Sem.run_bind, run_underlying hu, Result.andThen_ok, hszE, if_neg hbig]
        have hcs' : Instr.fill (fun i_1 => some (i_1 * i.size, i.size)) (Array.map (fun x => (if n * i.size = 0 then #[] else zv.cells)[x % (if n * i.size = 0 then #[] else zv.cells).size]!) (Array.range (n * i.size)))
            (List.map (fun (x : Nat × Operand) => match x with | (i, x) => (i, a.eval x)) ps.toList) = some cs := by
          rw [← hcs]
          congr 1
          rw [hsz]
          by_cases h0 : n * i.size = 0
          · rw [h0]; simp
          · rw [if_neg h0, hsz]
        by_cases h0 : n * i.size = 0
        · have e0 : Array.range (n * i.size) = #[] := by rw [h0]; simp
          simp only [if_pos h0, e0, Array.map_empty] at hcs' ⊢
          simp [hcs', newRow]
        · simp only [if_neg h0] at hcs' ⊢
          simp [run_zeroValue hinfo hzv, hcs', newRow]
      simp [execOp, ho, hb]
    · cases hu; have := VR.sliceC (φ := φ') 0 n n hp; rw [ho] at this; exact this
  · cases h
theorem mkslice_alc (hE : EnvOk P E) {o : Oper} {t e : TypeId} {i : TypeInfo} {z : AV} {L C : Operand} {l c : Opd} (ho : o.op = .makeSlice t L C)
    (he : elemIdS E t = some e) (hi : elemOfS E t = some i) (hz : E.zero e = some z) (h1 : Nat.beq (len z.cells) i.size = true) (hl : opd E.ng L = some l) (hc : opd E.ng C = some c) :
    AlcOf P E.ng o e (mksliceL i.bytes z.cells l c) (mksliceV l c) := by
  intro φ nt T a w lc hT hG h
  obtain ⟨ln, hln, h⟩ := ob_some.1 h
  obtain ⟨cp, hcp, h⟩ := ob_some.1 h
  obtain ⟨hu, hinfo, hti⟩ := elems_ok hE he hi
  obtain ⟨zi, zv, hzi, hzv, hzr⟩ := zero_ok hE hz
  rw [hinfo] at hzi; cases hzi
  obtain ⟨k1, hk1⟩ := natO_ok hT hG hl hln
  obtain ⟨k2, hk2⟩ := natO_ok hT hG hc hcp
  split at h
  · next g1 g2 g3 =>
    have g1 := le_of_ble g1
    have g2 := le_of_ble g2
    have g3 := le_of_ble g3
    rw [replK_eq] at h
    cases h
    have hzc := (hzr φ).cells
    have hsz : zv.cells.size = i.size := by
      rw [len_eq] at h1
      have := Nat.eq_of_beq_eq_true h1
      rw [← this, hzc.length]; simp
    refine ⟨madeCells zv.cells (cp * i.size), fun r => .slice (some ⟨r, 0, none⟩) ln cp, ?_, ?_, fun φ' b p u hu hp ho => ?_⟩
    · have hprod : i.bytes * cp ≤ 281474976710656 := by
        have : i.bytes * cp ≤ 4096 * 65536 := Nat.mul_le_mul g3 g2
        omega
      have hb := run_make (P := P) w t e i zv hu hinfo hzv k1 k2 (ln : Int) (cp : Int) (by omega) (by omega) (by rw [← Int.natCast_mul]; omega) (by omega)
      simp only [Int.toNat_natCast] at hb
      simp [execOp, ho, hk1, hk2, hb]
    · unfold madeCells; rw [← hsz, range_rows]; exact hzc.replicate cp
    · obtain ⟨ln', hln', hu⟩ := ob_some.1 hu
      obtain ⟨cp', hcp', hu⟩ := ob_some.1 hu
      rw [hln] at hln'; cases hln'
      rw [hcp] at hcp'; cases hcp'
      cases hu; have := VR.sliceC (φ := φ') 0 ln cp hp; rw [ho] at this; exact this
  · cases h
end
end Go.Ev
/- The evaluator's operations that act: maps, a range over a string, bytes of a string. -/
namespace Go.Ev
section
variable {P : Program} {E : Env}
theorem rb_ok {o : Option AV} {f : AV → Ret} {v : AV} {H : Hp} (h : rb o f = .ok v H) : ∃ u, o = some u ∧ f u = .ok v H := by
  cases o with
  | none => cases h
  | some u => exact ⟨u, rfl, h⟩
theorem exec_vw {o : Oper} {ρ : Operand → Value} {s : Sem Value} {x : Value} {w w' : World} (h : execOp ρ o = (do pure (.value (← s)))) (hs : s.run P w = .ok x w') :
    (execOp ρ o).run P w = .ok (.value x) w' := by rw [h]; simp [hs]
theorem exec_uw {o : Oper} {ρ : Operand → Value} {s : Sem Unit} {w w' : World} (h : execOp ρ o = (do s; pure .skip)) (hs : s.run P w = .ok () w') :
    (execOp ρ o).run P w = .ok .skip w' := by rw [h]; simp [hs]
theorem undef_VR (φ : Phi) : VR φ (.tup []) undef := .tup .nil
theorem yields_skip : Yields .skip undef := .inr ⟨rfl, rfl⟩
theorem yields_value (x : Value) : Yields (.value x) x := .inl rfl
/-! ### maps -/
theorem mkmap_act (hE : EnvOk P E) {o : Oper} {t kt et : TypeId} {r : Option Operand} (ho : o.op = .makeMap t r) (ht : E.und t = some (.map kt et)) (hr : r = none ∨ ∃ k n, r = some (.const (.int k n))) : ActOk P E o mkmapR := by
  intro φ nt T H a w v H' hT hH hG h
  unfold mkmapR at h
  rw [Hp.newK_eq] at h
  cases h
  have hB : BR (φ.upd H.nx ⟨w.heap.size, 0, 0, 0, 0⟩) ⟨w.heap.size, 0, 0, 0, 0⟩ (.map [] 0) (.map #[] 0) := .map .nil
  obtain ⟨h1, h2⟩ := hH.new_block (w' := { w with heap := w.heap.push (.map #[] 0) }) (p := ⟨w.heap.size, 0, 0, 0, 0⟩) rfl hB rfl rfl rfl rfl
  refine ⟨_, { w with heap := w.heap.push (.map #[] 0) }, _, .map (some w.heap.size), ?_, yields_value _, .map (Phi.upd_self _ _ _), h1, h2⟩
  rcases hr with rfl | ⟨k, n, rfl⟩
  · simp [execOp, ho, Instr.makeMap]
  · have e : a.eval (.const (.int k n)) = .int k n := rfl
    simp [execOp, ho, Instr.makeMap, run_underlying (und_ok hE ht), asInt, asIntOf, e]
theorem run_setObj_map {w : World} {r : Nat} {m : Array MapEntry} {cl : Nat} (o : Obj) (h : w.heap[r]? = some (.map m cl)) : (setObj r o).run P w = .ok () { w with heap := w.heap.setIfInBounds r o } := by
  simp [setObj, Sem.run, h]
theorem setE_eq : ∀ (es : List (AV × AV × Nat)) (i : Nat) (k v : AV), setE es i k v = es.modify i fun e => (k, v, e.2.2)
  | [], _, _, _ => by simp [setE, lrec]
  | e :: tl, 0, _, _ => by simp; rfl
  | e :: tl, i + 1, k, v => by rw [List.modify_succ_cons, ← setE_eq tl]; rfl
theorem delE_eq : ∀ (es : List (AV × AV × Nat)) (i : Nat), delE es i = es.eraseIdx i
  | [], _ => by simp [delE, lrec]
  | e :: tl, 0 => by simp; rfl
  | e :: tl, i + 1 => by rw [List.eraseIdx_cons_succ, ← delE_eq tl]; rfl
theorem pushE_eq : ∀ (es : List (AV × AV × Nat)) (x : AV × AV × Nat), pushE es x = es ++ [x]
  | [], _ => rfl
  | e :: tl, x => by rw [List.cons_append, ← pushE_eq tl]; rfl
theorem ER.modify {φ : Phi} {es : List (AV × AV × Nat)} {m : List MapEntry} (h : ER φ es m) {k v : AV} {K V : Value} (hk : VR φ k K) (hv : VR φ v V) (f : MapEntry → MapEntry) (hf : ∀ e, (f e).key = K ∧ (f e).val = V ∧ (f e).born = e.born) :
    ∀ i, ER φ (es.modify i fun e => (k, v, e.2.2)) (m.modify i f) := by
  induction h with
  | nil => intro i; simp; exact .nil
  | cons hk' hv' h' ih =>
    intro i
    cases i with
    | zero =>
      simp only [List.modify_zero_cons]
      next k' v' e l m' =>
      obtain ⟨h1, h2, h3⟩ := hf e
      have := ER.cons (φ := φ) (e := f e) (by rw [h1]; exact hk) (by rw [h2]; exact hv) h'
      rw [h3] at this; exact this
    | succ i => simp only [List.modify_succ_cons]; exact .cons hk' hv' (ih i)
theorem ER.erase {φ : Phi} {es : List (AV × AV × Nat)} {m : List MapEntry} (h : ER φ es m) : ∀ i, ER φ (es.eraseIdx i) (m.eraseIdx i) := by
  induction h with
  | nil => intro i; simp; exact .nil
  | cons hk' hv' h' ih =>
    intro i
    cases i with
    | zero => simpa using h'
    | succ i => simp only [List.eraseIdx_cons_succ]; exact .cons hk' hv' (ih i)
theorem ER.push {φ : Phi} {es : List (AV × AV × Nat)} {m : List MapEntry} (h : ER φ es m) {k v : AV} {e : MapEntry} (hk : VR φ k e.key) (hv : VR φ v e.val) : ER φ (es ++ [(k, v, e.born)]) (m ++ [e]) := by
  induction h with
  | nil => exact .cons hk hv .nil
  | cons hk' hv' _ ih => exact .cons hk' hv' ih
theorem ER.get {φ : Phi} {es : List (AV × AV × Nat)} {m : List MapEntry} (h : ER φ es m) : ∀ (i : Nat) (x : AV × AV × Nat), es[i]? = some x → ∃ e, m[i]? = some e ∧ VR φ x.1 e.key := by
  induction h with
  | nil => intro i x hx; simp at hx
  | cons hk' hv' _ ih =>
    intro i x hx
    cases i with
    | zero => simp at hx; subst hx; exact ⟨_, by simp, hk'⟩
    | succ i => simp at hx; obtain ⟨e, he, hr⟩ := ih i x hx; exact ⟨e, by simpa using he, hr⟩
theorem sameBits_ok {φ : Phi} {kd : TypeDesc} {k k' : AV} {K K' : Value} (hk : isKey kd k = true) (hK : VR φ k K) (hK' : VR φ k' K') (he : keyEq k k' = true) : Instr.sameBits 10000 K' K = true := by
  unfold isKey at hk
  split at hk
  · cases hK
    cases hK' <;> simp only [keyEq, Bool.false_eq_true] at he
    split at he
    · next hh =>
      have e := kinds_eq hh
      subst e
      have := (ieq_iff _ _).1 he
      subst this
      simp [Instr.sameBits]
    · cases he
  · cases hK with | str hs =>
    cases hK' <;> simp only [keyEq, Bool.false_eq_true] at he
    next ht =>
    have := (strIs_inj hs ht).1 he
    subst this
    simp only [Instr.sameBits]
    rw [beq_toListBytes]; simp
  · cases hK
    cases hK' <;> simp only [keyEq, Bool.false_eq_true] at he
    · rename_i b c; cases b <;> cases c <;> simp_all [Instr.sameBits, bnot]
    all_goals (rename_i b; cases b <;> simp [keyEq] at he)
  · cases hk
theorem mapset_act (hE : EnvOk P E) {o : Oper} {t kt et : TypeId} {kd : TypeDesc} {M K V : Operand} {m k v : Opd} (ho : o.op = .mapUpdate t M K V ∨ o.op = .insert t M K V)
    (hm : opd E.ng M = some m) (hk : opd E.ng K = some k) (hv : opd E.ng V = some v) (ht : E.und t = some (.map kt et)) (hkd : E.und kt = some kd) : ActOk P E o (mapsetR kd m k v) := by
  intro φ nt T H a w r H' hT hH hG h
  obtain ⟨x, hx, h1⟩ := rb_ok h; clear h
  obtain ⟨y, hy, h2⟩ := rb_ok h1; clear h1
  obtain ⟨z, hz, h⟩ := rb_ok h2; clear h2
  have hM := getO_ok hT hH.gr hm hx
  have hK := getO_ok hT hH.gr hk hy
  have hV := getO_ok hT hH.gr hv hz
  have hex : execOp a.eval o = (do Instr.mapUpdate t (a.eval M) (a.eval K) (a.eval V); pure .skip) := by rcases ho with ho | ho <;> simp [execOp, ho]
  split at h
  case h_2 => cases h
  next b hkey =>
  cases hM' : (a.eval M) with
  | map ra =>
    rw [hM'] at hM
    cases hM with | map hp =>
    next p =>
    split at h
    case h_2 => cases h
    next es cl hb =>
    obtain ⟨ms, hms, her⟩ := map_ok hH hp hb
    have base : ∀ ob, (Instr.mapUpdate t (.map (some p.blk)) (a.eval K) (a.eval V)).run P w = .ok () { w with heap := w.heap.setIfInBounds p.blk ob } →
        (execOp a.eval o).run P w = .ok .skip { w with heap := w.heap.setIfInBounds p.blk ob } := fun ob hh => exec_uw hex (by rw [hM']; exact hh)
    split at h
    · next i u hf =>
      rw [Hp.setK_eq, setE_eq] at h
      cases h
      rcases findE_ok hkey hK es ms.toList 0 _ her hf with ⟨h1, _⟩ | ⟨j, v', V', e', h1, hfn, hv', hj, he, _, hke⟩
      · cases h1
      · cases h1
        simp only [Nat.sub_zero] at he
        obtain ⟨e0, he0, hk0⟩ := her.get _ _ he
        have hsb := sameBits_ok hkey hK hk0 hke
        have he0' : ms[i]? = some e0 := by rw [← Array.getElem?_toList]; exact he0
        refine ⟨φ, _, _, _, base (.map (ms.modify i fun e => { e with key := a.eval K, val := a.eval V }) cl) ?_, yields_skip, undef_VR _, hH.put hb hp (.map ?_) rfl, Keep.put hH hb hp rfl rfl rfl rfl⟩
        · simp [Instr.mapUpdate, run_underlying (und_ok hE ht), run_getObj_map hms, checkKey_ok hE hkd hkey hK, findKey_ok hE hkd hfn, he0', Instr.keyThatStays, hsb, run_setObj_map _ hms]
        · rw [Array.toList_modify]
          exact her.modify hK hV (fun e => { e with key := a.eval K, val := a.eval V }) (fun e => ⟨rfl, rfl, rfl⟩) i
    · next hf =>
      rw [Hp.setK_eq, pushE_eq] at h
      cases h
      rcases findE_ok hkey hK es ms.toList 0 _ her hf with ⟨_, hfn⟩ | ⟨j, v', V', e', h1, _⟩
      · refine ⟨φ, _, _, _, base (.map (ms.push { key := a.eval K, val := a.eval V, born := cl }) (cl + 1)) ?_, yields_skip, undef_VR _, hH.put hb hp (.map ?_) rfl, Keep.put hH hb hp rfl rfl rfl rfl⟩
        · simp [Instr.mapUpdate, run_underlying (und_ok hE ht), run_getObj_map hms, checkKey_ok hE hkd hkey hK, findKey_ok hE hkd hfn, run_setObj_map _ hms]
        · rw [Array.toList_push]
          exact her.push (e := { key := a.eval K, val := a.eval V, born := cl }) hK hV
      · cases h1
    · cases h
  | _ => rw [hM'] at hM; cases hM
theorem mapsetS_act (hE : EnvOk P E) {o : Oper} {t kt et : TypeId} {fs : Array Field} {M K V : Operand} {m k v : Opd} (ho : o.op = .mapUpdate t M K V ∨ o.op = .insert t M K V)
    (hm : opd E.ng M = some m) (hk : opd E.ng K = some k) (hv : opd E.ng V = some v) (ht : E.und t = some (.map kt et)) (hkd : E.und kt = some (.struct fs)) : ActOk P E o (mapsetSR E kt fs.toList m k v) := by
  intro φ nt T H a w r H' hT hH hG h
  obtain ⟨x, hx, h1⟩ := rb_ok h; clear h
  obtain ⟨y, hy, h2⟩ := rb_ok h1; clear h1
  obtain ⟨z, hz, h⟩ := rb_ok h2; clear h2
  have hM := getO_ok hT hH.gr hm hx
  have hK := getO_ok hT hH.gr hk hy
  have hV := getO_ok hT hH.gr hv hz
  have hex : execOp a.eval o = (do Instr.mapUpdate t (a.eval M) (a.eval K) (a.eval V); pure .skip) := by rcases ho with ho | ho <;> simp [execOp, ho]
  split at h
  case h_2 => cases h
  next l b =>
  split at h
  case h_2 => cases h
  next es cl hkey hb =>
  split at h
  case h_2 => cases h
  next hf =>
  rw [Hp.setK_eq, pushE_eq] at h
  cases h
  cases hM' : (a.eval M) with
  | map ra =>
    rw [hM'] at hM
    cases hM with | map hp =>
    next p =>
    cases hK' : (a.eval K) with
    | agg cs =>
      rw [hK'] at hK
      cases hK with | agg hl =>
      obtain ⟨ms, hms, her⟩ := map_ok hH hp hb
      have base : ∀ ob, (Instr.mapUpdate t (.map (some p.blk)) (.agg cs) (a.eval V)).run P w = .ok () { w with heap := w.heap.setIfInBounds p.blk ob } →
          (execOp a.eval o).run P w = .ok .skip { w with heap := w.heap.setIfInBounds p.blk ob } := fun ob hh => exec_uw hex (by rw [hM', hK']; exact hh)
      rcases findS_ok hE hH hG (.agg hl) es ms.toList 0 _ her hf with ⟨_, hfn⟩ | ⟨j, v', V', h1, _⟩
      · refine ⟨φ, _, _, _, base (.map (ms.push { key := .agg cs, val := a.eval V, born := cl }) (cl + 1)) ?_, yields_skip, undef_VR _, hH.put hb hp (.map ?_) rfl, Keep.put hH hb hp rfl rfl rfl rfl⟩
        · simp [Instr.mapUpdate, run_underlying (und_ok hE ht), run_getObj_map hms, checkKeyS_ok hE hkd hkey hl, findKeyS_ok hE hkd hfn, run_setObj_map _ hms]
        · rw [Array.toList_push]
          exact her.push (e := { key := .agg cs, val := a.eval V, born := cl }) (.agg hl) hV
      · cases h1
    | _ => rw [hK'] at hK; cases hK
  | _ => rw [hM'] at hM; cases hM
theorem delete_act (hE : EnvOk P E) {o : Oper} {c : Call} {t kt et : TypeId} {r : List TypeId} {kd : TypeDesc} {m k : Opd} (ho : o.op = .call c) (hc : c.callee = .builtin .delete) (hx : opds E.ng c.args = some [m, k])
    (ht : c.argTypes.toList = t :: r) (hd : E.und t = some (.map kt et)) (hkd : E.und kt = some kd) : ActOk P E o (deleteR kd m k) := by
  intro φ nt T H a w v H' hT hH hG h
  obtain ⟨x, hx', h1⟩ := rb_ok h; clear h
  obtain ⟨y, hy, h⟩ := rb_ok h1; clear h1
  obtain ⟨M, K, hA, hm, hk⟩ := opds_two hx
  have hM := getO_ok hT hH.gr hm hx'
  have hK := getO_ok hT hH.gr hk hy
  obtain ⟨ks, hks⟩ := exec_builtin (P := P) ho hc
  generalize hMe : a.eval M = M' at hM
  generalize hKe : a.eval K = K' at hK
  have base : ∀ w', (Builtin.delete_ c.argTypes o.type #[M', K']).run P w = .ok (.tuple #[]) w' → (execOp a.eval o).run P w = .ok (.value (.tuple #[])) w' := by
    intro w' hh
    rw [hks]
    refine bind_value ?_
    rw [hA]; simpa [hMe, hKe] using hh
  split at h
  · next hkey =>
    cases h; cases hM
    exact ⟨φ, w, _, _, base w (by simp [Builtin.delete_, types_head ht, run_underlying (und_ok hE hd), checkKey_ok hE hkd hkey hK]), yields_value _, undef_VR _, hH, Keep.refl _ _ _⟩
  · next b hkey =>
    cases hM with | map hp =>
    next p =>
    split at h
    case h_2 => cases h
    next es cl hb =>
    obtain ⟨ms, hms, her⟩ := map_ok hH hp hb
    split at h
    · next i u hf =>
      rw [Hp.setK_eq, delE_eq] at h
      cases h
      rcases findE_ok hkey hK es ms.toList 0 _ her hf with ⟨h1, _⟩ | ⟨j, v', V', e', h1, hfn, hv', hj, he, _, hke⟩
      · cases h1
      · cases h1
        have herr : (ms.eraseIdxIfInBounds i).toList = ms.toList.eraseIdx i := by
          unfold Array.eraseIdxIfInBounds
          split
          · simp
          · rw [List.eraseIdx_of_length_le]; simpa using (by omega)
        refine ⟨φ, _, _, _, base { w with heap := w.heap.setIfInBounds p.blk (.map (ms.eraseIdxIfInBounds i) cl) } ?_, yields_value _, undef_VR _, hH.put hb hp (.map ?_) rfl, Keep.put hH hb hp rfl rfl rfl rfl⟩
        · simp [Builtin.delete_, types_head ht, run_underlying (und_ok hE hd), run_getObj_map hms, checkKey_ok hE hkd hkey hK, findKey_ok hE hkd hfn, run_setObj_map _ hms]
        · rw [herr]; exact her.erase i
    · next hf =>
      cases h
      rcases findE_ok hkey hK es ms.toList 0 _ her hf with ⟨_, hfn⟩ | ⟨j, v', V', e', h1, _⟩
      · refine ⟨φ, w, _, _, base w ?_, yields_value _, undef_VR _, hH, Keep.refl _ _ _⟩
        have hself : w.heap.setIfInBounds p.blk (.map ms cl) = w.heap := by
          apply Array.ext_getElem?
          intro j
          rw [Array.getElem?_setIfInBounds]
          by_cases e : p.blk = j
          · subst e; obtain ⟨h1, h2⟩ := Array.getElem?_eq_some_iff.1 hms; simp [h1, h2]
          · simp [e]
        simp [Builtin.delete_, types_head ht, run_underlying (und_ok hE hd), run_getObj_map hms, checkKey_ok hE hkd hkey hK, findKey_ok hE hkd hfn, run_setObj_map _ hms, hself]
      · cases h1
    · cases h
  · cases h
/-! ### a range over a string -/
theorem rangeS_act (hE : EnvOk P E) {o : Oper} {t : TypeId} {X : Operand} {x : Opd} (ho : o.op = .range t X) (hx : opd E.ng X = some x) (ht : E.und t = some .string) : ActOk P E o (rangeSR x) := by
  intro φ nt T H a w v H' hT hH hG h
  obtain ⟨u, hu, h1⟩ := rb_ok h
  clear h
  have h := h1
  clear h1
  have hX := getO_ok hT hH.gr hx hu
  generalize hXe : a.eval X = X' at hX
  split at h
  case h_2 => cases h
  next n c =>
  cases hX with | str hs =>
  next s =>
  rw [Hp.newK_eq] at h
  cases h
  obtain ⟨h1, h2⟩ := hH.new_block (w' := { w with heap := w.heap.push (.stringIter s 0) }) (p := ⟨w.heap.size, 0, 0, 0, 0⟩) rfl (.siter (pos := 0) rfl hs) rfl rfl rfl rfl
  refine ⟨_, _, _, .pointer (some ⟨w.heap.size, 0, none⟩), ?_, yields_value _, .ptr 0 (Phi.upd_self _ _ _), h1, h2⟩
  simp [execOp, ho, hXe, Instr.range, run_underlying (und_ok hE ht)]
theorem nextS_act {o : Oper} {X : Operand} {x : Opd} (ho : o.op = .next X true) (hx : opd E.ng X = some x) : ActOk P E o (nextSR x) := by
  intro φ nt T H a w v H' hT hH hG h
  obtain ⟨u, hu, h1⟩ := rb_ok h
  clear h
  have h := h1
  clear h1
  have hX := getO_ok hT hH.gr hx hu
  generalize hXe : a.eval X = X' at hX
  split at h
  case h_2 => cases h
  next b =>
  cases hX with | ptr _ hp =>
  next p =>
  split at h
  case h_2 => cases h
  next n c pos hb =>
  obtain ⟨q, ob, hq, hob, hB⟩ := hH.blk _ _ hb
  rw [hp] at hq; cases hq
  cases hB with | siter h0 hs =>
  next s =>
  have hsz : s.size = n := hs.1
  have hgo : (getObj p.blk).run P w = .ok (.stringIter s pos) w := by simp [getObj, Sem.run, hob]
  have hso : ∀ ob, (setObj p.blk ob).run P w = .ok () { w with heap := w.heap.setIfInBounds p.blk ob } := fun ob => by simp [setObj, Sem.run, hob]
  have hz : p.off + 0 = 0 := by omega
  split at h
  · next hlt =>
    have hlt := lt_of_blt hlt
    split at h
    case h_2 => cases h
    next hb128 =>
    have hb128 := lt_of_blt hb128
    have hlt' : pos < s.size := by omega
    have hbyte := strIs_get hs (getElem?_pos s pos hlt')
    rw [hbyte] at hb128 h
    rw [Hp.setK_eq] at h
    cases h
    refine ⟨φ, { w with heap := w.heap.setIfInBounds p.blk (.stringIter s (pos + 1)) }, _, _, ?_, yields_value _, .tup (.cons (.bool true) (.cons (.int _ _) (.cons (.int _ _) .nil))), hH.put hb hp (.siter h0 hs) rfl, Keep.put hH hb hp rfl rfl rfl rfl⟩
    have hd := decode_ascii s pos hlt' hb128
    simp only [execOp, ho, hXe]
    rw [hz]
    simp [Instr.next, hgo, hso, hlt', hd, goInt]
  · next hlt =>
    cases h
    have hge : ¬ pos < s.size := by
      intro hh; rw [show Nat.blt pos n = true by rw [Nat.blt_eq]; omega] at hlt; cases hlt
    refine ⟨φ, w, _, _, ?_, yields_value _, .tup (.cons (.bool false) .nil), hH, Keep.refl _ _ _⟩
    simp only [execOp, ho, hXe]
    rw [hz]
    simp [Instr.next, hgo, hge]
end
end Go.Ev
/- The evaluator's operations that act: append, copy, slices of open slices, the bytes of a string. -/
namespace Go.Ev
section
variable {P : Program} {E : Env}
theorem byteAVs_L : ∀ n c, byteAVs n c = byteAVsL n c
  | 0, _ => rfl
  | n + 1, c => by rw [byteAVsL, ← byteAVs_L n]; rfl
theorem bytesV_VRL (φ : Phi) : ∀ l : List UInt8, VRL φ (bytesV l) (l.map fun b => Value.int .u8 b.toNat)
  | [] => .nil
  | _ :: tl => .cons (.int _ _) (bytesV_VRL φ tl)
theorem bytes_VRL (φ : Phi) {n c m : Nat} {s : ByteArray} (hs : StrIs n c s) (hm : m ≤ n) : VRL φ (byteAVs m c) ((s.extract 0 m).data.map fun b => Value.int .u8 b.toNat).toList := by
  obtain ⟨rfl, rfl⟩ := hs
  rw [byteAVs_L, codeOf_eq, byteAVs_eq _ _ (by rw [bytes_length]; exact hm), Array.toList_map, ByteArray.data_extract, Array.toList_extract]
  rw [show s.data.toList.extract 0 m = s.data.toList.take m by simp [List.extract]]
  exact bytesV_VRL φ _
theorem osl_zero {φ : Phi} {l : Nat} (h : (Tm.c (Int.ofNat 0)).den φ.opq = (l : Int)) : l = 0 := by
  simp [Tm.den] at h; omega
theorem lenOfA_osl {D : List Cd} {e : Tm} {m : Nat} (h : lenOfA (.osl D e) = some m) : m = 0 ∧ e = .c (.ofNat 0) := by
  unfold lenOfA at h
  split at h
  all_goals first | cases h; done | (next h' => cases h'; done) | skip
  next h' => cases h'; cases h; exact ⟨rfl, rfl⟩
theorem lenOfA_ok {φ : Phi} {u : AV} {U : Value} {m : Nat} (hU : VR φ u U) (h : lenOfA u = some m) (w : World) : (Builtin.lenOf U).run P w = .ok m w := by
  have ho : ∀ {D e p l c}, u = AV.osl D e → U = .slice p l c → e.den φ.opq = (l : Int) → (Builtin.lenOf U).run P w = .ok m w := by
    intro D e p l c hu' hU' he
    subst hu' hU'
    obtain ⟨rfl, rfl⟩ := lenOfA_osl h
    rw [osl_zero he]; simp [Builtin.lenOf]
  cases hU
  case osl he _ _ => exact ho rfl rfl he
  all_goals simp [lenOfA] at h
  · next hs => subst h; simp [Builtin.lenOf, hs.1]
  · subst h; simp [Builtin.lenOf]
  · subst h; simp [Builtin.lenOf]
  · subst h; simp [Builtin.lenOf]
theorem firstCells_zeroS (size : Nat) (p : Option Addr) (l c : Nat) (w : World) : (Builtin.firstCells size 0 (.slice p l c)).run P w = .ok #[] w := by
  cases p <;> simp [Builtin.firstCells, loadCells, loadCellsFrom]
theorem firstV_ok {φ : Phi} {H : Hp} {w : World} (hH : HR E.ng φ H w) (hG : GL E φ H w) {size n m : Nat} {u : AV} {U : Value} {cs : List AV} (hU : VR φ u U) (hm : lenOfA u = some m) (hn : n ≤ m)
    (h : firstV E.gl size n u H = some cs) : ∃ xs : Array Value, VRL φ cs xs.toList ∧ xs.size = n * size ∧ ∀ w', w'.heap = w.heap → (Builtin.firstCells size n U).run P w' = .ok xs w' := by
  unfold firstV at h
  split at h
  · next b o l c op =>
    have key : ∀ (p : Pl) (L C : Nat), φ b = some p → U = .slice (some ⟨p.blk, p.off + o, none⟩) L C → ∃ xs : Array Value, VRL φ cs xs.toList ∧ xs.size = n * size ∧ ∀ w', w'.heap = w.heap → (Builtin.firstCells size n U).run P w' = .ok xs w' := by
      intro p L C hp hUe
      subst hUe
      obtain ⟨xs, hl, hr, hcs⟩ := loadN_ok hH hG hp h
      simp only [Nat.mul_eq] at hl
      refine ⟨xs.toArray, hr, by simpa using hl, fun w' hw' => ?_⟩
      have hcs' : ∀ j v, xs[j]? = some v → w'.cell? (Addr.add ⟨p.blk, p.off + o, none⟩ j) = some v := fun j v hv => by
        rw [World.cell?_of_block (w := w) (w' := w') (by rw [hw'])]; exact hcs j v hv
      have := run_loadCells_list (P := P) w' _ xs hcs'
      rw [hl] at this
      simpa [Builtin.firstCells] using this
    cases hU with
    | sliceC _ _ _ hp => exact key _ _ _ hp rfl
    | sliceO _ _ _ s hp hs hn' => exact key _ _ _ hp rfl
  · cases h; cases hU
    simp [lenOfA] at hm; subst hm
    have : n = 0 := by omega
    subst this
    exact ⟨#[], .nil, by simp, fun w' _ => by simp [Builtin.firstCells]⟩
  · obtain ⟨rfl, rfl⟩ := lenOfA_osl hm
    have : n = 0 := by omega
    subst this
    cases h
    cases hU with | osl _ he _ _ =>
    exact ⟨#[], .nil, by simp, fun w' _ => firstCells_zeroS _ _ _ _ w'⟩
  · next k c =>
    split at h
    case h_2 => cases h
    next h1 =>
    cases h
    have h1 := Nat.eq_of_beq_eq_true h1
    cases hU with | str hs =>
    next s =>
    simp [lenOfA] at hm; subst hm
    refine ⟨_, bytes_VRL φ hs hn, ?_, fun w' _ => rfl⟩
    rw [Array.size_map, h1, Nat.mul_one]
    show (s.extract 0 n).size = n
    rw [ByteArray.size_extract]
    have := hs.1
    omega
  · cases h
theorem storeR_ok {b : Pos} {o : Nat} {vs : List AV} {H : Hp} {K : Hp → Ret} {v : AV} {H' : Hp} (h : storeR b o vs H K = .ok v H') :
    allOne vs = true ∧ ∃ pl l, Tr.get b H.t = some (.cells pl l) ∧ o + vs.length ≤ l.length ∧ K (H.set b (some (.cells pl (l.take o ++ vs ++ l.drop (o + vs.length))))) = .ok v H' := by
  unfold storeR at h
  split at h
  case h_2 => cases h
  next h1 =>
  refine ⟨h1, ?_⟩
  split at h
  case h_2 => cases h
  next pl l hb =>
  rw [putK_eq] at h
  split at h
  · next hle => rw [Hp.setK_eq] at h; exact ⟨pl, l, hb, hle, h⟩
  · cases h
theorem firstCells_zero (size : Nat) {φ : Phi} {u : AV} {U : Value} {m : Nat} {w : World} (hU : VR φ u U) (hm : lenOfA u = some m) : (Builtin.firstCells size 0 U).run P w = .ok #[] w := by
  cases hU
  case osl => exact firstCells_zeroS _ _ _ _ w
  all_goals simp [lenOfA] at hm <;> simp [Builtin.firstCells, loadCells, loadCellsFrom]
theorem two_args {a : Act} {c : Call} {X Y : Operand} (hA : c.args = #[X, Y]) : c.args.map a.eval = #[a.eval X, a.eval Y] := by rw [hA]; simp
theorem copy_act (hE : EnvOk P E) {o : Oper} {c : Call} {t : TypeId} {r : List TypeId} {i : TypeInfo} {x y : Opd} (ho : o.op = .call c) (hc : c.callee = .builtin .copy) (hx : opds E.ng c.args = some [x, y])
    (ht : c.argTypes.toList = t :: r) (hi : elemOfS E t = some i) : ActOk P E o (copyR E.gl i.size x y) := by
  intro φ nt T H a w v H' hT hH hG h
  obtain ⟨u, hu, h1⟩ := rb_ok h; clear h
  obtain ⟨u', hu', h⟩ := rb_ok h1; clear h1
  obtain ⟨X, Y, hA, hX, hY⟩ := opds_two hx
  have hRX := getO_ok hT hH.gr hX hu
  have hRY := getO_ok hT hH.gr hY hu'
  obtain ⟨ks, hks⟩ := exec_builtin (P := P) ho hc
  have hut : ∃ e, P.underlying t = some (.slice e) ∧ P.info? e = some i := by
    unfold elemOfS at hi
    split at hi
    · next e he => exact ⟨e, und_ok hE he, hE.ti _ _ hi⟩
    · cases hi
  obtain ⟨e, hue, hie⟩ := hut
  generalize hXe : a.eval X = X' at hRX
  generalize hYe : a.eval Y = Y' at hRY
  have base : ∀ z w', (Builtin.copy_ c.argTypes o.type #[X', Y']).run P w = .ok z w' → (execOp a.eval o).run P w = .ok (.value z) w' := by
    intro z w' hh
    rw [hks]
    refine bind_value ?_
    rw [two_args hA, hXe, hYe]; exact hh
  have hsz : ∀ w, (sizeOf e).run P w = .ok i.size w := fun w => by simp [sizeOf, run_typeInfo hie]
  split at h
  · next m hm =>
    cases h; cases hRX
    have hl := lenOfA_ok (P := P) hRY hm w
    have hxs := firstCells_zero (P := P) i.size (w := w) hRY hm
    refine ⟨φ, w, _, _, base (.int .i64 0) w ?_, yields_value _, .int _ _, hH, Keep.refl _ _ _⟩
    simp [Builtin.copy_, types_head ht, run_underlying hue, hl, hsz, hxs, goInt]
  · next m b ofs n cp op hm =>
    split at h
    case h_2 => cases h
    next cs hcs =>
    obtain ⟨h1, pl, l, hb, hle, h⟩ := storeR_ok h
    cases h
    have hl := lenOfA_ok (P := P) hRY hm w
    obtain ⟨xs, hr, hxs, hrun⟩ := firstV_ok (P := P) hH hG hRY hm (Nat.min_le_left m n) hcs
    have key : ∀ (p : Pl) (C : Nat), φ b = some p → X' = .slice (some ⟨p.blk, p.off + ofs, none⟩) n C → ∃ φ' w' nx z, (execOp a.eval o).run P w = .ok nx w' ∧ Yields nx z ∧ VR φ' (.int .i64 (.ofNat (Nat.min m n))) z ∧
        HR E.ng φ' (H.set b (some (.cells pl (l.take ofs ++ cs ++ l.drop (ofs + cs.length))))) w' ∧ Keep φ H w φ' (H.set b (some (.cells pl (l.take ofs ++ cs ++ l.drop (ofs + cs.length))))) w' := by
      intro p C hp hXX
      subst hXX
      obtain ⟨w', hst, hH', hK⟩ := put_ok (P := P) hH hb hp hr (allOne_cells hr h1) hle
      refine ⟨φ, w', _, _, base (.int .i64 (Nat.min m n)) w' ?_, yields_value _, .int _ _, hH', hK⟩
      simp [Builtin.copy_, types_head ht, hst, goInt, hrun w rfl, hsz, hl, run_underlying hue]
    cases hRX with
    | sliceC _ _ _ hp => exact key _ _ hp rfl
    | sliceO _ _ _ s hp hs hn' => exact key _ _ hp rfl
  · cases h
/-! ### append -/
/-- the second argument's type is no integer type -/
def NoZeros (P : Program) (ts : Array TypeId) : Prop := ts[1]? = none ∨ ∃ u d, ts[1]? = some u ∧ P.underlying u = some d ∧ ∀ k, d ≠ .int k
theorem app_in {ts : Array TypeId} {t ty e : TypeId} {i : TypeInfo} {a : Addr} {sLen sCap n : Nat} {x : Value} {xs : Array Value} {w w' : World} (h0 : ts[0]? = some t) (hz : NoZeros P ts)
    (hu : P.underlying t = some (.slice e)) (hi : P.info? e = some i) (hn : (Builtin.lenOf x).run P w = .ok n w) (hle : sLen + n ≤ sCap) (hf : (Builtin.firstCells i.size n x).run P w = .ok xs w)
    (hst : (storeCells (a.add (sLen * i.size)) xs.toList).run P w = .ok () w') :
    (Builtin.append_ ts ty #[.slice (some a) sLen sCap, x]).run P w = .ok (.slice (some a) (sLen + n) sCap) w' := by
  have hsz : (sizeOf e).run P w = .ok i.size w := by simp [sizeOf, run_typeInfo hi]
  rcases hz with hz | ⟨u, d, hz, hd, hk⟩
  · simp [Builtin.append_, h0, hz, run_underlying hu, hsz, hn, hle, hf, hst]
  · simp [Builtin.append_, h0, hz, run_underlying hu, run_underlying hd, hsz, hn, hle, hf, hst]
theorem app_nil0 {ts : Array TypeId} {t ty e : TypeId} {i : TypeInfo} {x : Value} {xs : Array Value} {w : World} (h0 : ts[0]? = some t) (hz : NoZeros P ts)
    (hu : P.underlying t = some (.slice e)) (hi : P.info? e = some i) (hn : (Builtin.lenOf x).run P w = .ok 0 w) (hf : (Builtin.firstCells i.size 0 x).run P w = .ok xs w) :
    (Builtin.append_ ts ty #[.slice none 0 0, x]).run P w = .ok (.slice none 0 0) w := by
  have hsz : (sizeOf e).run P w = .ok i.size w := by simp [sizeOf, run_typeInfo hi]
  rcases hz with hz | ⟨u, d, hz, hd, hk⟩
  · simp [Builtin.append_, h0, hz, run_underlying hu, hsz, hn, hf]
  · simp [Builtin.append_, h0, hz, run_underlying hu, run_underlying hd, hsz, hn, hf]
theorem app_grow {ts : Array TypeId} {t ty e : TypeId} {i : TypeInfo} {z : Value} {b : Option Addr} {sLen sCap n : Nat} {x : Value} {xs old : Array Value} {w : World} (h0 : ts[0]? = some t) (hz : NoZeros P ts)
    (hu : P.underlying t = some (.slice e)) (hi : P.info? e = some i) (hiz : i.zero = some z) (hn : (Builtin.lenOf x).run P w = .ok n w) (hgt : sCap < sLen + n) (hb : 1 ≤ i.bytes)
    (h48 : Builtin.nextslicecap (sLen + n) sCap * i.bytes ≤ 281474976710656) (hf : (Builtin.firstCells i.size n x).run P w.drew = .ok xs w.drew)
    (ho : (Builtin.firstCells i.size sLen (.slice b sLen sCap)).run P w.drew = .ok old w.drew) :
    (Builtin.append_ ts ty #[.slice b sLen sCap, x]).run P w = .ok (.slice (some ⟨w.heap.size, 0, none⟩) (sLen + n) (grownCap w (sLen + n) sCap e))
        (w.drew.alloc (.cells (old ++ xs ++ Builtin.zeroCells z.cells (grownCap w (sLen + n) sCap e - (sLen + n))) e)) := by
  have hsz : (sizeOf e).run P w = .ok i.size w := by simp [sizeOf, run_typeInfo hi]
  have hn' : ¬ (sLen + n ≤ sCap) := by omega
  have hb' : ¬ (i.bytes = 0) := by omega
  have h48' : ¬ (281474976710656 < Builtin.nextslicecap (sLen + n) sCap * i.bytes) := by omega
  rcases hz with hz | ⟨u, d, hz, hd, hk⟩
  · simp [Builtin.append_, h0, hz, run_underlying hu, hsz, hn, hn', hf, ho, typeInfo, hi, hb', h48', zeroValue, hiz, newRow, grownCap, Question.forced]
  · simp [Builtin.append_, h0, hz, run_underlying hu, run_underlying hd, hsz, hn, hn', hf, ho, typeInfo, hi, hb', h48', zeroValue, hiz, newRow, grownCap, Question.forced]
/-- a new block behind an append -/
theorem plAt_eq {ty pl o t : Nat} (h : plAt ty pl o = t + 1) : pl = t + 1 ∧ ty = t ∧ o = 0 := by
  unfold plAt at h
  split at h
  · split at h
    · next h1 =>
      have h1 : pl = ty + 1 := Nat.eq_of_beq_eq_true h1
      exact ⟨h, by omega, rfl⟩
    · cases h
  · cases h
theorem grow_ok {φ : Phi} {H : Hp} {w : World} (hH : HR E.ng φ H w) {e : TypeId} {need nc size : Nat} {pl : Nat} {cs : List AV} {xs : Array Value} {zc : Array Value} {v : AV} {H' : Hp} (hs : 1 ≤ size) (hnc : need ≤ nc)
    (hxs : VRL φ cs xs.toList) (hlen : xs.size = need * size) (hzc : zc.size = (nc - need) * size) (hpl : ∀ t, pl = t + 1 → e = t) (h : growR pl cs need size H = .ok v H') :
    ∃ φ', VR φ' v (.slice (some ⟨w.heap.size, 0, none⟩) need nc) ∧ HR E.ng φ' H' (w.drew.alloc (.cells (xs ++ zc) e)) ∧ Keep φ H w φ' H' (w.drew.alloc (.cells (xs ++ zc) e)) := by
  unfold growR at h
  split at h
  case h_2 => cases h
  rw [Hp.newK_eq] at h
  cases h
  obtain ⟨s, rfl⟩ : ∃ s, size = s + 1 := ⟨size - 1, by omega⟩
  have hle := Phi.le_upd (hH.new _ (Nat.le_refl _)) ⟨w.heap.size, 0, need * (s + 1), s + 1, nc - need⟩
  have hcl : cs.length = need * (s + 1) := by rw [hxs.length, Array.length_toList]; exact hlen
  have hB : BR (φ.upd H.nx ⟨w.heap.size, 0, need * (s + 1), s + 1, nc - need⟩) ⟨w.heap.size, 0, need * (s + 1), s + 1, nc - need⟩ (.cells pl cs) (.cells (xs ++ zc) e) := by
    refine .cells hcl ?_ (fun i v hv => ?_) (fun i _ => by simp) (fun t ht => ⟨rfl, rfl, hpl t ht⟩)
    · simp only [Array.size_append]; omega
    · obtain ⟨x, hx, hr⟩ := hxs.get hv
      have hi : i < xs.size := by have := (List.getElem?_eq_some_iff.1 hv).1; omega
      refine ⟨x, ?_, hr.mono hle⟩
      simp only [Nat.zero_add]
      rw [Array.getElem?_append_left hi, ← Array.getElem?_toList]; exact hx
  obtain ⟨h1, h2⟩ := hH.new_block (w' := (w.drew.alloc (.cells (xs ++ zc) e))) (p := ⟨w.heap.size, 0, need * (s + 1), s + 1, nc - need⟩) rfl hB rfl rfl rfl rfl
  refine ⟨_, ?_, h1, h2⟩
  have := VR.sliceO (φ := φ.upd H.nx ⟨w.heap.size, 0, need * (s + 1), s + 1, nc - need⟩) 0 need need s (Phi.upd_self φ H.nx ⟨w.heap.size, 0, need * (s + 1), s + 1, nc - need⟩) rfl (by simp)
  simp only [Nat.add_zero] at this
  rw [show need + (nc - need) = nc by omega] at this
  exact this
theorem append_fits {need c bytes : Nat} (hgt : c < need) (h1 : need ≤ 65536) (h2 : bytes ≤ 4096) : Builtin.nextslicecap need c * bytes ≤ 281474976710656 := by
  have := nextslicecap_le hgt
  have : Builtin.nextslicecap need c * bytes ≤ 131072 * 4096 := Nat.mul_le_mul (by omega) h2
  omega
theorem growR_le {pl : Nat} {cs : List AV} {need size : Nat} {H : Hp} {v : AV} {H' : Hp} (h : growR pl cs need size H = .ok v H') : need ≤ 65536 := by
  unfold growR at h
  split at h
  · next h1 => exact le_of_ble h1
  · cases h
/-- an append into room that lies behind what was known: the block goes on under a new name -/
theorem reuse_ok {φ : Phi} {H : Hp} {w : World} (hH : HR E.ng φ H w) {b : Pos} {pl : Nat} {ll : List AV} {p : Pl} {o l n c s : Nat} {old new : List AV} {xs : List Value} (hb : Tr.get b H.t = some (.cells pl ll)) (hp : φ b = some p)
    (hs : p.sz = s + 1) (hn : o + c * (s + 1) = p.n) (hle : l + n ≤ c + p.ext) (hold : loadN E.gl b o (l * (s + 1)) H = some old) (hG : GL E φ H w)
    (hnew : VRL φ new xs) (hlen : xs.length = n * (s + 1)) (hone : ∀ x ∈ xs, Value.oneCell' x = true) {pl' : Nat} (hpl' : ∀ t, pl' = t + 1 → pl = t + 1 ∧ o = 0) :
    ∃ φ' w', (storeCells ⟨p.blk, p.off + o + l * (s + 1), none⟩ xs).run P w = .ok () w' ∧ VR φ' (.slice H.nx 0 (l + n) (l + n) (s + 1)) (.slice (some ⟨p.blk, p.off + o, none⟩) (l + n) (c + p.ext)) ∧
      HR E.ng φ' ((H.set b none).add (.cells pl' (old ++ new))) w' ∧ Keep φ H w φ' ((H.set b none).add (.cells pl' (old ++ new))) w' := by
  obtain ⟨q, ob, hq, hob, hB⟩ := hH.blk _ _ hb
  rw [hp] at hq; cases hq
  cases hB with | cells hl hc hg hf hpl =>
  next cc e fz =>
  obtain ⟨cs, hcl, hr, hcs⟩ := loadN_ok hH hG hp hold
  have e1 : (c + p.ext) * (s + 1) = c * (s + 1) + p.ext * (s + 1) := Nat.add_mul ..
  have e2 : (l + n) * (s + 1) = l * (s + 1) + n * (s + 1) := Nat.add_mul ..
  have e3 : (l + n) * (s + 1) ≤ (c + p.ext) * (s + 1) := Nat.mul_le_mul_right _ hle
  have e4 : (c + p.ext - (l + n)) * (s + 1) = (c + p.ext) * (s + 1) - (l + n) * (s + 1) := Nat.sub_mul ..
  rw [hs] at hc hf
  have hrun := run_storeSeg (P := P) (g := p.blk) (e := e) (fz := fz) (o := p.off + o + l * (s + 1)) xs 0 cc w hob (by omega) (fun j h1 h2 => by
    have := hf (j - p.off) (by omega)
    rw [show p.off + (j - p.off) = j by omega] at this; exact this) hone
  have hdrop := hH.drop b
  have hnx : φ H.nx = none := hH.new _ (Nat.le_refl _)
  generalize hpp : (⟨p.blk, p.off + o, (l + n) * (s + 1), s + 1, c + p.ext - (l + n)⟩ : Pl) = p'
  have hle' := Phi.le_upd hnx p'
  have hol : old.length = l * (s + 1) := by rw [hr.length]; exact hcl
  have hB' : BR (φ.upd H.nx p') p' (.cells pl' (old ++ new)) (.cells (setSeg cc (p.off + o + l * (s + 1) + 0) xs) e fz) := by
    subst hpp
    refine .cells ?_ ?_ (fun i v hv => ?_) (fun i hi => ?_) (fun t h => by obtain ⟨h1, h2⟩ := hpl' t h; obtain ⟨h3, h4, h5⟩ := hpl t h1; exact ⟨h3, by simp only; omega, h5⟩)
    · have := hnew.length; simp only [List.length_append]; omega
    · rw [setSeg_size]; simp only; omega
    · rw [setSeg_get _ _ _ _ (by omega)]
      rw [List.getElem?_append] at hv
      by_cases h1 : i < l * (s + 1)
      · rw [if_pos (by omega)] at hv
        rw [if_neg (by simp only; omega)]
        obtain ⟨x, hx, hrx⟩ := hr.get hv
        have := hcs i x hx
        rw [Addr.add_lit] at this
        refine ⟨x, ?_, hrx.mono hle'⟩
        simpa [World.cell?, hob] using this
      · rw [if_neg (by omega)] at hv
        have h2 := (List.getElem?_eq_some_iff.1 hv).1
        have := hnew.length
        rw [if_pos (by simp only; omega)]
        obtain ⟨x, hx, hrx⟩ := hnew.get hv
        refine ⟨x, ?_, hrx.mono hle'⟩
        simp only
        rw [show p.off + o + i - (p.off + o + l * (s + 1) + 0) = i - old.length by omega]; exact hx
    · simp only at hi ⊢
      have := hf (o + i) (by omega)
      rw [show p.off + (o + i) = p.off + o + i by omega] at this; exact this
  have hlt : p.blk < w.heap.size := (Array.getElem?_eq_some_iff.1 hob).1
  have hpb : p'.blk = p.blk := by subst hpp; rfl
  refine ⟨φ.upd H.nx p', _, hrun, ?_, hdrop.add (w' := { w with heap := w.heap.setIfInBounds p.blk (.cells (setSeg cc (p.off + o + l * (s + 1) + 0) xs) e fz) }) hB' ?_ ?_ ?_, ?_⟩
  · have := VR.sliceO (φ := φ.upd H.nx p') 0 (l + n) (l + n) s (Phi.upd_self φ H.nx p') (by subst hpp; rfl) (by subst hpp; simp)
    subst hpp
    simp only [Nat.add_zero] at this
    rw [show l + n + (c + p.ext - (l + n)) = c + p.ext by omega] at this
    exact this
  · intro b' B' q' hb' hq' he
    simp only [Hp.set, Tr.get_set] at hb'
    by_cases hbb : b' = b
    · rw [if_pos hbb] at hb'; cases hb'
    · rw [if_neg hbb] at hb'
      exact hbb (hH.inj b' b B' _ q' p hb' hb hq' hp (he.trans hpb))
  · rw [hpb]; simp [hlt]
  · intro j hj hjl
    simp only
    rw [Array.getElem?_setIfInBounds, if_neg (fun h => hj (by rw [hpb]; exact h.symm))]
  · refine ⟨hle', by simp, fun j hj hjn => ?_, fun b' B' q' hb' hq' hl' => ?_, rfl, rfl, rfl, Phi.upd_dom φ p', Hp.nx_add _ (H.set b none)⟩
    · simp only
      rw [Array.getElem?_setIfInBounds, if_neg (hjn b _ p hb hp)]
    · simp only [Hp.add, Hp.set, Tr.get_set] at hb'
      by_cases h1 : b' = H.nx
      · subst h1
        rw [Phi.upd_self] at hq'; cases hq'
        exact ⟨b, _, p, hb, hp, hpb.symm⟩
      · rw [if_neg h1] at hb'
        by_cases h2 : b' = b
        · rw [if_pos h2] at hb'; cases hb'
        · rw [if_neg h2] at hb'
          have : φ b' = some q' := by simpa [Phi.upd, h1] using hq'
          exact ⟨b', B', q', hb', this, rfl⟩
/-- what is to be appended: n elements, whose cells are xs -/
structure AppSrc (P : Program) (ts : Array TypeId) (ty e : TypeId) (size bytes : Nat) (z Y : Value) (n : Nat) (xs : Array Value) (w : World) : Prop where
  inn : ∀ {a : Addr} {sLen sCap : Nat} {w' : World}, sLen + n ≤ sCap → (storeCells (a.add (sLen * size)) xs.toList).run P w = .ok () w' →
    (Builtin.append_ ts ty #[.slice (some a) sLen sCap, Y]).run P w = .ok (.slice (some a) (sLen + n) sCap) w'
  nil0 : n = 0 → (Builtin.append_ ts ty #[.slice none 0 0, Y]).run P w = .ok (.slice none 0 0) w
  grow : ∀ {b : Option Addr} {sLen sCap : Nat} {old : Array Value}, sLen + n ≤ 65536 → sCap < sLen + n → Builtin.nextslicecap (sLen + n) sCap * bytes ≤ 281474976710656 →
    (Builtin.firstCells size sLen (.slice b sLen sCap)).run P w.drew = .ok old w.drew →
    (Builtin.append_ ts ty #[.slice b sLen sCap, Y]).run P w = .ok (.slice (some ⟨w.heap.size, 0, none⟩) (sLen + n) (grownCap w (sLen + n) sCap e))
        (w.drew.alloc (.cells (old ++ xs ++ Builtin.zeroCells z.cells (grownCap w (sLen + n) sCap e - (sLen + n))) e))
/-- zeros are appended, so many as an int says -/
theorem appZeros {ts : Array TypeId} {t u ty e : TypeId} {ku k : IntKind} {i : TypeInfo} {z : Value} {n : Nat} {w : World} (h0 : ts[0]? = some t) (h1 : ts[1]? = some u) (hku : P.underlying u = some (.int ku))
    (hu : P.underlying t = some (.slice e)) (hi : P.info? e = some i) (hiz : i.zero = some z) (hs : 1 ≤ i.size) (hb : 1 ≤ i.bytes) (hb2 : i.bytes ≤ 4096) (hn : n ≤ 65536) :
    AppSrc P ts ty e i.size i.bytes z (.int k (n : Int)) n (Builtin.zeroCells z.cells n) w := by
  have hsz : ∀ w, (sizeOf e).run P w = .ok i.size w := fun w => by simp [sizeOf, run_typeInfo hi]
  have hw : IntKind.i64.wrap (n : Int) = n := IntWalk.i64_in _ (by omega)
  have h2 : ¬ ((n : Int) < 0) := by omega
  have h3 : ¬ ((281474976710656 : Int) < (n : Int) * (i.bytes : Int)) := by
    have : n * i.bytes ≤ 65536 * 4096 := Nat.mul_le_mul hn hb2
    rw [← Int.natCast_mul]; omega
  have hzc : n * i.size = 0 → Builtin.zeroCells z.cells n = #[] := fun h => by
    have : n = 0 := by rcases Nat.mul_eq_zero.1 h with h | h <;> omega
    subst this; simp [Builtin.zeroCells]
  refine ⟨fun {a sLen sCap w'} hle hst => ?_, fun h => ?_, fun {b sLen sCap old} h65 hgt h48 ho => ?_⟩
  · by_cases hz : n * i.size = 0
    · rw [hzc hz] at hst
      have hst' : (storeCells (a.add (sLen * i.size)) []).run P w = .ok () w' := hst
      simp [Builtin.append_, h0, h1, run_underlying hu, run_underlying hku, hsz, asInt, asIntOf, hw, h2, typeInfo, hi, h3, hle, hz, hst']
    · simp [Builtin.append_, h0, h1, run_underlying hu, run_underlying hku, hsz, asInt, asIntOf, hw, h2, typeInfo, hi, h3, hle, hz, zeroValue, hiz, hst]
  · subst h
    have hw0 : IntKind.i64.wrap 0 = 0 := IntWalk.i64_in _ (by omega)
    simp [Builtin.append_, h0, h1, run_underlying hu, run_underlying hku, hsz, asInt, asIntOf, hw0, typeInfo, hi]
  · have hn' : ¬ (sLen + n ≤ sCap) := by omega
    have h48' : ¬ (281474976710656 < Builtin.nextslicecap (sLen + n) sCap * i.bytes) := by omega
    have h63 : ¬ ((9223372036854775807 : Int) < (sLen : Int) + (n : Int)) := by omega
    by_cases hz : n * i.size = 0
    · rw [hzc hz]
      simp [Builtin.append_, h0, h1, run_underlying hu, run_underlying hku, hsz, asInt, asIntOf, hw, h2, typeInfo, hi, h3, hn', hz, ho, h48', h63, zeroValue, hiz, newRow, grownCap, Question.forced]
    · simp [Builtin.append_, h0, h1, run_underlying hu, run_underlying hku, hsz, asInt, asIntOf, hw, h2, typeInfo, hi, h3, hn', hz, ho, h48', h63, zeroValue, hiz, newRow, grownCap, Question.forced]
theorem appendW_ok {φ : Phi} {H : Hp} {w : World} (hH : HR E.ng φ H w) (hG : GL E φ H w) {o : Oper} {a : Act} {ts : Array TypeId} {e : TypeId} {i : TypeInfo} {zv X' Y' : Value} {u : AV} {n : Nat} {new : List AV} {xs : Array Value} {v : AV} {H' : Hp}
    (hS : AppSrc P ts o.type e i.size i.bytes zv Y' n xs w) (base : ∀ z w', (Builtin.append_ ts o.type #[X', Y']).run P w = .ok z w' → (execOp a.eval o).run P w = .ok (.value z) w')
    (hRX : VR φ u X') (hr' : VRL φ new xs.toList) (hxs : xs.size = n * i.size) (hsz : zv.cells.size = i.size) (g1 : 1 ≤ i.size) (g2 : 1 ≤ i.bytes) (g3 : i.bytes ≤ 4096) (h : appendW E.gl e i.size u n new H = .ok v H') :
    ∃ φ' w' nx z, (execOp a.eval o).run P w = .ok nx w' ∧ Yields nx z ∧ VR φ' v z ∧ HR E.ng φ' H' w' ∧ Keep φ H w φ' H' w' := by
  unfold appendW at h
  split at h
  · -- nil
    cases hRX
    split at h
    · cases h
      exact ⟨φ, w, _, _, base _ w (hS.nil0 rfl), yields_value _, .nslice, hH, Keep.refl _ _ _⟩
    · next n =>
      have h65 := growR_le h
      have hg := hS.grow (sLen := 0) (sCap := 0) (b := none) (old := #[]) (by omega) (by omega) (append_fits (by omega) (by omega) g3) (run_firstCells_none ..)
      simp only [Nat.zero_add, Array.empty_append] at hg
      obtain ⟨φ', h1, h2, h3⟩ := grow_ok (e := e) (nc := grownCap w (n + 1) 0 e) (zc := Builtin.zeroCells zv.cells (grownCap w (n + 1) 0 e - (n + 1))) hH g1 (grownCap_ge ..) hr' hxs (by rw [size_zeroCells, hsz]) (fun t h => Nat.succ.inj h) h
      exact ⟨φ', _, _, _, base _ _ hg, yields_value _, h1, h2, h3⟩
  · next b ofs l cp op =>
    have hadd : ∀ (p : Pl), (Addr.add ⟨p.blk, p.off + ofs, none⟩ (l * i.size)) = ⟨p.blk, p.off + (ofs + l * i.size), none⟩ := fun p => by rw [Addr.add_lit, Nat.add_assoc]
    split at h
    · next hle =>
      have hle := le_of_ble hle
      simp only [Nat.add_eq] at hle
      obtain ⟨h1, pl, ll, hb, hbl, h⟩ := storeR_ok h
      cases h
      have hone := allOne_cells hr' h1
      cases hRX with
      | sliceC _ _ _ hp =>
        obtain ⟨w', hst, hH', hK⟩ := put_ok (P := P) hH hb hp hr' hone hbl
        exact ⟨φ, w', _, _, base _ w' (hS.inn hle (by rw [hadd]; exact hst)), yields_value _, .sliceC _ _ _ hp, hH', hK⟩
      | sliceO _ _ _ s hp hs hn' =>
        obtain ⟨w', hst, hH', hK⟩ := put_ok (P := P) hH hb hp hr' hone hbl
        exact ⟨φ, w', _, _, base _ w' (hS.inn (by omega) (by rw [hadd]; exact hst)), yields_value _, .sliceO _ _ _ s hp hs hn', hH', hK⟩
    · next hle =>
      have hle : cp < l + n := by
        cases hh : Nat.decLt cp (l + n) with
        | isTrue h => exact h
        | isFalse h => rw [show Nat.ble (Nat.add l n) cp = true from Nat.ble_eq_true_of_le (by simp only [Nat.add_eq]; omega)] at hle; cases hle
      split at h
      · cases h
      next old hold =>
      rw [appK_eq] at h
      have holdf : firstV E.gl i.size l (.slice b ofs l cp op) H = some old := hold
      obtain ⟨os, hro, hos, hrunO⟩ := firstV_ok (P := P) hH hG hRX rfl (Nat.le_refl l) holdf
      have hgrow : ∀ (C : Nat) (a' : Option Addr) (pl : Nat) (H1 : Hp), (∀ t, pl = t + 1 → e = t) → X' = .slice a' l C → C < l + n → (HR E.ng φ H1 w) → growR pl (old ++ new) (Nat.add l n) i.size H1 = .ok v H' →
          ∃ φ' w' nx z, (execOp a.eval o).run P w = .ok nx w' ∧ Yields nx z ∧ VR φ' v z ∧ HR E.ng φ' H' w' ∧ Keep φ H1 w φ' H' w' := by
        intro C a' pl H1 hpl hXX hC hH1 h
        have h65 := growR_le h
        simp only [Nat.add_eq] at h65
        have hg := hS.grow (sLen := l) (sCap := C) (b := a') (old := os) (by omega) hC (append_fits hC (by omega) g3) (by rw [← hXX]; exact hrunO w.drew rfl)
        obtain ⟨φ', h1, h2, h3⟩ := grow_ok (e := e) (xs := os ++ xs) (nc := grownCap w (l + n) C e) (zc := Builtin.zeroCells zv.cells (grownCap w (l + n) C e - (l + n))) hH1 g1 (grownCap_ge ..)
          (by rw [Array.toList_append]; exact hro.append hr') (by rw [Array.size_append, hos, hxs]; simp only [Nat.add_mul]) (by rw [size_zeroCells, hsz]) hpl h
        exact ⟨φ', _, _, _, base _ _ (by rw [hXX]; exact hg), yields_value _, h1, h2, h3⟩
      split at h
      · cases hRX with
        | sliceC _ _ _ hp => exact hgrow cp _ (e + 1) H (fun t h => Nat.succ.inj h) rfl hle hH h
      · next op =>
        split at h
        case h_2 => cases h
        next pl ll hbe hal hb =>
        have hbe := Nat.eq_of_beq_eq_true hbe
        rw [Hp.setK_eq] at h
        cases hRX with | sliceO _ _ _ s hp hs hn' =>
        next p =>
        by_cases hroom : l + n ≤ cp + p.ext
        · unfold growR at h
          split at h
          case h_2 => cases h
          rw [Hp.newK_eq] at h
          cases h
          have hbs : i.size = op + 1 := hbe.symm
          rw [hbs] at hold hxs
          obtain ⟨φ', w', k1, k2, k3, k4⟩ := reuse_ok (P := P) hH hb hp hs hn' hroom hold hG hr' (by simpa using hxs) (allOne_cells hr' hal) (pl' := plAt e pl ofs) (fun t h => ⟨(plAt_eq h).1, (plAt_eq h).2.2⟩)
          refine ⟨φ', w', _, _, base _ w' (hS.inn hroom (by rw [Addr.add_lit, hbs]; exact k1)), yields_value _, ?_, k3, k4⟩
          rw [hbs]; exact k2
        · obtain ⟨φ', w', nx, z, k1, k2, k3, k4, k5⟩ := hgrow (cp + p.ext) _ (plAt e pl ofs) _ (fun t h => (plAt_eq h).2.1) rfl (by omega) (hH.drop b) h
          exact ⟨φ', w', nx, z, k1, k2, k3, k4, (Keep.drop b).trans k5⟩
  · cases h
theorem append_act (hE : EnvOk P E) {o : Oper} {c : Call} {t e : TypeId} {r : List TypeId} {i : TypeInfo} {z : AV} {x y : Opd} (ho : o.op = .call c) (hc : c.callee = .builtin .append) (hx : opds E.ng c.args = some [x, y])
    (ht : c.argTypes.toList = t :: r) (he : elemIdS E t = some e) (hi : elemOfS E t = some i) (hr : r = [] ∨ ∃ u r' d, r = u :: r' ∧ E.und u = some d ∧ ∀ k, d ≠ .int k) (hz : E.zero e = some z) (hzl : Nat.beq (len z.cells) i.size = true) :
    ActOk P E o (appendR E.gl e i.size i.bytes x y) := by
  intro φ nt T H a w v H' hT hH hG h
  obtain ⟨u, hu, h1⟩ := rb_ok h; clear h
  obtain ⟨u', hu', h⟩ := rb_ok h1; clear h1
  obtain ⟨X, Y, hA, hX, hY⟩ := opds_two hx
  have hRX := getO_ok hT hH.gr hX hu
  have hRY := getO_ok hT hH.gr hY hu'
  obtain ⟨ks, hks⟩ := exec_builtin (P := P) ho hc
  obtain ⟨hue, hie, _⟩ := elems_ok hE he hi
  generalize hXe : a.eval X = X' at hRX
  generalize hYe : a.eval Y = Y' at hRY
  have base : ∀ z w', (Builtin.append_ c.argTypes o.type #[X', Y']).run P w = .ok z w' → (execOp a.eval o).run P w = .ok (.value z) w' := by
    intro z w' hh
    rw [hks]
    refine bind_value ?_
    rw [two_args hA, hXe, hYe]; exact hh
  have h0 := types_head ht
  have hnz : NoZeros P c.argTypes := by
    rcases hr with rfl | ⟨u, r', d, rfl, hd, hk⟩
    · left; rw [← Array.getElem?_toList, ht]; rfl
    · right; exact ⟨u, d, by rw [← Array.getElem?_toList, ht]; rfl, und_ok hE hd, hk⟩
  obtain ⟨zi, zv, hzi, hzv, hzr⟩ := zero_ok hE hz
  rw [hie] at hzi; cases hzi
  have hsz : zv.cells.size = i.size := by
    rw [len_eq] at hzl
    have := Nat.eq_of_beq_eq_true hzl
    rw [← this, (hzr φ).cells.length]; simp
  split at h
  case h_2 => cases h
  next n g1 g2 g3 hm =>
  have g1 := le_of_ble g1
  have g2 := le_of_ble g2
  have g3 := le_of_ble g3
  split at h
  case h_2 => cases h
  next new hnew =>
  obtain ⟨xs, hr', hxs, hrun⟩ := firstV_ok (P := P) hH hG hRY hm (Nat.le_refl n) hnew
  have hl := lenOfA_ok (P := P) hRY hm w
  have hrun' : (Builtin.firstCells i.size n Y').run P w.drew = .ok xs w.drew := hrun w.drew rfl
  exact appendW_ok (P := P) (xs := xs) hH hG ⟨fun hle hst => app_in h0 hnz hue hie hl hle (hrun w rfl) hst, fun hn => by subst hn; exact app_nil0 h0 hnz hue hie hl (firstCells_zero (P := P) i.size hRY hm),
    fun _ hgt h48 ho => app_grow h0 hnz hue hie hzv hl hgt g2 h48 hrun' ho⟩ base hRX hr' hxs hsz g1 g2 g3 h
/-- zeros appended -/
theorem appendZ_act (hE : EnvOk P E) {o : Oper} {c : Call} {t e u : TypeId} {ku : IntKind} {r : List TypeId} {i : TypeInfo} {z : AV} {x y : Opd} (ho : o.op = .call c) (hc : c.callee = .builtin .append) (hx : opds E.ng c.args = some [x, y])
    (ht : c.argTypes.toList = t :: u :: r) (he : elemIdS E t = some e) (hi : elemOfS E t = some i) (hku : E.und u = some (.int ku)) (hz : E.zero e = some z) (hzl : Nat.beq (len z.cells) i.size = true) :
    ActOk P E o (appendZR E.gl e i.size i.bytes z.cells x y) := by
  intro φ nt T H a w v H' hT hH hG h
  obtain ⟨u', hu', h1⟩ := rb_ok h; clear h
  obtain ⟨X, Y, hA, hX, hY⟩ := opds_two hx
  have hRX := getO_ok hT hH.gr hX hu'
  obtain ⟨ks, hks⟩ := exec_builtin (P := P) ho hc
  obtain ⟨hue, hie, _⟩ := elems_ok hE he hi
  obtain ⟨zi, zv, hzi, hzv, hzr⟩ := zero_ok hE hz
  rw [hie] at hzi; cases hzi
  have hzc := (hzr φ).cells
  have hsz : zv.cells.size = i.size := by
    rw [len_eq] at hzl
    have := Nat.eq_of_beq_eq_true hzl
    rw [← this, hzc.length]; simp
  split at h1
  case h_2 => cases h1
  next n g1 g2 g3 hn =>
  split at h1
  case h_2 => cases h1
  next g4 =>
  have g1 := le_of_ble g1
  have g2 := le_of_ble g2
  have g3 := le_of_ble g3
  have g4 := le_of_ble g4
  obtain ⟨k, hk⟩ := natO_ok hT hH.gr hY hn
  rw [replK_eq] at h1
  have h0 : c.argTypes[0]? = some t := types_head ht
  have h1' : c.argTypes[1]? = some u := by rw [← Array.getElem?_toList, ht]; rfl
  refine appendW_ok (P := P) (xs := Builtin.zeroCells zv.cells n) (X' := a.eval X) (Y' := .int k n) hH hG (appZeros h0 h1' (und_ok hE hku) hue hie hzv g1 g2 g3 g4) ?_ hRX ?_ ?_ hsz g1 g2 g3 h1
  · intro z w' hh
    rw [hks]
    refine bind_value ?_
    rw [two_args hA, hk]; exact hh
  · show VRL φ _ ((Array.range (n * zv.cells.size)).map (fun j => zv.cells[j % zv.cells.size]!)).toList
    rw [range_rows]; exact hzc.replicate n
  · rw [size_zeroCells, hsz]
/-! ### a slice of an open slice, cut where its known room ends -/
theorem slice_act (hE : EnvOk P E) {o : Oper} {t e : TypeId} {size : Nat} {X : Operand} {L Hi : Option Operand} {x : Opd} {l h : Option Opd} (ho : o.op = .slice t X L Hi none) (hx : opd E.ng X = some x)
    (hl : optOpd E.ng L = some l) (hh : optOpd E.ng Hi = some h) (ht : E.und t = some (.slice e)) (hs : E.size e = some size) : ActOk P E o (sliceR size x l h) := by
  intro φ nt T H a w v H' hT hH hG hr
  unfold sliceR at hr
  split at hr
  case h_2 => cases hr
  next u b off n c op hu =>
  have hX := getO_ok hT hH.gr hx hu
  split at hr
  case h_2 => cases hr
  next hbd =>
  split at hr
  case h_2 => cases hr
  next pl ll hb =>
  rw [Hp.setK_eq, Hp.newK_eq] at hr
  cases hr
  obtain ⟨lo, hi, hk, h1, h2, hbs⟩ := bounds_ok (P := P) (w := w) hT hH.gr hl hh hbd
  obtain ⟨g1, hk⟩ := guardV_some.1 hk
  obtain ⟨g2, _⟩ := guardV_some.1 hk
  have g1 := Nat.eq_of_beq_eq_true g1
  have g2 : op + 1 = size := Nat.eq_of_beq_eq_true g2
  subst g1
  have e1 : hi = lo := by omega
  subst e1
  have key : ∀ r, (Instr.slice t (a.eval X) (L.map a.eval) (Hi.map a.eval) none).run P w = .ok r w → (execOp a.eval o).run P w = .ok (.value r) w := by
    intro r hr
    have : (Instr.sliceAt t (a.eval X) (L.map a.eval) (Hi.map a.eval) none).run P w = .ok r w := by
      simp [Instr.sliceAt, run_underlying (und_ok hE ht), hr]
    simp [execOp, ho, this]
  generalize hXe : a.eval X = X' at hX key
  cases hX with | sliceO _ _ _ _ hp hsz hn =>
  next p =>
  have hbs := hbs true (hi + p.ext) (by omega)
  obtain ⟨q, ob, hq, hob, hB⟩ := hH.blk _ _ hb
  rw [hp] at hq; cases hq
  cases hB with | cells hcl hc hg hf hpl =>
  next cc et fz =>
  have hdrop := hH.drop b
  have hlt : p.blk < w.heap.size := (Array.getElem?_eq_some_iff.1 hob).1
  have main : ∀ (o' : Nat), (o' = off ∧ p.ext = 0 ∨ o' = off + hi * (op + 1)) → ∃ φ', VR φ' (.slice H.nx 0 0 0 (op + 1)) (.slice (some ⟨p.blk, p.off + o', none⟩) 0 p.ext) ∧
      HR E.ng φ' ((H.set b none).add (.cells 0 [])) w ∧ Keep φ H w φ' ((H.set b none).add (.cells 0 [])) w := by
    intro o' ho'
    have hnx : φ H.nx = none := hH.new _ (Nat.le_refl _)
    generalize hpp : (⟨p.blk, p.off + o', 0, op + 1, p.ext⟩ : Pl) = p'
    have hpb : p'.blk = p.blk := by subst hpp; rfl
    have hle' := Phi.le_upd hnx p'
    have hB' : BR (φ.upd H.nx p') p' (.cells 0 []) (.cells cc et fz) := by
      subst hpp
      rw [hsz] at hc hf
      refine .cells rfl ?_ (fun i v hv => by simp at hv) (fun i hi' => ?_) (fun t h => by cases h)
      · simp only [Nat.add_zero]
        rcases ho' with ⟨rfl, h0⟩ | rfl
        · rw [h0] at hc ⊢; simp only [Nat.zero_mul] at hc ⊢; omega
        · omega
      · simp only [Nat.zero_add] at hi' ⊢
        rcases ho' with ⟨rfl, h0⟩ | rfl
        · rw [h0] at hi'; simp at hi'
        · have := hf (off + hi * (op + 1) + i) (by omega)
          rw [show p.off + (off + hi * (op + 1) + i) = p.off + (off + hi * (op + 1)) + i by omega] at this; exact this
    refine ⟨φ.upd H.nx p', ?_, hdrop.add (w' := w) hB' ?_ ?_ ?_, ?_⟩
    · have := VR.sliceO (φ := φ.upd H.nx p') 0 0 0 op (Phi.upd_self φ H.nx p') (by subst hpp; rfl) (by subst hpp; simp)
      subst hpp
      simpa using this
    · intro b' B' q' hb' hq' he
      simp only [Hp.set, Tr.get_set] at hb'
      by_cases hbb : b' = b
      · rw [if_pos hbb] at hb'; cases hb'
      · rw [if_neg hbb] at hb'
        exact hbb (hH.inj b' b B' _ q' p hb' hb hq' hp (he.trans hpb))
    · rw [hpb]; exact hob
    · intro j _ _; rfl
    · refine ⟨hle', Nat.le_refl _, fun j hj hjn => rfl, fun b' B' q' hb' hq' hl' => ?_, rfl, rfl, rfl, Phi.upd_dom φ p', Hp.nx_add _ (H.set b none)⟩
      simp only [Hp.add, Hp.set, Tr.get_set] at hb'
      by_cases h1 : b' = H.nx
      · subst h1
        rw [Phi.upd_self] at hq'; cases hq'
        exact ⟨b, _, p, hb, hp, hpb.symm⟩
      · rw [if_neg h1] at hb'
        by_cases h2 : b' = b
        · rw [if_pos h2] at hb'; cases hb'
        · rw [if_neg h2] at hb'
          have : φ b' = some q' := by simpa [Phi.upd, h1] using hq'
          exact ⟨b', B', q', hb', this, rfl⟩
  by_cases h0 : p.ext = 0
  · obtain ⟨φ', k1, k2, k3⟩ := main off (.inl ⟨rfl, h0⟩)
    refine ⟨φ', w, _, _, key _ ?_, yields_value _, k1, k2, k3⟩
    simp only [h0, Nat.add_zero] at hbs ⊢
    simp [Instr.slice, run_underlying (und_ok hE ht), hbs, size_ok hE hs]
  · obtain ⟨φ', k1, k2, k3⟩ := main (off + hi * (op + 1)) (.inr rfl)
    refine ⟨φ', w, _, _, key _ ?_, yields_value _, k1, k2, k3⟩
    have hne : ¬ (hi + p.ext = hi) := by omega
    simp [Instr.slice, run_underlying (und_ok hE ht), hbs, size_ok hE hs, Addr.add_lit, ← g2, h0, Nat.add_assoc]
/-! ### the bytes of a string -/
theorem s2b_act (hE : EnvOk P E) {o : Oper} {s d e : TypeId} {X : Operand} {x : Opd} (ho : o.op = .convert s d X) (hx : opd E.ng X = some x) (hs : E.und s = some .string) (hd : E.und d = some (.slice e))
    (he : E.und e = some (.int .u8)) : ActOk P E o (s2bR x) := by
  intro φ nt T H a w v H' hT hH hG h
  obtain ⟨u, hu, h1⟩ := rb_ok h
  clear h
  have h := h1
  clear h1
  have hX := getO_ok hT hH.gr hx hu
  generalize hXe : a.eval X = X' at hX
  split at h
  case h_2 => cases h
  next n c =>
  cases hX with | str hst =>
  next str =>
  split at h
  case h_2 => cases h
  rw [Hp.newK_eq] at h
  cases h
  have hn : str.size = n := hst.1
  generalize hcap : grownCap w str.size 0 e = cap
  have hge : str.size ≤ cap := hcap ▸ grownCap_ge ..
  have hb := bytes_VRL φ hst (Nat.le_refl n)
  have hall : str.extract 0 n = str := by rw [← hn]; exact ByteArray.extract_zero_size
  rw [hall] at hb
  generalize hel : (str.data.map fun b => Value.int .u8 b.toNat) = elems at hb
  have hels : elems.size = n := by rw [← hel, Array.size_map]; exact hn
  have hle := Phi.le_upd (hH.new _ (Nat.le_refl _)) ⟨w.heap.size, 0, n, 1, cap - n⟩
  have hB : BR (φ.upd H.nx ⟨w.heap.size, 0, n, 1, cap - n⟩) ⟨w.heap.size, 0, n, 1, cap - n⟩ (.cells 0 (byteAVs n c)) (.cells (elems ++ Array.replicate (cap - str.size) (.int .u8 0)) e (cap, cap + 1)) := by
    refine .cells (by rw [hb.length, Array.length_toList]; exact hels) ?_ (fun i v hv => ?_) (fun i hi => ?_) (fun t h => by cases h)
    · simp only [Array.size_append, Array.size_replicate]; omega
    · obtain ⟨y, hy, hr⟩ := hb.get hv
      have hi : i < elems.size := by have := (List.getElem?_eq_some_iff.1 hv).1; rw [hb.length, Array.length_toList] at this; exact this
      refine ⟨y, ?_, hr.mono hle⟩
      simp only [Nat.zero_add]
      rw [Array.getElem?_append_left hi, ← Array.getElem?_toList]; exact hy
    · simp only at hi ⊢; omega
  obtain ⟨h1, h2⟩ := hH.new_block (w' := { w.drew with heap := w.heap.push (.cells (elems ++ Array.replicate (cap - str.size) (.int .u8 0)) e (cap, cap + 1)) }) (p := ⟨w.heap.size, 0, n, 1, cap - n⟩) rfl hB rfl rfl rfl rfl
  have hv := VR.sliceO (φ := φ.upd H.nx ⟨w.heap.size, 0, n, 1, cap - n⟩) 0 n n 0 (Phi.upd_self φ H.nx ⟨w.heap.size, 0, n, 1, cap - n⟩) rfl (by simp)
  simp only [Nat.add_zero] at hv
  rw [show n + (cap - n) = cap by omega] at hv
  refine ⟨_, _, _, .slice (some ⟨w.heap.size, 0, none⟩) n cap, ?_, yields_value _, hv, h1, h2⟩
  have hsize : (elems ++ Array.replicate (cap - str.size) (Value.int .u8 0)).size = cap := by simp only [Array.size_append, Array.size_replicate]; omega
  have hq : (Question.appendCap str.size 0 e).cut (w.tape w.drawn (.appendCap str.size 0 e)) = cap := hcap
  have hconv : (convert s d (.string str)).run P w = (Conv.stringToBytes e str).run P w := by
    simp [convert, run_underlying (und_ok hE hs), run_underlying (und_ok hE hd), run_underlying (und_ok hE he)]
  have hrun : (Conv.stringToBytes e str).run P w = .ok (.slice (some ⟨w.heap.size, 0, none⟩) n cap) { w.drew with heap := w.heap.push (.cells (elems ++ Array.replicate (cap - str.size) (.int .u8 0)) e (cap, cap + 1)) } := by
    simp only [Conv.stringToBytes, hel, Sem.run_bind, run_choose_drew, Question.forced, hq, Bool.false_eq_true, if_false, Result.andThen_ok, newRow, run_newObj_alloc, Sem.run_pure]
    generalize hC : elems ++ Array.replicate (cap - str.size) (Value.int .u8 0) = C at hsize ⊢
    clear hB h1 h2 hv hb hle
    have hblk : (w.drew.alloc (.cells C e)).heap[w.drew.heap.size]? = some (.cells C e (0, 0)) := by
      show (w.heap.push (.cells C e))[w.heap.size]? = _
      simp
    have hsh : (w.drew.alloc (.cells C e)).shape? w.drew.heap.size = some (e, cap) := by simp only [World.shape?, hblk, hsize]
    have hfz : (w.drew.alloc (.cells C e)).freeze { block := w.drew.heap.size, off := cap } 1 = { w.drew with heap := w.heap.push (.cells C e (cap, cap + 1)) } := by
      unfold World.freeze
      rw [if_neg (by omega), modify_eq _ _ _ _ hblk]
      simp only [World.alloc, World.drew]
      congr 1
      apply Array.ext_getElem?
      intro j
      simp only [Array.getElem?_setIfInBounds, Array.getElem?_push, Array.size_push]
      by_cases hj : w.heap.size = j
      · subst hj; simp
      · rw [if_neg hj]
        by_cases hj' : j = w.heap.size
        · exact absurd hj'.symm hj
        · rw [if_neg hj', if_neg hj']
    have hms : (markStringish ⟨w.drew.heap.size, 0, none⟩).run P (w.drew.alloc (.cells C e)) = .ok () { w.drew with heap := w.heap.push (.cells C e (cap, cap + 1)) } := by
      simp only [markStringish, Sem.run_bind, run_shape, hsh, Result.andThen_ok, run_freeze, hfz]
    simp only [hms, Result.andThen_ok, hn]
    rfl
  simp [execOp, ho, hXe, hconv, hrun]
end
end Go.Ev
