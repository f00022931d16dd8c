/- In a world of which the row speaks, the variables hold what the evaluator takes them to hold. -/
import Derived.Test.YtlgngfiiaoodjaaGreatDoorRows
import Derived.Test.YtlgngfiiaoodjaaGreatDoorEvLaid
import Derived.Test.YtlgngfiiaoodjaaGreatDoorEvLaw
import Derived.Shelf.Vars
set_option linter.unusedVariables false
set_option linter.unusedSimpArgs false
namespace Go.Proofs.YtlgngfiiaoodjaaGreatDoor
open Go.Ev Go.Lib
set_option maxRecDepth 100000
def parts {H : Type} : DataW H → List (DataW H)
  | .agg ds => ds
  | _ => []
def inner {H : Type} : DataW H → DataW H
  | .iface _ d => d
  | d => d
theorem shapes_ok : ((List.range 16).all fun g => (((begin Tryz.prog (fun _ _ => 0) default).world.heap[g]?).bind Obj.row?).isSome) = true := by kernel_rfl
theorem nglob : Tryz.prog.globals.size = 16 := by kernel_rfl
theorem shape_glob {W : World} (h : W.ShapedOpen Tryz.prog) {g : Nat} (hg : g < 16) : ∃ cs t, W.heap[g]? = some (.cells cs t (0, 0)) := by
  have := List.all_eq_true.1 shapes_ok g (List.mem_range.2 hg)
  obtain ⟨⟨z, t⟩, hz⟩ := Option.isSome_iff_exists.1 this
  obtain ⟨cs, h1, _⟩ := h.1 g z t (by rw [nglob]; exact hg) hz
  exact ⟨cs, t, h1⟩
theorem var_rows {W : World} (hs : W.ShapedOpen Tryz.prog) {nm : String} {g : Nat} {cs : Array Value} (hg16 : g < 16) (hg : Tryz.prog.globalNamed nm = some g) (hv : W.var? Tryz.prog nm = some cs) : ∃ e, W.heap[g]? = some (.cells cs e (0, 0)) := by
  obtain ⟨c, t, h1⟩ := shape_glob hs hg16
  simp only [World.var?, hg, Option.bind_some, h1, Option.some.injEq] at hv
  subst hv
  exact ⟨t, h1⟩
theorem plain_part {P : Program} {l : List (String × DataW Unit)} {w : World} (h : laidMetH P l w) : laidMet P (l.filter fun x => x.2.handleName?.isNone) w := by
  unfold laidMetH at h
  split at h
  · next hn =>
    rw [List.filter_eq_self.2 (fun x hx => ?_)]
    · exact h
    · have := List.filter_eq_nil_iff.1 hn x hx
      cases hh : x.2.handleName? with
      | none => rfl
      | some y => rw [hh] at this; exact absurd rfl this
  · exact h.1
/-- a listed variable of plain data -/
theorem data_rows {W : World} (hs : W.ShapedOpen Tryz.prog) (hL : laidMetH Tryz.prog Rows.storePlaysRow.laid W) {φ : Phi} {l : List AV} {g t : Nat} (i : Nat) {nm : String} {d : DataW Unit} (hi : Rows.storePlaysRow.laid[i]? = some (nm, d)) (hn : d.handleName?.isNone = true)
    (hg16 : g < 16) (hg : Tryz.prog.globalNamed nm = some g) (ht : (Tryz.prog.globals[g]?).map (·.type) = some t)
    (hel : ∀ fuel cs p, DataW.trod (fun _ => ()) Tryz.prog W 0 (fun _ => true) false fuel t cs = some (d, p) → VRL φ l cs) : ∃ c e, W.heap[g]? = some (.cells c e (0, 0)) ∧ VRL φ l c.toList := by
  obtain ⟨g', t', cs, fuel, p, hg', ht', hv, hd⟩ := laidMet.reads (plain_part hL) (List.mem_filter.2 ⟨List.mem_of_getElem? hi, hn⟩)
  obtain rfl := Option.some.inj (hg.symm.trans hg')
  obtain rfl := Option.some.inj (ht.symm.trans ht')
  obtain ⟨e, h1⟩ := var_rows hs hg16 hg hv
  exact ⟨cs, e, h1, hel fuel _ p hd⟩
/-- a listed table of functions -/
theorem func_rows {W : World} (hs : W.ShapedOpen Tryz.prog) (hL : laidMetH Tryz.prog Rows.storePlaysRow.laid W) {φ : Phi} {l : List AV} {g t : Nat} (i : Nat) {nm : String} {d : DataW Unit} (hi : Rows.storePlaysRow.laid[i]? = some (nm, .iface "func table" d))
    (hg16 : g < 16) (hg : Tryz.prog.globalNamed nm = some g) (ht : (Tryz.prog.globals[g]?).map (·.type) = some t)
    (hel : ∀ fuel cs p, DataW.trod (funcToken Tryz.prog) Tryz.prog W 0 (fun _ => true) true fuel t cs = some (d.funcsOut, p) → VRL φ l cs) : ∃ c e, W.heap[g]? = some (.cells c e (0, 0)) ∧ VRL φ l c.toList := by
  obtain ⟨g', t', cs, fuel, p, hg', ht', hv, hd⟩ := hL.funcs (List.mem_of_getElem? hi)
  obtain rfl := Option.some.inj (hg.symm.trans hg')
  obtain rfl := Option.some.inj (ht.symm.trans ht')
  obtain ⟨e, h1⟩ := var_rows hs hg16 hg hv
  exact ⟨cs, e, h1, hel fuel _ p hd⟩
theorem of_parts {H : Type} {φ : Phi} {chunk : DataW H → List AV} {good : DataW H → Prop} {d : DataW H} {p : List MemPlace} {l : List AV} {cs : List Value} (h : ∃ ds, (d, p).1 = .agg ds ∧ ((∀ x ∈ ds, good x) → VRL φ (ds.flatMap chunk) cs)) (hgood : ∀ x ∈ parts d, good x) (hl : (parts d).flatMap chunk = l) : VRL φ l cs := by
  obtain ⟨ds, h1, h2⟩ := h
  have h1 : d = .agg ds := h1
  subst h1
  rw [← hl]
  exact h2 hgood
def tab4 : List (List UInt8 × FuncId) := [([114, 101, 119, 105, 110, 100, 47, 100, 101, 102, 105, 110, 105, 116, 101, 46, 100, 101, 99, 108, 97, 114, 101, 115], 495), ([114, 101, 119, 105, 110, 100, 47, 100, 101, 102, 105, 110, 105, 116, 101, 46, 97, 108, 119, 97, 121, 115], 496)]
def tab5 : List (List UInt8 × FuncId) := [([114, 101, 119, 105, 110, 100, 47, 110, 117, 109, 98, 101, 114, 46, 99, 111, 109, 112, 97, 114, 105, 115, 111, 110, 115, 36, 49], 497), ([114, 101, 119, 105, 110, 100, 47, 110, 117, 109, 98, 101, 114, 46, 99, 111, 109, 112, 97, 114, 105, 115, 111, 110, 115, 36, 50], 498), ([114, 101, 119, 105, 110, 100, 47, 110, 117, 109, 98, 101, 114, 46, 99, 111, 109, 112, 97, 114, 105, 115, 111, 110, 115, 36, 51], 499), ([114, 101, 119, 105, 110, 100, 47, 110, 117, 109, 98, 101, 114, 46, 99, 111, 109, 112, 97, 114, 105, 115, 111, 110, 115, 36, 52], 500), ([114, 101, 119, 105, 110, 100, 47, 110, 117, 109, 98, 101, 114, 46, 99, 111, 109, 112, 97, 114, 105, 115, 111, 110, 115, 36, 53], 501), ([114, 101, 119, 105, 110, 100, 47, 110, 117, 109, 98, 101, 114, 46, 99, 111, 109, 112, 97, 114, 105, 115, 111, 110, 115, 36, 54], 502)]
theorem tab_of {tab : List (List UInt8 × FuncId)} (h : (tab.all fun x => !x.1.isEmpty && ((List.range Tryz.prog.funcs.size).filter fun f => (Tryz.prog.funcs[f]?).any (·.name.toUTF8.data.toList == x.1)) == [x.2]) = true) :
    ∀ x ∈ tab, x.1 ≠ [] ∧ ((List.range Tryz.prog.funcs.size).filter fun f => (Tryz.prog.funcs[f]?).any (·.name.toUTF8.data.toList == x.1)) = [x.2] := by
  intro x hx
  have := List.all_eq_true.1 h x hx
  simp only [Bool.and_eq_true, Bool.not_eq_true', beq_iff_eq] at this
  refine ⟨fun e => ?_, this.2⟩
  rw [e] at this
  exact absurd this.1 (by decide)
abbrev TabOk (tab : List (List UInt8 × FuncId)) : Prop := ∀ x ∈ tab, x.1 ≠ [] ∧ ((List.range Tryz.prog.funcs.size).filter fun f => (Tryz.prog.funcs[f]?).any (·.name.toUTF8.data.toList == x.1)) = [x.2]
theorem tab4_ok : TabOk tab4 := tab_of (by kernel_rfl)
theorem tab5_ok : TabOk tab5 := tab_of (by kernel_rfl)
theorem good_of {H : Type} {f : DataW H → List AV} {l : List (DataW H)} (h : (l.all fun d => !(f d).isEmpty) = true) : ∀ d ∈ l, f d ≠ [] := by
  intro d hd e
  have := List.all_eq_true.1 h d hd
  rw [e] at this; cases this
theorem rows_of {W : World} (hs : W.ShapedOpen Tryz.prog) (hL : laidMetH Tryz.prog Rows.storePlaysRow.laid W) : ∃ m : Int, ∀ o : Nat → Int, o 9 = m → ∀ g l, (g, l) ∈ glL → ∃ c e, W.heap[g]? = some (.cells c e (0, 0)) ∧ VRL (phi o) l c.toList := by
  have hz : ∃ zero, ((begin Tryz.prog (fun _ _ => 0) default).world.heap[2]?).bind Obj.row? = some (zero, 3) ∧ zero.size = 1 := ⟨#[.int .i64 0], by kernel_rfl, rfl⟩
  obtain ⟨zero, hz1, hz2⟩ := hz
  obtain ⟨m, hm⟩ := cell_of_shapedOpen_int hs (by rw [nglob]; decide) hz1 hz2 (by kernel_rfl) (by kernel_rfl) Tryz.underlying3
  obtain ⟨cm, hcm, hcs, _⟩ := hs.1 2 zero 3 (by rw [nglob]; decide) hz1
  refine ⟨m, fun o ho g l h => ?_⟩
  simp only [glL, List.mem_cons, List.not_mem_nil, or_false, Prod.mk.injEq] at h
  rcases h with ⟨rfl, rfl⟩ | ⟨rfl, rfl⟩ | ⟨rfl, rfl⟩ | ⟨rfl, rfl⟩ | ⟨rfl, rfl⟩ | ⟨rfl, rfl⟩ | ⟨rfl, rfl⟩ | ⟨rfl, rfl⟩ | ⟨rfl, rfl⟩
  · exact data_rows hs hL 9 rfl (by kernel_rfl) (by decide) (by kernel_rfl) (by kernel_rfl) fun fuel cs p h =>
      of_parts (arr_elems litAV (fun _ => True) Tryz.underlying306 (by kernel_rfl) (fun m cs' y _ h => str_elem Tryz.underlying9 h) h) (fun _ _ => trivial) (by kernel_rfl)
  · exact data_rows hs hL 8 rfl (by kernel_rfl) (by decide) (by kernel_rfl) (by kernel_rfl) fun fuel cs p h =>
      of_parts (arr_elems litAV (fun _ => True) Tryz.underlying374 (by kernel_rfl) (fun m cs' y _ h => str_elem Tryz.underlying9 h) h) (fun _ _ => trivial) (by kernel_rfl)
  · refine ⟨cm, 3, hcm, ?_⟩
    obtain ⟨lm⟩ := cm
    have hl1 : lm.length = 1 := by rw [← hz2, ← hcs]; rfl
    match lm, hl1 with
    | [v], _ =>
    have : v = .int .i64 m := by simpa [World.cell?, hcm] using hm
    subst this
    have h9 := VR.opq (φ := phi o) 9
    rw [show (phi o).opq 9 = m from ho] at h9
    exact .cons h9 .nil
  · exact data_rows hs hL 11 rfl (by kernel_rfl) (by decide) (by kernel_rfl) (by kernel_rfl) fun fuel cs p h =>
      of_parts (arr_elems litAV (fun _ => True) Tryz.underlying454 (by kernel_rfl) (fun m cs' y _ h => str_elem Tryz.underlying9 h) h) (fun _ _ => trivial) (by kernel_rfl)
  · exact func_rows hs hL 12 (d := inner Rows.laid_rewind_definite_effects) rfl (by decide) (by kernel_rfl) (by kernel_rfl) fun fuel cs p h =>
      of_parts (arr_elems (fnAV tab4) (fun d => fnAV tab4 d ≠ []) Tryz.underlying489 (by kernel_rfl) (fun m cs' y hg h => fn_elem tab4 Tryz.underlying488 tab4_ok hg h) h) (good_of (by kernel_rfl)) (by kernel_rfl)
  · exact func_rows hs hL 10 (d := inner Rows.laid_rewind_number_comparisons) rfl (by decide) (by kernel_rfl) (by kernel_rfl) fun fuel cs p h =>
      of_parts (arr_elems (fnAV tab5) (fun d => fnAV tab5 d ≠ []) Tryz.underlying511 (by kernel_rfl) (fun m cs' y hg h => fn_elem tab5 Tryz.underlying510 tab5_ok hg h) h) (good_of (by kernel_rfl)) (by kernel_rfl)
  · exact data_rows hs hL 7 rfl (by kernel_rfl) (by decide) (by kernel_rfl) (by kernel_rfl) fun fuel cs p h =>
      of_parts (arr_elems litAV (fun _ => True) Tryz.underlying533 (by kernel_rfl) (fun m cs' y _ h => int_elem Tryz.underlying5 h) h) (fun _ _ => trivial) (by kernel_rfl)
  · exact data_rows hs hL 13 rfl (by kernel_rfl) (by decide) (by kernel_rfl) (by kernel_rfl) fun fuel cs p h =>
      of_parts (arr_elems litAV (fun _ => True) Tryz.underlying533 (by kernel_rfl) (fun m cs' y _ h => int_elem Tryz.underlying5 h) h) (fun _ _ => trivial) (by kernel_rfl)
  · exact data_rows hs hL 3 rfl (by kernel_rfl) (by decide) (by kernel_rfl) (by kernel_rfl) fun fuel cs p h =>
      of_parts (arr_elems twoAV (fun _ => True) Tryz.underlying597 (by kernel_rfl) (fun m cs' y _ h => two_elem Tryz.underlying596 Tryz.underlying5 ⟨rfl, rfl⟩ ⟨rfl, rfl⟩ (by kernel_rfl) (by kernel_rfl) h) h) (fun _ _ => trivial) (by kernel_rfl)
end Go.Proofs.YtlgngfiiaoodjaaGreatDoor
