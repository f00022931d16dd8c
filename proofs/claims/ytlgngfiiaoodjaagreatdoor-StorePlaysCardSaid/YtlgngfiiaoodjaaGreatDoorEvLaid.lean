/- From what a variable reads as to the evaluator's blocks. -/
import Derived.Test.YtlgngfiiaoodjaaGreatDoorEvSums
import Derived.ChangeArms
import Derived.OpenShut
import Derived.LaidMore
import Derived.ShapedOpen
import Derived.Lib.LaidU8
set_option linter.unusedVariables false
set_option linter.unusedSimpArgs false
namespace Go.Ev
section
variable {H : Type} {enc : TypeId × Value → H} {P : Program} {w : World} {base : Nat} {sp : Nat → Bool} {held : Bool} {φ : Phi}
/-- the cells of numbers and strings -/
def litAV : DataW H → List AV
  | .lit (.int k z) => [.int k z]
  | .lit (.string bs) => [.str bs.length (cl bs)]
  | _ => []
theorem int_elem {t : TypeId} {k : IntKind} (ht : P.underlying t = some (.int k)) {m : Nat} {cs : List Value} {x : DataW H × List MemPlace} (h : DataW.trod enc P w base sp held m t cs = some x) : VRL φ (litAV x.1) cs := by
  obtain ⟨n, rfl, rfl, _⟩ := DataW.trod_int ht h
  exact .cons (.int k n) .nil
theorem str_elem {t : TypeId} (ht : P.underlying t = some .string) {m : Nat} {cs : List Value} {x : DataW H × List MemPlace} (h : DataW.trod enc P w base sp held m t cs = some x) : VRL φ (litAV x.1) cs := by
  obtain ⟨s, rfl, rfl, _⟩ := DataW.trod_string ht h
  exact .cons (.str ⟨(bytes_length s).symm, codeOf_eq s⟩) .nil
/-- an array, element by element -/
theorem arr_elems {t e : TypeId} {n fuel : Nat} {cs : List Value} {x : DataW H × List MemPlace} (chunk : DataW H → List AV) (good : DataW H → Prop) (ht : P.underlying t = some (.array n e)) (hn : P.cellsOf t = n * P.cellsOf e)
    (hch : ∀ (m : Nat) (cs' : List Value) (y : DataW H × List MemPlace), good y.1 → DataW.trod enc P w base sp held m e cs' = some y → VRL φ (chunk y.1) cs')
    (h : DataW.trod enc P w base sp held fuel t cs = some x) : ∃ ds, x.1 = .agg ds ∧ ((∀ d ∈ ds, good d) → VRL φ (ds.flatMap chunk) cs) := by
  obtain ⟨xs, m, _, rfl, hl, hx, hel⟩ := DataW.trod_array ht h
  refine ⟨_, rfl, fun hgood => ?_⟩
  have key : ∀ (xs : List (DataW H × List MemPlace)) (k : Nat), (∀ y ∈ xs, good y.1) → (∀ i, i < xs.length → DataW.trod enc P w base sp held m e ((cs.drop ((k + i) * P.cellsOf e)).take (P.cellsOf e)) = xs[i]?) →
      VRL φ ((xs.map (·.1)).flatMap chunk) ((cs.drop (k * P.cellsOf e)).take (xs.length * P.cellsOf e)) := by
    intro xs
    induction xs with
    | nil => intro k _ _; simp; exact .nil
    | cons y xs ih =>
      intro k hg hk
      have h0 := hk 0 (by simp)
      simp only [Nat.add_zero, List.getElem?_cons_zero] at h0
      have h1 := ih (k + 1) (fun y hy => hg y (List.mem_cons_of_mem _ hy)) (fun i hi => by
        have := hk (i + 1) (by simp; omega)
        rw [List.getElem?_cons_succ] at this
        rw [show k + 1 + i = k + (i + 1) by omega]; exact this)
      rw [List.map_cons, List.flatMap_cons, List.length_cons, Nat.succ_mul, Nat.add_comm (xs.length * _), List.take_add, List.drop_drop, show k * P.cellsOf e + P.cellsOf e = (k + 1) * P.cellsOf e by rw [Nat.succ_mul]]
      exact (hch _ _ _ (hg y (List.mem_cons_self ..)) h0).append h1
  have h2 := key xs 0 (fun y hy => hgood _ (List.mem_map.2 ⟨y, hy, rfl⟩)) (fun i hi => by rw [Nat.zero_add]; exact hel i (hx ▸ hi))
  rw [Nat.zero_mul, List.drop_zero, hx, ← hn, ← hl, List.take_length] at h2
  exact h2
/-- the cells of a struct of two numbers -/
def twoAV : DataW H → List AV
  | .agg ds => ds.flatMap litAV
  | _ => []
theorem two_elem {t u : TypeId} {k : IntKind} {f g : Field} (ht : P.underlying t = some (.struct #[f, g])) (hu : P.underlying u = some (.int k)) (hf : f.type = u ∧ f.offset = 0) (hg : g.type = u ∧ g.offset = 1) (hc : P.cellsOf t = 2) (hcu : P.cellsOf u = 1)
    {m : Nat} {cs : List Value} {x : DataW H × List MemPlace} (h : DataW.trod enc P w base sp held m t cs = some x) : VRL φ (twoAV x.1) cs := by
  obtain ⟨xs, n, _, rfl, hl, hx, hel⟩ := DataW.trod_struct ht h
  have h0 := hel 0 f rfl
  have h1 := hel 1 g rfl
  rw [hc] at hl
  rw [hf.1, hf.2, hcu] at h0
  rw [hg.1, hg.2, hcu] at h1
  match xs, hx with
  | [a, b], _ =>
  match cs, hl with
  | [c, d], _ =>
  have e0 := int_elem (φ := φ) hu h0
  have e1 := int_elem (φ := φ) hu h1
  simpa [twoAV] using e0.append e1
/-- the cells of a short array of strings -/
theorem strs_elem {t u : TypeId} {n : Nat} (ht : P.underlying t = some (.array n u)) (hu : P.underlying u = some .string) (hn : P.cellsOf t = n * P.cellsOf u) {m : Nat} {cs : List Value} {x : DataW H × List MemPlace} (h : DataW.trod enc P w base sp held m t cs = some x) : VRL φ (twoAV x.1) cs := by
  obtain ⟨ds, hd, hv⟩ := arr_elems (φ := φ) litAV (fun _ => True) ht hn (fun m cs' y _ h => str_elem hu h) h
  rw [hd]
  exact hv fun _ _ => trivial
/-- the cells of a table of functions -/
def fnAV (tab : List (List UInt8 × FuncId)) : DataW (List UInt8) → List AV
  | .nil => [.nfn]
  | .held bs => (match tab.find? (fun x => x.1 == bs) with | some x => [.fn x.2 [] []] | none => [])
  | _ => []
theorem fn_elem {t : TypeId} {ps rs : Array TypeId} {va : Bool} (tab : List (List UInt8 × FuncId)) (ht : P.underlying t = some (.func ps rs va))
    (htab : ∀ x ∈ tab, x.1 ≠ [] ∧ ((List.range P.funcs.size).filter fun f => (P.funcs[f]?).any (·.name.toUTF8.data.toList == x.1)) = [x.2])
    {m : Nat} {cs : List Value} {x : DataW (List UInt8) × List MemPlace} (hne : fnAV tab x.1 ≠ []) (h : DataW.trod (funcToken P) P w base sp true m t cs = some x) : VRL φ (fnAV tab x.1) cs := by
  obtain ⟨d, q⟩ := x
  cases d with
  | nil =>
    cases m with
    | zero => simp [DataW.trod] at h
    | succ n =>
      unfold DataW.trod at h
      rw [ht] at h
      split at h <;> simp_all
      exact .cons .nfn .nil
  | held bs =>
    simp only [fnAV] at hne ⊢
    split at hne
    case h_2 => exact absurd rfl hne
    next x hx =>
    have hm := List.mem_of_find?_eq_some hx
    have hb : x.1 = bs := by simpa using List.find?_some hx
    subst hb
    obtain ⟨h1, h2⟩ := htab x hm
    have hcs : ∃ v, cs = [v] := by
      cases m with
      | zero => simp [DataW.trod] at h
      | succ n =>
        unfold DataW.trod at h
        rw [ht] at h
        split at h <;> simp_all
    obtain ⟨v, rfl⟩ := hcs
    obtain ⟨y, f⟩ := x
    cases y with
    | nil => exact absurd rfl h1
    | cons b r =>
      obtain rfl := func_of_trod (f0 := f) ht h2 h
      exact .cons (.fn f .nil .nil) .nil
  | _ => simp [fnAV] at hne
end
end Go.Ev
