/- Arguments of a call, as the evaluator takes them: values that nobody looks at, slices that nobody looks into. -/
import Derived.Test.YtlgngfiiaoodjaaGreatDoorEvLaid
import Derived.WideShapes
import Derived.Carry
set_option linter.unusedVariables false
set_option linter.unusedSimpArgs false
namespace Go.Ev
open Go.WideShapes
section
variable {P : Program} {w : World} {r : Reach} {base : Nat} {φ : Phi}
theorem cell_one {u : TypeId} {v : Value} (h : Cell.okWide P w r base u v) : (∀ a, v ≠ .agg a) ∧ (∀ a, v ≠ .tuple a) := by
  constructor
  · rintro a rfl
    unfold Cell.okWide at h
    split at h
    all_goals first
      | (rename_i hh; cases hh; done)
      | (unfold Cell.ok at h; split at h <;> first | (rename_i hh; cases hh; done) | exact h)
  · rintro a rfl
    unfold Cell.okWide at h
    split at h
    all_goals first
      | (rename_i hh; cases hh; done)
      | (unfold Cell.ok at h; split at h <;> first | (rename_i hh; cases hh; done) | exact h)
theorem struct_arg {t : TypeId} {fs : Array Field} {v : Value} (ht : P.underlying t = some (.struct fs)) (h : Value.okWide P w r base t v) :
    ∃ cs : Array Value, v = .agg cs ∧ cs.size = P.cellsOf t ∧ ∀ x ∈ cs.toList, (∀ a, x ≠ .agg a) ∧ (∀ a, x ≠ .tuple a) := by
  unfold Value.okWide at h
  rw [ht] at h
  obtain ⟨cs, rfl, hs, ts, _, _, hc⟩ := h
  refine ⟨cs, rfl, hs, fun x hx => ?_⟩
  obtain ⟨i, hi⟩ := List.getElem?_of_mem hx
  obtain ⟨u, _, hu⟩ := hc i x (by rw [← Array.getElem?_toList]; exact hi)
  exact cell_one hu
theorem anys : ∀ (l : List Value), (∀ x ∈ l, (∀ a, x ≠ .agg a) ∧ (∀ a, x ≠ .tuple a)) → VRL φ (List.replicate l.length .any) l
  | [], _ => .nil
  | x :: l, h => .cons (.any (h x (List.mem_cons_self ..)).1 (h x (List.mem_cons_self ..)).2) (anys l fun y hy => h y (List.mem_cons_of_mem _ hy))
theorem anys_of {cs : Array Value} {n : Nat} (hn : cs.size = n) (h : ∀ x ∈ cs.toList, (∀ a, x ≠ .agg a) ∧ (∀ a, x ≠ .tuple a)) : VRL φ (List.replicate n .any) cs.toList := by
  have := anys (φ := φ) cs.toList h
  rw [Array.length_toList, hn] at this
  exact this
theorem slice_arg {t e : TypeId} {v : Value} (ht : P.underlying t = some (.slice e)) (h : Value.okWide P w r base t v) :
    ∃ (p : Option Addr) (n c : Nat), v = .slice p n c ∧ n ≤ c ∧ (p = none → n = 0 ∧ c = 0) := by
  obtain ⟨a, n, c, rfl⟩ := okWide_slice ht h
  unfold Value.okWide at h
  rw [ht] at h
  simp only [Cell.okWide, ht, Cell.ok] at h
  cases a with
  | none =>
    have h0 : n = 0 ∧ c = 0 := by
      cases n with
      | zero => cases c with
        | zero => exact ⟨rfl, rfl⟩
        | succ c => simp at h
      | succ n => simp at h
    obtain ⟨rfl, rfl⟩ := h0
    exact ⟨none, 0, 0, rfl, Nat.le_refl _, fun _ => ⟨rfl, rfl⟩⟩
  | some a => exact ⟨some a, n, c, rfl, by simpa using h.1, fun e => by cases e⟩
theorem slice_cell {u e : TypeId} {v : Value} (hu : P.underlying u = some (.slice e)) (h : Cell.okWide P w r base u v) :
    ∃ (p : Option Addr) (n c : Nat), v = .slice p n c ∧ n ≤ c ∧ (p = none → n = 0 ∧ c = 0) :=
  slice_arg (P := P) (w := w) (r := r) (base := base) hu (by unfold Value.okWide; rw [hu]; exact h)
/-- a struct of three cells, the last of them a slice -/
theorem struct3_arg {t a b c e : TypeId} {fs : Array Field} {v : Value} (ht : P.underlying t = some (.struct fs)) (hty : P.cellTypes P.depth t = some [a, b, c]) (hn : P.cellsOf t = 3) (hc : P.underlying c = some (.slice e)) (h : Value.okWide P w r base t v) :
    ∃ (x y : Value) (p : Option Addr) (n k : Nat), v = .agg #[x, y, .slice p n k] ∧ ((∀ a, x ≠ .agg a) ∧ (∀ a, x ≠ .tuple a)) ∧ ((∀ a, y ≠ .agg a) ∧ (∀ a, y ≠ .tuple a)) ∧ n ≤ k ∧ (p = none → n = 0 ∧ k = 0) := by
  unfold Value.okWide at h
  rw [ht] at h
  obtain ⟨cs, rfl, hs, ts, hts, _, hcell⟩ := h
  rw [hty] at hts; cases hts
  rw [hn] at hs
  obtain ⟨l⟩ := cs
  match l, hs with
  | [x, y, z], _ =>
  obtain ⟨u0, h0, k0⟩ := hcell 0 x rfl
  obtain ⟨u1, h1, k1⟩ := hcell 1 y rfl
  obtain ⟨u2, h2, k2⟩ := hcell 2 z rfl
  have e2 : u2 = c := by simpa using h2.symm
  subst e2
  obtain ⟨p, n, k, rfl, g1, g2⟩ := slice_cell hc k2
  exact ⟨x, y, p, n, k, rfl, cell_one k0, cell_one k1, g1, g2⟩
end
end Go.Ev
