/- The listed variables, read in two parts. -/
import Derived.LaidOnce
import Derived.LaidLaws
import Derived.LaidByTextLater
import Derived.LaidSub
set_option linter.unusedVariables false
set_option linter.unusedSimpArgs false
namespace Go.Ev
open Go
theorem laidRun_append {P : Program} {w : World} {fuel : Nat} : ∀ {a b : List String} {x y : List (String × DataW Unit) × List MemPlace}, DataW.laidRun P w fuel a = some x → DataW.laidRun P w fuel b = some y →
    DataW.laidRun P w fuel (a ++ b) = some (x.1 ++ y.1, x.2 ++ y.2)
  | [], b, x, y, h, h' => by
    simp only [DataW.laidRun, Option.some.injEq] at h
    subst h
    simpa using h'
  | n :: ns, b, x, y, h, h' => by
    simp only [List.cons_append, DataW.laidRun] at h ⊢
    split at h
    · next g hg =>
      split at h
      · next t cs ht hc =>
        split at h
        · next u v hu hv =>
          cases h
          simp only [hg, ht, hc, hu, laidRun_append hv h', List.append_assoc, List.cons_append]
        · cases h
      · cases h
    · cases h
def plIn (G : List Nat) (ng : Nat) : MemPlace → Bool
  | .cell b _ => Nat.ble ng b || G.any (Nat.beq b)
  | .map b => Nat.ble ng b || G.any (Nat.beq b)
theorem laidMet_of_two {P : Program} {w : World} {fuel M ng : Nat} {G : List Nat} {l1 l2 : List (String × DataW Unit)}
    (h1 : (DataW.laidRun P w fuel (l1.map (·.1))).map (fun x => (x.1, nodupBits M x.2 0 && laidRowsB P w x.2 && x.2.all (plIn G ng))) = some (l1, true))
    (h2 : (DataW.laidRun P w fuel (l2.map (·.1))).map (fun x => (x.1, nodupBits M x.2 0 && laidRowsB P w x.2 && x.2.all (fun p => !(plIn G ng p)))) = some (l2, true)) : laidMet P (l1 ++ l2) w := by
  simp only [Option.map_eq_some_iff, Prod.mk.injEq, Bool.and_eq_true] at h1 h2
  obtain ⟨x, hx, e1, ⟨n1, r1⟩, i1⟩ := h1
  obtain ⟨y, hy, e2, ⟨n2, r2⟩, i2⟩ := h2
  refine laidMet_of_run (ps := x.2 ++ y.2) fuel ?_ (decide_eq_true ?_) ?_
  · rw [List.map_append, laidRun_append hx hy, e1, e2]
  · refine List.nodup_append.2 ⟨(nodupBits_sound n1).1, (nodupBits_sound n2).1, fun p hp q hq he => ?_⟩
    subst he
    have g1 := List.all_eq_true.1 i1 p hp
    have g2 := List.all_eq_true.1 i2 p hq
    rw [g1] at g2
    cases g2
  · unfold laidRowsB at r1 r2 ⊢
    rw [List.all_append, r1, r2]; rfl
/-- the types, in parts -/
theorem laidOut_of {P : Program} {n : Nat} (hn : P.types.size = n) (ht : ∀ t, t < n → rowFine P t = true) (hg : (P.globals.all fun g => decide (g.type < P.types.size)) = true) (hf : (P.funcs.all fun f => f.params.all fun t => decide (t < P.types.size)) = true) : laidOutB P = true := by
  unfold laidOutB
  rw [hg, hf, Bool.and_true, Bool.and_true]
  exact List.all_eq_true.2 fun t h => ht t (by rw [← hn]; exact List.mem_range.1 h)
theorem in_part {P : Program} {a m : Nat} (h : ((List.range' a m).all (rowFine P)) = true) (t : Nat) (h1 : a ≤ t) (h2 : t < a + m) : rowFine P t = true :=
  List.all_eq_true.1 h t (List.mem_range'_1.2 ⟨h1, h2⟩)
/-- what the door's run leaves -/
noncomputable def doorRun (P : Program) (n : Nat) (os : Os) (tape : Tape) := runN P n (Machine.entering P (World.unlaid P os) tape (varsId P) ⟨#[], #[], []⟩)
noncomputable def doorW (P : Program) (n : Nat) (os : Os) (tape : Tape) : World := match doorRun P n os tape with | .ended (.done _) w => w | _ => World.unlaid P os
noncomputable def doorDone (P : Program) (n : Nat) (os : Os) (tape : Tape) : Bool := match doorRun P n os tape with | .ended (.done _) _ => true | _ => false
theorem laidByText_parts {P : Program} {laid : List (String × DataW Unit)} {kinds : List LaidKind} {tests : Bool} (n fuel M k ng : Nat) (G : List Nat)
    (hw : P.worded (varsWordLater tests) = true) (hw' : P.worded (varsWordLater !tests) = false) (hroot : P.worded rootWordLater = true) (hk : laid.map (fun x => P.kindOfLater x.1) = kinds.map some)
    (hg : (P.funcNamed "gosem.cut.vars").isSome = true)
    (hn : varsNamedLaterB P (varsId P) laid = true)
    (he : ∀ os tape, doorDone P n os tape = true)
    (h1 : ∀ os tape, (DataW.laidRun P (doorW P n os tape).memory fuel (((laid.filter fun x => x.2.handleName?.isNone).take k).map (·.1))).map (fun x => (x.1, nodupBits M x.2 0 && laidRowsB P (doorW P n os tape).memory x.2 && x.2.all (plIn G ng))) = some ((laid.filter fun x => x.2.handleName?.isNone).take k, true))
    (h2 : ∀ os tape, (DataW.laidRun P (doorW P n os tape).memory fuel (((laid.filter fun x => x.2.handleName?.isNone).drop k).map (·.1))).map (fun x => (x.1, nodupBits M x.2 0 && laidRowsB P (doorW P n os tape).memory x.2 && x.2.all (fun p => !(plIn G ng p)))) = some ((laid.filter fun x => x.2.handleName?.isNone).drop k, true))
    (hh : ∀ os tape, (laid.filter fun x => x.2.handleName?.isSome && x.2.funcsIn?.isNone).all (handleAtB P (doorW P n os tape).memory) = true)
    (hf : ∀ os tape, funcsRun P (doorW P n os tape).memory fuel ((funcsListed laid).map (·.1)) = some ((funcsListed laid).map (·.2.funcsOut))) :
    P.laidByTextLater laid kinds tests := by
  unfold varsNamedLaterB at hn
  cases hc : (P.funcs[varsId P]?).bind (·.body) with
  | none => simp [hc] at hn
  | some code =>
   cases hs : code.laysInOrder [] with
   | none => simp [hc, hs] at hn
   | some stored =>
    simp only [hc, hs, Bool.and_eq_true] at hn
    refine ⟨⟨hw, hw', hroot, hk⟩, varsId P, code, stored, varsId_spec hg, hc, ⟨hs, hn.1.1, hn.1.2⟩, hn.2, fun os tape _ => ?_⟩
    have d := he os tape
    unfold doorDone at d
    split at d
    · rename_i v w hr
      have hW : doorW P n os tape = w := by unfold doorW; rw [hr]
      refine ⟨n, v, w, hr, ?_⟩
      have hm := laidMet_of_two (h1 os tape) (h2 os tape)
      rw [List.take_append_drop] at hm
      have h3 := hh os tape
      have h4 := hf os tape
      rw [hW] at hm h3 h4
      exact laidMetH_of_parts3 (fuel := fuel) hm h3 h4
    · cases d
end Go.Ev
