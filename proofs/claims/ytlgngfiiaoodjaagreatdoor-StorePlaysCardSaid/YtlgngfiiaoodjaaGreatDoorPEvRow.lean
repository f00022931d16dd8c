/- StorePlays's row: for every n and way, in every world that fits, the law returns true and leaves everything as it was. -/
import Derived.Test.YtlgngfiiaoodjaaGreatDoorPEvRows
import Derived.Test.YtlgngfiiaoodjaaGreatDoorPEvFacts
import Derived.Test.YtlgngfiiaoodjaaGreatDoorPEvWitA
import Derived.Test.YtlgngfiiaoodjaaGreatDoorPEvWitC
import Derived.Test.YtlgngfiiaoodjaaGreatDoorPEvWitD
import Derived.Test.YtlgngfiiaoodjaaGreatDoorPEvWitE
import Derived.ProofKit
import Derived.Test.YtlgngfiiaoodjaaGreatDoorEvArgs
import Derived.Carry
import Derived.Test.YtlgngfiiaoodjaaGreatDoorStHands
import Derived.Stop.Joined
set_option linter.unusedVariables false
set_option linter.unusedSimpArgs false
namespace Go.Proofs.YtlgngfiiaoodjaaGreatDoor
open Go Go.ChangeShapes Go.WideShapes Go.ChangeAt Go.RowKit
theorem handed_and_shaped {H : Type} {enc : TypeId × Value → H} {a : Assume} {C : Checked} {os : Os} {f : FuncId} {fn : Func} {s : ChangeSpec} {conds : List PathCond} {apart fresh handsOn again : Bool} {X : World → Array Value → Prop}
    (hX : ∀ (w w' : World) (args : Array Value), w.heap = w'.heap → X w args → X w' args)
    (own : ownKnob C.prog.godebug = none) (started : os.Started) (noInit : C.prog.inits.idxOf? f = none) (hfn : C.prog.funcs[f]? = some fn)
    (witness : ∃ (w : World) (tape : Tape) (i : Input), w.os = os ∧ (w.forCall tape i).Shaped C.prog ∧ i.vars = [] ∧ Input.okWide C.prog (w.forCall tape i) .any w.heap.size f i ∧
      ((s.pre enc C.prog fn conds apart (w.forCall tape i).memory i.args ∧ X (w.forCall tape i).memory i.args) ∧ sizedMet enc C.prog fn (OpenSpec.ofChange s) apart (w.forCall tape i).memory i.args) ∧ a.holds C.prog (lone (Frame.enter C.prog f i.args .normal) [] (w.forCall tape i)))
    (contract : ∀ (W : World) (base : Nat) (args : Array Value) (ds gs : List (DataW H)) (before : List MemPlace),
      (∀ (j : Nat) t v, fn.params[j]? = some t → args[j]? = some v → Value.okWide C.prog W .any base t v) →
      DataW.Whole enc C.prog fn.params.toList s.vars apart W args.toList ds gs before → W.ShapedOpen C.prog → X W args →
      Calls C.prog f args W fun e W' => ∃ v, e = .returned v ∧ s.post enc C.prog fn apart fresh handsOn again W args v W') :
    ReturnsInHanded a C os f .any (fun w args => (s.pre enc C.prog fn conds apart w args ∧ X w args) ∧ sizedMet enc C.prog fn (OpenSpec.ofChange s) apart w args) (s.post enc C.prog fn apart fresh handsOn again) := by
  refine returnsInHanded_of_calls own started noInit witness ?_
  intro w tape i _ hsh _ hok hpre _
  obtain ⟨_, _, _, fn', hfn', _, _, _, _, hval⟩ := hok
  have e : fn' = fn := Option.some.inj (hfn'.symm.trans hfn)
  subst e
  obtain ⟨⟨⟨ds, gs, before, hw, _⟩, hx⟩, _⟩ := hpre
  have hw' := DataW.Whole.of_heap (w' := w.forCall tape i) (by rfl) hw
  refine (contract (w.forCall tape i) w.heap.size i.args ds gs before hval hw' hsh (hX _ _ _ (by rfl) hx)).mono fun e W' ⟨v, he, hp⟩ => ?_
  subst he
  exact ChangeSpec.post_blind hp
theorem own : ownKnob Tryz.prog.godebug = none := by kernel_rfl
theorem wit_met (os : Os) : laidMetH Tryz.prog Rows.storePlaysRow.laid (witW os).memory :=
  laidMetH_of_parts3 (fuel := 8) (wit_laid os) (wit_handles os) (wit_funcs os)
set_option maxRecDepth 100000 in
theorem lifted (os : Os) (started : os.Started) (H : Type) (enc : TypeId × Value → H) :
    ReturnsInHanded {} Tryz.checked os 7 .any (fun w args => (Rows.storePlaysSpec.pre enc Tryz.prog Tryz.f7 [] false w args ∧ laidMetH Tryz.prog Rows.storePlaysRow.laid w) ∧ sizedMet enc Tryz.prog Tryz.f7 (OpenSpec.ofChange Rows.storePlaysSpec) false w args)
      (Rows.storePlaysSpec.post enc Tryz.prog Tryz.f7 false true false false) := by
  refine handed_and_shaped (C := Tryz.checked) (X := fun w _ => laidMetH Tryz.prog Rows.storePlaysRow.laid w) (fun _ _ _ hh h => h.of_heap hh) own started (by kernel_rfl) Tryz.func7
    (ChangeSpec.witness_shaped (enc := enc) (C := Tryz.checked) (os := os) (X := fun w _ => laidMetH Tryz.prog Rows.storePlaysRow.laid w) false (wit os) witArgs 8 (wit_os os) (wit_shaped os) (wit_ok os) (wit_pre enc os) (wit_sized enc os) (wit_met os)) ?_
  intro W base args ds gs before hval0 hW hsh hL
  have hval : ∀ (j : Nat) t v, Tryz.f7.params[j]? = some t → args[j]? = some v → Value.okWide Tryz.prog W .any base t v := hval0
  have hW' := hW
  obtain ⟨p, q, hA0, hV, rfl, hfz, hnd⟩ := hW
  have hA : DataW.TrodAll enc Tryz.prog W 0 (fun _ => true) true Tryz.f7.params.toList args.toList ds p := hA0
  rw [Tryz.params7] at hA hval
  obtain ⟨m, hrows⟩ := rows_of hsh hL
  have hr1 : ∀ W1, Below W.heap.size W W1 → ∀ g l, (g, l) ∈ Ev.glL → ∃ c e, W1.heap[g]? = some (.cells c e (0, 0)) ∧ Ev.VRL (Ev.phi fun _ => m) l c.toList := fun W1 hb g l h => by
    obtain ⟨c, e, h1, h2⟩ := hrows (fun _ => m) rfl g l h
    exact ⟨c, e, (hb.block g (Array.getElem?_eq_some_iff.1 h1).1).trans h1, h2⟩
  obtain ⟨d0, d1, d2, rfl, hcalls, hback⟩ := St.plays_handed (b0 := base) hA hval (fun W' v d ps hb h => Below.trod laidOut (by kernel_rfl) (of_decide_eq_true (by kernel_rfl)) h hb (by obtain ⟨k, hk⟩ := h; exact DataW.trod_lt k _ _ _ hk)) (fun W1 hb => Ev.law_callsA (fun _ => m) .nil (hr1 W1 hb)) (fun W1 hb => Ev.snaps_calls6 (fun _ => m) (hr1 W1 hb))
  obtain ⟨rfl, rfl⟩ := trodVars_none hV
  clear hA0 hval0
  simp only [List.append_nil] at hW'
  refine hcalls.mono fun e W' ⟨he, hk⟩ => ?_
  subst he
  refine ⟨_, rfl, _, _, _, [], p, [], hW', ?_, ?_, rfl, hk.frame _, fun h => by cases h⟩
  · exact trodAll_mk1 (shut_bool Tryz.underlying4 _)
  · exact hback W' hk
theorem row_named : Tryz.pinned.checked.prog.funcNamed Rows.storePlaysRow.func = some 7 := by kernel_rfl
theorem row_inst : Tryz.f7.isInstance Tryz.pinned.checked.prog Rows.storePlaysRow.origin Rows.storePlaysRow.targs := of_decide_eq_true (by kernel_rfl)
theorem row_plain : Tryz.f7.isWrapper Tryz.pinned.checked.prog Rows.storePlaysRow.wrapper Rows.storePlaysRow.mainSum := by
  unfold Func.isWrapper
  first | (rw [if_pos (by decide +kernel)]; kernel_rfl) | (rw [if_neg (by decide +kernel)]; exact ⟨rfl, rfl⟩)
theorem row_holds : Rows.StorePlaysSaid :=
  OpenClaim.holds_of_wide 7 Tryz.f7 rfl rfl rfl rfl rfl rfl rfl ⟨rfl, rfl, rfl, rfl, rfl⟩ rfl rfl rfl rfl rfl row_named Tryz.func7 facts row_inst row_plain
    (fun os started H enc _ => lifted os started H enc)
end Go.Proofs.YtlgngfiiaoodjaaGreatDoor
