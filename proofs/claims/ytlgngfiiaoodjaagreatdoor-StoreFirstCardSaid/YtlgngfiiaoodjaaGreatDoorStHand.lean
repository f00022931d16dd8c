/- The walks of StoreKeeps and StoreFirst, at the arguments that a row hands. -/
import Derived.Test.YtlgngfiiaoodjaaGreatDoorStFirsts
import Derived.Carry
set_option linter.unusedVariables false
set_option linter.unusedSimpArgs false
namespace Go.St
open Go Go.Proofs Go.RowKit Go.Maps Go.Shelf Go.ChangeShapes Go.WideShapes
theorem under5 : Tryz.prog.underlying 5 = some (.int .u8) := Tryz.underlying5
set_option maxRecDepth 100000 in
theorem keeps_handed {H : Type} {enc : TypeId × Value → H} {W : World} {b0 : Nat} {args : Array Value} {ds : List (DataW H)} {p : List MemPlace} (hA : DataW.TrodAll enc Tryz.prog W 0 (fun _ => true) true [5, 5, 5, 22] args.toList ds p)
    (hval : ∀ (j : Nat) t v, (#[5, 5, 5, 22] : Array TypeId)[j]? = some t → args[j]? = some v → Value.okWide Tryz.prog W .any b0 t v)
    (hw : ∀ W1, Below W.heap.size W W1 → Calls Tryz.prog 13 #[] W1 (WorksE W1)) (hsn : ∀ W1, Below W.heap.size W W1 → Calls Tryz.prog 9 #[.int .i64 3] W1 (SnapsE W1 3)) :
    ∃ d0 d1 d2 d3, ds = [d0, d1, d2, d3] ∧ p = [] ∧ Calls Tryz.prog 3 args W (LawE W) ∧ ∀ W', Below W.heap.size W W' → DataW.TrodAll enc Tryz.prog W' 0 (fun b => decide (b < W.heap.size)) true [5, 5, 5, 22] args.toList ds [] := by
  obtain ⟨v0, v1, v2, v3, d0, d1, d2, d3, p0, p1, p2, p3, rfl, rfl, rfl, h0, h1, h2, h3⟩ := trodAll_four hA
  obtain ⟨a0, rfl, rfl, rfl, w0⟩ := open_int Tryz.underlying5 (hval 0 5 v0 rfl rfl) h0
  obtain ⟨a1, rfl, rfl, rfl, w1⟩ := open_int Tryz.underlying5 (hval 1 5 v1 rfl rfl) h1
  obtain ⟨a2, rfl, rfl, rfl, w2⟩ := open_int Tryz.underlying5 (hval 2 5 v2 rfl rfl) h2
  obtain ⟨a3, rfl, rfl, rfl, w3⟩ := open_int Tryz.underlying22 (hval 3 22 v3 rfl rfl) h3
  refine ⟨_, _, _, _, rfl, rfl, ?_, fun W' _ => ?_⟩
  · exact keeps_ok hw hsn (u8_bounds w0).1 (u8_bounds w0).2 (u8_bounds w1).1 (u8_bounds w1).2 (u8_bounds w2).1 (u8_bounds w2).2 (u16_bounds w3).1 (u16_bounds w3).2
  · exact trodAll_mk4 (shut_int Tryz.underlying5 w0) (shut_int Tryz.underlying5 w1) (shut_int Tryz.underlying5 w2) (shut_int Tryz.underlying22 w3)
set_option maxRecDepth 100000 in
theorem first_handed {H : Type} {enc : TypeId × Value → H} {W : World} {b0 : Nat} {args : Array Value} {ds : List (DataW H)} {p : List MemPlace} (hA : DataW.TrodAll enc Tryz.prog W 0 (fun _ => true) true [5, 5, 39] args.toList ds p)
    (hval : ∀ (j : Nat) t v, (#[5, 5, 39] : Array TypeId)[j]? = some t → args[j]? = some v → Value.okWide Tryz.prog W .any b0 t v)
    (hback : ∀ (W' : World) (v : Value) (d : DataW H) (ps : List MemPlace), Below W.heap.size W W' → DataW.Trod enc Tryz.prog W 0 (fun _ => true) true 39 v d ps → DataW.Trod enc Tryz.prog W' 0 (fun b => decide (b < W.heap.size)) true 39 v d ps)
    (hw : ∀ W1, Below W.heap.size W W1 → Calls Tryz.prog 13 #[] W1 (WorksE W1)) (hsn : ∀ W1, Below W.heap.size W W1 → Calls Tryz.prog 9 #[.int .i64 2] W1 (SnapsE W1 2)) :
    ∃ d0 d1 d2, ds = [d0, d1, d2] ∧ Calls Tryz.prog 4 args W (LawE W) ∧ ∀ W', Below W.heap.size W W' → DataW.TrodAll enc Tryz.prog W' 0 (fun b => decide (b < W.heap.size)) true [5, 5, 39] args.toList ds p := by
  obtain ⟨v0, v1, v2, d0, d1, d2, p0, p1, p2, rfl, rfl, rfl, h0, h1, h2⟩ := trodAll_three hA
  obtain ⟨a0, rfl, rfl, rfl, w0⟩ := open_int Tryz.underlying5 (hval 0 5 v0 rfl rfl) h0
  obtain ⟨a1, rfl, rfl, rfl, w1⟩ := open_int Tryz.underlying5 (hval 1 5 v1 rfl rfl) h1
  obtain ⟨us, hus⟩ := u16s_of h2 (by
    obtain ⟨a, n, c, rfl⟩ := okWide_slice Tryz.underlying39 (hval 2 39 v2 rfl rfl)
    exact ⟨a, n, c, rfl⟩)
  refine ⟨_, _, _, rfl, ?_, fun W' hb => ?_⟩
  · exact first_ok hw hsn (u8_bounds w0).1 (u8_bounds w0).2 (u8_bounds w1).1 (u8_bounds w1).2 hus
  · simpa using trodAll_mk3 (shut_int Tryz.underlying5 w0) (shut_int Tryz.underlying5 w1) (hback W' _ _ _ hb h2)
end Go.St
