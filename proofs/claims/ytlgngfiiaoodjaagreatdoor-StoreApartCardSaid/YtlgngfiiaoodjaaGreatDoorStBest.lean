/- The walk of package store: Best. -/
import Derived.Test.YtlgngfiiaoodjaaGreatDoorStWalks
set_option linter.unusedVariables false
set_option linter.unusedSimpArgs false
namespace Go.St
open Go Go.Proofs Go.RowKit Go.Maps Go.Shelf Go.Ev
attribute [local go_sem] Oper.semAt_some
def bestV (r : Option (Int × Value)) : Value := match r with | some p => .tuple #[.int .i64 p.1, p.2, .bool true] | none => .tuple #[.int .i64 0, .pointer none, .bool false]
def BestE (w : World) (r : Option (Int × Value)) (e : Ending) (w' : World) : Prop := e = .returned (bestV r) ∧ Below w.heap.size w w'

/-- the world in which Best asks for the indexes -/
def w5 (w : World) (sb : Nat) (i : Int) : World := ((((w.alloc (.cells #[.pointer (some ⟨sb, 0, none⟩)] 23)).alloc (.cells #[.int .i64 i] 3)).alloc (.cells #[.int .i64 0] 3)).alloc (.cells #[.pointer none] 31)).alloc (.cells #[.bool false] 4)
theorem w5_below (w : World) (sb : Nat) (i : Int) : Below w.heap.size w (w5 w sb i) := by
  unfold w5
  exact (((((Below.refl _ w).alloc (Nat.le_refl _) _).alloc (by simp) _).alloc (by simp; omega) _).alloc (by simp; omega) _).alloc (by simp; omega) _
theorem backward_ok (a : Option Addr) (n c : Nat) (w : World) : Calls Tryz.prog 32 #[.slice a n c] w fun e w' => e = .returned (.func (.func 55) #[] #[.pointer (some ⟨w.heap.size, 0, none⟩)]) ∧ w' = w.alloc (.cells #[.slice a n c] 32) := by
  go_enter Tryz.func32, Tryz.ntmps32
  go_wp2
  go_ret
  exact ⟨rfl, rfl⟩
/-- the cells of Best's own: the store, the index, the results -/
def BestC (N sb : Nat) (i : Int) (W : World) : Prop := W.cell? ⟨N, 0, none⟩ = some (.pointer (some ⟨sb, 0, none⟩)) ∧ W.cell? ⟨N + 1, 0, none⟩ = some (.int .i64 i) ∧
  (W.cell? ⟨N + 1 + 1, 0, none⟩ = some (.int .i64 0) ∧ W.frozen? ⟨N + 1 + 1, 0, none⟩ = false) ∧ (W.cell? ⟨N + 1 + 1 + 1, 0, none⟩ = some (.pointer none) ∧ W.frozen? ⟨N + 1 + 1 + 1, 0, none⟩ = false) ∧ (W.cell? ⟨N + 1 + 1 + 1 + 1, 0, none⟩ = some (.bool false) ∧ W.frozen? ⟨N + 1 + 1 + 1 + 1, 0, none⟩ = false)
theorem w5_cells (w : World) (sb : Nat) (i : Int) : BestC w.heap.size sb i (w5 w sb i) := by
  unfold BestC w5
  refine ⟨?_, ?_, ⟨?_, ?_⟩, ⟨?_, ?_⟩, ⟨?_, ?_⟩⟩ <;> go_simp
theorem BestC.below {N sb : Nat} {i : Int} {A B : World} (h : BestC N sb i A) {n : Nat} (hb : Below n A B) (hn : N + 5 ≤ n) : BestC N sb i B := by
  obtain ⟨h1, h2, ⟨h3, h3'⟩, ⟨h4, h4'⟩, ⟨h5, h5'⟩⟩ := h
  exact ⟨(hb.cell (p := ⟨N, 0, none⟩) (by show N < n; omega)).trans h1, (hb.cell (p := ⟨N + 1, 0, none⟩) (by show N + 1 < n; omega)).trans h2,
    ⟨(hb.cell (p := ⟨N + 1 + 1, 0, none⟩) (by show N + 1 + 1 < n; omega)).trans h3, (hb.frozen (p := ⟨N + 1 + 1, 0, none⟩) (by show N + 1 + 1 < n; omega)).trans h3'⟩,
    ⟨(hb.cell (p := ⟨N + 1 + 1 + 1, 0, none⟩) (by show N + 1 + 1 + 1 < n; omega)).trans h4, (hb.frozen (p := ⟨N + 1 + 1 + 1, 0, none⟩) (by show N + 1 + 1 + 1 < n; omega)).trans h4'⟩,
    ⟨(hb.cell (p := ⟨N + 1 + 1 + 1 + 1, 0, none⟩) (by show N + 1 + 1 + 1 + 1 < n; omega)).trans h5, (hb.frozen (p := ⟨N + 1 + 1 + 1 + 1, 0, none⟩) (by show N + 1 + 1 + 1 + 1 < n; omega)).trans h5'⟩⟩
theorem BestC.kept {N sb : Nat} {i : Int} {A B : World} {row : Option Nat} (h : BestC N sb i A) (hg : A.grownBy B row) (hr : ∀ r, row = some r → ∃ o : Obj, A.heap[r]? = some o ∧ o.isCells = false) : BestC N sb i B := by
  obtain ⟨h1, h2, ⟨h3, h3'⟩, ⟨h4, h4'⟩, ⟨h5, h5'⟩⟩ := h
  exact ⟨cell_kept h1 hg hr, cell_kept h2 hg hr, ⟨cell_kept h3 hg hr, (frozen_kept h3 hg hr).trans h3'⟩, ⟨cell_kept h4 hg hr, (frozen_kept h4 hg hr).trans h4'⟩, ⟨cell_kept h5 hg hr, (frozen_kept h5 hg hr).trans h5'⟩⟩
/-- what Best has left in its cells where it has found something -/
def Found (N : Nat) (k : Int) (v : Value) (W : World) : Prop := W.cell? ⟨N + 1 + 1, 0, none⟩ = some (.int .i64 k) ∧ W.cell? ⟨N + 1 + 1 + 1, 0, none⟩ = some v ∧ W.cell? ⟨N + 1 + 1 + 1 + 1, 0, none⟩ = some (.bool true)
theorem Found.kept {N : Nat} {k : Int} {v : Value} {A B : World} {row : Option Nat} (h : Found N k v A) (hg : A.grownBy B row) (hr : ∀ r, row = some r → ∃ o : Obj, A.heap[r]? = some o ∧ o.isCells = false) : Found N k v B :=
  ⟨cell_kept h.1 hg hr, cell_kept h.2.1 hg hr, cell_kept h.2.2 hg hr⟩
theorem found_of {W : World} {N : Nat} {k : Int} {v u1 u2 u3 : Value} (h1 : W.cell? ⟨N + 1 + 1, 0, none⟩ = some u1) (h2 : W.cell? ⟨N + 1 + 1 + 1, 0, none⟩ = some u2) (h3 : W.cell? ⟨N + 1 + 1 + 1 + 1, 0, none⟩ = some u3) :
    Found N k v (((W.setCell ⟨N + 1 + 1, 0, none⟩ (.int .i64 k)).setCell ⟨N + 1 + 1 + 1, 0, none⟩ v).setCell ⟨N + 1 + 1 + 1 + 1, 0, none⟩ (.bool true)).drew := by
  refine ⟨?_, ?_, ?_⟩ <;> go_simp
theorem none_of {W : World} {N : Nat} {u1 u2 u3 : Value} (h1 : W.cell? ⟨N + 1 + 1, 0, none⟩ = some u1) (h2 : W.cell? ⟨N + 1 + 1 + 1, 0, none⟩ = some u2) (h3 : W.cell? ⟨N + 1 + 1 + 1 + 1, 0, none⟩ = some u3) :
    (((W.setCell ⟨N + 1 + 1, 0, none⟩ (.int .i64 0)).setCell ⟨N + 1 + 1 + 1, 0, none⟩ (.pointer none)).setCell ⟨N + 1 + 1 + 1 + 1, 0, none⟩ (.bool false)).cell? ⟨N + 1 + 1, 0, none⟩ = some (.int .i64 0) ∧
    (((W.setCell ⟨N + 1 + 1, 0, none⟩ (.int .i64 0)).setCell ⟨N + 1 + 1 + 1, 0, none⟩ (.pointer none)).setCell ⟨N + 1 + 1 + 1 + 1, 0, none⟩ (.bool false)).cell? ⟨N + 1 + 1 + 1, 0, none⟩ = some (.pointer none) ∧
    (((W.setCell ⟨N + 1 + 1, 0, none⟩ (.int .i64 0)).setCell ⟨N + 1 + 1 + 1, 0, none⟩ (.pointer none)).setCell ⟨N + 1 + 1 + 1 + 1, 0, none⟩ (.bool false)).cell? ⟨N + 1 + 1 + 1 + 1, 0, none⟩ = some (.bool false) := by
  refine ⟨?_, ?_, ?_⟩ <;> go_simp
set_option maxRecDepth 100000 in
set_option maxHeartbeats 4000000 in
theorem best_row (F : Fence) (hF : F = Fence.wide) {sb mb : Nat} {d room i : Int} {l : List (Int × Value)} {w : World} (h : At w sb d room mb l) (hl0 : l ≠ []) :
    CallsIn F 7 Tryz.prog 12 #[.pointer (some ⟨sb, 0, none⟩), .int .i64 i] w (BestE w (best i l)) := by
  subst hF
  have hs := callsIn_wide (n := 6).2 (indexes_ok (h.below (w5_below w sb i)))
  have HC := Lib.hid (w5_cells w sb i)
  have HB := Lib.hid (w5_below w sb i)
  unfold w5 at hs HC HB
  refine callsIn_of_wp_marks Tryz.func12 rfl trivial ?_ rfl
  simp only [Tryz.ntmps12, List.size_toArray, List.length_cons, List.length_nil, Nat.reduceAdd, Nat.reduceSub, Array.replicate_succ, Array.replicate_zero, List.push_toArray, List.append_toArray, List.nil_append, List.cons_append]
  gi_wp2_with (first
    | (refine ⟨trivial, ?_⟩; gi_at_call 33; refine hs.mono ?_; rintro e w' ⟨v, rfl, hrow, hbl⟩)
    | (gi_at_call 33; refine hs.mono ?_; rintro e w' ⟨v, rfl, hrow, hbl⟩))
  rcases hrow with ⟨hv, hz⟩ | ⟨g, cap, hv, hne, hg, hgl, hcell⟩
  · exact absurd (List.map_eq_nil_iff.1 hz) hl0
  obtain ⟨m, hm⟩ : ∃ m, (keys l).length = m + 1 := ⟨(keys l).length - 1, by have := List.length_pos_iff.2 hne; omega⟩
  have HM := Lib.hid hm
  rw [hm] at hv
  clear hm
  subst hv
  have hN : w.heap.size + 5 ≤ w'.heap.size := by have := hbl.size; simp at this; omega
  have hC := BestC.below HC.out hbl (by simp)
  have hB := HB.out.trans (hbl.mono (by simp; omega))
  clear hbl hs
  gi_wp2_with (first
    | (refine ⟨trivial, ?_⟩; gi_at_call 32; refine (callsIn_wide.2 (backward_ok _ _ _ _)).mono ?_; rintro e w'' ⟨rfl, rfl⟩)
    | (gi_at_call 32; refine (callsIn_wide.2 (backward_ok _ _ _ _)).mono ?_; rintro e w'' ⟨rfl, rfl⟩))
  have hfew : m < 4096 := by have := HM.out; rw [keys_length] at this; have := h.few; omega
  have hcells : ∀ j, j ≤ m → (w'.alloc (.cells #[.slice (some ⟨g, 0, none⟩) (m + 1) cap] 32)).cell? ⟨g, j, none⟩ = some (.int .i64 (kth l j)) := fun j hj => by
    have hj' : j < (keys l).length := by rw [HM.out]; omega
    have e1 : (keys l)[j]? = some (kth l j) := by unfold kth; rw [List.getElem?_eq_getElem hj']; rfl
    exact cell_kept (hcell j _ e1) (World.grownBy_alloc w' _ none) (fun r e => by cases e)
  refine wpIn_rangeFunc_ownG rfl (by omega) (gf := 55) (lb := #[.pointer (some ⟨w'.heap.size, 0, none⟩)]) rfl trivial (enters_of Tryz.func55 (by kernel_rfl) rfl)
    (back_stops Fence.wide 6 trivial rfl (by omega) w'.heap.size (w'.heap.size + 1) g cap m (kth l) hfew (by omega) (by omega) _ (by simp) (cell_new1 _ _ _) hcells) belowK_t (belowK_b (by simp)) (Below.refl _ _) (fun _ => rfl)
    (fun pre W => ((∀ p ∈ pre, i < kth l p.1) ∧ BestC w.heap.size sb i W) ∧ Below w.heap.size w W)
    (fun c pre W => (c = .ret ∧ ∃ ini last, pre = ini ++ [last] ∧ (∀ p ∈ ini, i < kth l p.1) ∧ kth l last.1 ≤ i ∧ Found w.heap.size (kth l last.1) (at? (kth l last.1) l) W) ∧ Below w.heap.size w W)
    (OwnFrom.and (Own.from (fun s A B row hs hg hr => ⟨hs.1, hs.2.kept hg hr⟩) _) (ownFrom_below (Nat.le_refl _) (by simp; omega)))
    (fun c => OwnFrom.and (Own.from (fun s A B row hs hg hr => by obtain ⟨hc, ini, last, e1, e2, e3, e4⟩ := hs; exact ⟨hc, ini, last, e1, e2, e3, e4.kept hg hr⟩) _) (ownFrom_below (Nat.le_refl _) (by simp; omega)))
    ⟨⟨by simp, hC.kept (World.grownBy_alloc _ _ none) (fun r e => by cases e)⟩, hB.alloc (by omega) _⟩
    (fun x => { tmps := #[.pointer (some ⟨sb, 0, none⟩), .int .i64 i, .pointer (some ⟨w.heap.size, 0, none⟩), .pointer (some ⟨w.heap.size + 1, 0, none⟩), .pointer (some ⟨w.heap.size + 1 + 1, 0, none⟩), .pointer (some ⟨w.heap.size + 1 + 1 + 1, 0, none⟩), .pointer (some ⟨w.heap.size + 1 + 1 + 1 + 1, 0, none⟩), undef, .int .i64 (kth l x.1), .pointer (some ⟨sb, 0, none⟩), .slice (some ⟨g, 0, none⟩) (m + 1) cap, .func (.func 55) #[] #[.pointer (some ⟨w'.heap.size, 0, none⟩)], .int .i64 (x.1 : Int), .int .i64 (kth l x.1), undef, undef, undef, undef, undef, undef, undef, undef, undef, undef], defers := [] }) ?assign ?body ?done ?stop
  case assign =>
    intro lp x W K hK
    gi_wp2
    exact hK
  case body =>
    rintro lp pre x W ⟨⟨hp, hCW⟩, hBW⟩ _
    have hAW := h.below hBW
    have c2 := hAW.c2
    have hxl : x.1 < (keys l).length := by rw [HM.out]; exact x.2
    have hmem : ∃ v, (kth l x.1, v) ∈ l := by
      have h1 : (keys l)[x.1]? = some (kth l x.1) := by unfold kth; rw [List.getElem?_eq_getElem hxl]; rfl
      have h2 : kth l x.1 ∈ keys l := List.mem_of_getElem? h1
      obtain ⟨p, hp1, hp2⟩ := List.mem_map.1 h2
      exact ⟨p.2, by rw [← hp2]; exact hp1⟩
    have hwf : (Lit.int .i64 (kth l x.1)).wf = true := by obtain ⟨v, hv⟩ := hmem; exact (h.wf _ hv).2.1
    obtain ⟨av, hav⟩ : ∃ a, at? (kth l x.1) l = .pointer (some a) := by obtain ⟨v, hv⟩ := hmem; rw [at_of_mem h.inc hv]; exact (h.wf _ hv).2.2
    have HA := Lib.hid hav
    have hmne : mb ≠ w.heap.size + 1 + 1 := by have := h.own.lt; omega
    have hlk1 := look_ok (w := W.drew) hAW.own hwf
    have hlk2 := look_ok (w := (W.setCell ⟨w.heap.size + 1 + 1, 0, none⟩ (.int .i64 (kth l x.1))).drew) (hAW.own.setCell (a := ⟨w.heap.size + 1 + 1, 0, none⟩) hmne _) hwf
    have hlk3 := look_ok (w := W.drew.setCell ⟨w.heap.size + 1 + 1, 0, none⟩ (.int .i64 (kth l x.1))) (hAW.own.setCell (a := ⟨w.heap.size + 1 + 1, 0, none⟩) hmne _) hwf
    rw [hav] at hlk1 hlk2 hlk3
    obtain ⟨d1, d2, ⟨d3, f3⟩, ⟨d4, f4⟩, ⟨d5, f5⟩⟩ := hCW
    clear hmem hxl hav
    by_cases hle : kth l x.1 ≤ i
    · gi_wp2
      refine wpIn_mono (Q := fun e a' wz => e = .normal ∧ a' = { tmps := #[.pointer (some ⟨sb, 0, none⟩), .int .i64 i, .pointer (some ⟨w.heap.size, 0, none⟩), .pointer (some ⟨w.heap.size + 1, 0, none⟩), .pointer (some ⟨w.heap.size + 1 + 1, 0, none⟩), .pointer (some ⟨w.heap.size + 1 + 1 + 1, 0, none⟩), .pointer (some ⟨w.heap.size + 1 + 1 + 1 + 1, 0, none⟩), undef, .int .i64 (kth l x.1), .pointer (some ⟨sb, 0, none⟩), .slice (some ⟨g, 0, none⟩) (m + 1) cap, .func (.func 55) #[] #[.pointer (some ⟨w'.heap.size, 0, none⟩)], .int .i64 (x.1 : Int), .int .i64 (kth l x.1), .int .i64 (kth l x.1), .int .i64 i, .bool true, .int .i64 (kth l x.1), .pointer (some ⟨sb, 0, none⟩), .pointer (some ⟨sb, 0, none⟩), .pointer (some ⟨sb, 2, none⟩), .map (some mb), .int .i64 (kth l x.1), .pointer (some av)], defers := [] } ∧
        wz = (((W.setCell ⟨w.heap.size + 1 + 1, 0, none⟩ (.int .i64 (kth l x.1))).setCell ⟨w.heap.size + 1 + 1 + 1, 0, none⟩ (.pointer (some av))).setCell ⟨w.heap.size + 1 + 1 + 1 + 1, 0, none⟩ (.bool true)).drew) ?_ ?_
      · go_light
        clear HC HB HM HA hp hBW hAW hcells hfew hN hC hB hgl hg hcell hne hwf h hl0 hle
        gi_region
        all_goals exact ⟨rfl, rfl, rfl⟩
      · rintro e a' w3 ⟨rfl, rfl, rfl⟩
        gi_wp2
        have hK : KeepsOthers W ((((W.setCell ⟨w.heap.size + 1 + 1, 0, none⟩ (.int .i64 (kth l x.1))).setCell ⟨w.heap.size + 1 + 1 + 1, 0, none⟩ (.pointer (some av))).setCell ⟨w.heap.size + 1 + 1 + 1 + 1, 0, none⟩ (.bool true)).drew) :=
          (((KeepsOthers.setCell W _ _).trans (KeepsOthers.setCell _ _ _)).trans (KeepsOthers.setCell _ _ _)).trans (KeepsOthers.drew _)
        exact ⟨hK.from _, ⟨rfl, pre, x, rfl, hp, hle, by rw [HA.out]; exact found_of d3 d4 d5⟩, ((((hBW.setCell (p := ⟨w.heap.size + 1 + 1, 0, none⟩) (by show w.heap.size ≤ w.heap.size + 1 + 1; omega) _).setCell (p := ⟨w.heap.size + 1 + 1 + 1, 0, none⟩) (by show w.heap.size ≤ w.heap.size + 1 + 1 + 1; omega) _).setCell (p := ⟨w.heap.size + 1 + 1 + 1 + 1, 0, none⟩) (by show w.heap.size ≤ w.heap.size + 1 + 1 + 1 + 1; omega) _).drew)⟩
    · gi_wp2
      exact ⟨KeepsFrom.refl _ _, Below.refl _ _, ⟨fun p hp' => (List.mem_append.1 hp').elim (hp p) (fun e => by simp at e; subst e; omega), d1, d2, ⟨d3, f3⟩, ⟨d4, f4⟩, ⟨d5, f5⟩⟩, hBW⟩
  case done =>
    rintro D ys W hD rfl ⟨⟨hne', hCW⟩, hBW⟩ hK
    obtain ⟨d1, d2, ⟨d3, f3⟩, ⟨d4, f4⟩, ⟨d5, f5⟩⟩ := hCW
    gi_wp2
    have hK' := (((KeepsOthers.setCell W ⟨w.heap.size + 1 + 1, 0, none⟩ (.int .i64 0)).trans (KeepsOthers.setCell _ ⟨w.heap.size + 1 + 1 + 1, 0, none⟩ (.pointer none))).trans (KeepsOthers.setCell _ ⟨w.heap.size + 1 + 1 + 1 + 1, 0, none⟩ (.bool false))).same D _ hK rfl
    refine ⟨by simp, .inl ⟨_, _, rfl, run_takeDeferred hK', ?_⟩⟩
    have hput := grownBy_putObj' (((W.setCell ⟨w.heap.size + 1 + 1, 0, none⟩ (.int .i64 0)).setCell ⟨w.heap.size + 1 + 1 + 1, 0, none⟩ (.pointer none)).setCell ⟨w.heap.size + 1 + 1 + 1 + 1, 0, none⟩ (.bool false)) D (.deferred none)
    have g3 := cell_kept (none_of d3 d4 d5).1 hput (fun r e => by cases e; exact ⟨_, hK', rfl⟩)
    have g4 := cell_kept (none_of d3 d4 d5).2.1 hput (fun r e => by cases e; exact ⟨_, hK', rfl⟩)
    have g5 := cell_kept (none_of d3 d4 d5).2.2 hput (fun r e => by cases e; exact ⟨_, hK', rfl⟩)
    have hb0 := best_none_row HM.out hne'
    refine ⟨.tuple #[.int .i64 0, .pointer none, .bool false], ?_, by rw [hb0]; rfl, (((hBW.setCell (p := ⟨w.heap.size + 1 + 1, 0, none⟩) (by show w.heap.size ≤ w.heap.size + 1 + 1; omega) _).setCell (p := ⟨w.heap.size + 1 + 1 + 1, 0, none⟩) (by show w.heap.size ≤ w.heap.size + 1 + 1 + 1; omega) _).setCell (p := ⟨w.heap.size + 1 + 1 + 1 + 1, 0, none⟩) (by show w.heap.size ≤ w.heap.size + 1 + 1 + 1 + 1; omega) _).trans (belowK_b (w := w) (Nat.le_refl _) _ D _ _ (by simp at hD; omega) hK' rfl rfl)⟩
    simp [results, Tryz.f12, go_sem, g3, g4, g5]
  case stop =>
    rintro D c pre W hD ⟨k, hk, rfl⟩ ⟨⟨rfl, ini, last, e1, e2, e3, hfd⟩, hBW⟩ hK
    have hbest := best_of_row h.inc HM.out e1 e2 e3
    gi_wp2
    refine ⟨by simp, .inl ⟨_, _, rfl, run_takeDeferred hK, ?_⟩⟩
    have hput := grownBy_putObj' W D (.deferred none)
    obtain ⟨g3, g4, g5⟩ := hfd.kept hput (fun r e => by cases e; exact ⟨_, hK, rfl⟩)
    refine ⟨.tuple #[.int .i64 (kth l last.1), at? (kth l last.1) l, .bool true], ?_, by rw [hbest]; rfl, hBW.trans (belowK_b (w := w) (Nat.le_refl _) W D _ _ (by simp at hD; omega) hK rfl rfl)⟩
    simp [results, Tryz.f12, go_sem, g3, g4, g5]
set_option maxRecDepth 100000 in
set_option maxHeartbeats 4000000 in
theorem best_nil (F : Fence) (hF : F = Fence.wide) {sb mb : Nat} {d room i : Int} {w : World} (h : At w sb d room mb []) :
    CallsIn F 7 Tryz.prog 12 #[.pointer (some ⟨sb, 0, none⟩), .int .i64 i] w (BestE w none) := by
  subst hF
  have hs := callsIn_wide (n := 6).2 (indexes_ok (h.below (w5_below w sb i)))
  have HC := Lib.hid (w5_cells w sb i)
  have HB := Lib.hid (w5_below w sb i)
  unfold w5 at hs HC HB
  refine callsIn_of_wp_marks Tryz.func12 rfl trivial ?_ rfl
  simp only [Tryz.ntmps12, List.size_toArray, List.length_cons, List.length_nil, Nat.reduceAdd, Nat.reduceSub, Array.replicate_succ, Array.replicate_zero, List.push_toArray, List.append_toArray, List.nil_append, List.cons_append]
  gi_wp2_with (first
    | (refine ⟨trivial, ?_⟩; gi_at_call 33; refine hs.mono ?_; rintro e w' ⟨v, rfl, hrow, hbl⟩)
    | (gi_at_call 33; refine hs.mono ?_; rintro e w' ⟨v, rfl, hrow, hbl⟩))
  have hv : v = .slice none 0 0 := by
    rcases hrow with ⟨hv, hz⟩ | ⟨g, cap, hv, hne, hg, hgl, hcell⟩
    · exact hv
    · exact absurd rfl hne
  clear hrow
  subst hv
  have hN : w.heap.size + 5 ≤ w'.heap.size := by have := hbl.size; simp at this; omega
  have hC := BestC.below HC.out hbl (by simp)
  have hB := HB.out.trans (hbl.mono (by simp; omega))
  clear hbl hs
  gi_wp2_with (first
    | (refine ⟨trivial, ?_⟩; gi_at_call 32; refine (callsIn_wide.2 (backward_ok _ _ _ _)).mono ?_; rintro e w'' ⟨rfl, rfl⟩)
    | (gi_at_call 32; refine (callsIn_wide.2 (backward_ok _ _ _ _)).mono ?_; rintro e w'' ⟨rfl, rfl⟩))
  refine wpIn_rangeFunc_ownG rfl (by omega) (gf := 55) (lb := #[.pointer (some ⟨w'.heap.size, 0, none⟩)]) rfl trivial (enters_of Tryz.func55 (by kernel_rfl) rfl)
    (back_nil_stops Fence.wide 6 trivial rfl w'.heap.size (w'.heap.size + 1) _ (by simp) (cell_new1 _ _ _)) belowK_t (belowK_b (by simp)) (Below.refl _ _) (fun _ => rfl)
    (fun pre W => BestC w.heap.size sb i W ∧ Below w.heap.size w W)
    (fun c pre W => False)
    (OwnFrom.and (Own.from (fun s A B row hs hg hr => hs.kept hg hr) _) (ownFrom_below (Nat.le_refl _) (by simp; omega)))
    (fun _ _ _ _ _ hs _ _ => hs)
    ⟨hC.kept (World.grownBy_alloc _ _ none) (fun r e => by cases e), hB.alloc (by omega) _⟩
    (fun x => { tmps := #[.pointer (some ⟨sb, 0, none⟩), .int .i64 i, .pointer (some ⟨w.heap.size, 0, none⟩), .pointer (some ⟨w.heap.size + 1, 0, none⟩), .pointer (some ⟨w.heap.size + 1 + 1, 0, none⟩), .pointer (some ⟨w.heap.size + 1 + 1 + 1, 0, none⟩), .pointer (some ⟨w.heap.size + 1 + 1 + 1 + 1, 0, none⟩), undef, .int .i64 0, .pointer (some ⟨sb, 0, none⟩), .slice none 0 0, .func (.func 55) #[] #[.pointer (some ⟨w'.heap.size, 0, none⟩)], .int .i64 0, .int .i64 0, undef, undef, undef, undef, undef, undef, undef, undef, undef, undef], defers := [] }) ?assign ?body ?done ?stop
  case assign =>
    intro lp x W K hK
    gi_wp2
    exact hK
  case body =>
    intro lp pre x W _ hlt
    exact absurd hlt (by omega)
  case done =>
    rintro D ys W hD rfl ⟨hCW, hBW⟩ hK
    obtain ⟨d1, d2, ⟨d3, f3⟩, ⟨d4, f4⟩, ⟨d5, f5⟩⟩ := hCW
    gi_wp2
    have hK' := (((KeepsOthers.setCell W ⟨w.heap.size + 1 + 1, 0, none⟩ (.int .i64 0)).trans (KeepsOthers.setCell _ ⟨w.heap.size + 1 + 1 + 1, 0, none⟩ (.pointer none))).trans (KeepsOthers.setCell _ ⟨w.heap.size + 1 + 1 + 1 + 1, 0, none⟩ (.bool false))).same D _ hK rfl
    refine ⟨by simp, .inl ⟨_, _, rfl, run_takeDeferred hK', ?_⟩⟩
    have hput := grownBy_putObj' (((W.setCell ⟨w.heap.size + 1 + 1, 0, none⟩ (.int .i64 0)).setCell ⟨w.heap.size + 1 + 1 + 1, 0, none⟩ (.pointer none)).setCell ⟨w.heap.size + 1 + 1 + 1 + 1, 0, none⟩ (.bool false)) D (.deferred none)
    have g3 := cell_kept (none_of d3 d4 d5).1 hput (fun r e => by cases e; exact ⟨_, hK', rfl⟩)
    have g4 := cell_kept (none_of d3 d4 d5).2.1 hput (fun r e => by cases e; exact ⟨_, hK', rfl⟩)
    have g5 := cell_kept (none_of d3 d4 d5).2.2 hput (fun r e => by cases e; exact ⟨_, hK', rfl⟩)
    refine ⟨.tuple #[.int .i64 0, .pointer none, .bool false], ?_, rfl, (((hBW.setCell (p := ⟨w.heap.size + 1 + 1, 0, none⟩) (by show w.heap.size ≤ w.heap.size + 1 + 1; omega) _).setCell (p := ⟨w.heap.size + 1 + 1 + 1, 0, none⟩) (by show w.heap.size ≤ w.heap.size + 1 + 1 + 1; omega) _).setCell (p := ⟨w.heap.size + 1 + 1 + 1 + 1, 0, none⟩) (by show w.heap.size ≤ w.heap.size + 1 + 1 + 1 + 1; omega) _).trans (belowK_b (w := w) (Nat.le_refl _) _ D _ _ (by simp at hD; omega) hK' rfl rfl)⟩
    simp [results, Tryz.f12, go_sem, g3, g4, g5]
  case stop =>
    rintro D c pre W _ _ h _
    exact h.elim
/-- Best, whatever is kept -/
theorem best_ok {sb mb : Nat} {d room i : Int} {l : List (Int × Value)} {w : World} (h : At w sb d room mb l) : Calls Tryz.prog 12 #[.pointer (some ⟨sb, 0, none⟩), .int .i64 i] w (BestE w (best i l)) := by
  by_cases hl : l = []
  · subst hl
    exact callsIn_wide.1 (best_nil Fence.wide rfl h)
  · exact callsIn_wide.1 (best_row Fence.wide rfl h hl)
end Go.St
