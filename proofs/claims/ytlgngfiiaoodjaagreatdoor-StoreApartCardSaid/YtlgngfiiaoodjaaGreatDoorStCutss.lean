/- The walk of package store: Copy. -/
import Derived.Test.YtlgngfiiaoodjaaGreatDoorStFirsts
import Derived.Shelf.SlMaps.Clone
import Derived.Deep.RegionWith
import Derived.Test.YtlgngfiiaoodjaaGreatDoorStIdxs
import Derived.LoopIn
import Derived.Sort.CutIn
set_option linter.unusedVariables false
set_option linter.unusedSimpArgs false
/- The walk of package store: Copy. -/
namespace Go.St
open Go Go.Proofs Go.RowKit Go.Maps Go.Shelf Go.Ev
set_option maxRecDepth 100000 in
set_option maxHeartbeats 4000000 in
theorem copy_ok {sb mb : Nat} {d room : Int} {l : List (Int × Value)} {w : World} (h : At w sb d room mb l) : Calls Tryz.prog 16 #[.pointer (some ⟨sb, 0, none⟩)] w fun e w' => e = .returned (.pointer (some ⟨w.heap.size + 1, 0, none⟩)) ∧ At w' (w.heap.size + 1) d room w.heap.size l ∧ Below w.heap.size w w' := by
  have c0 := h.c0
  have c1 := h.c1
  have c2 := h.c2
  have hv := valid_ok sb mb w c2
  obtain ⟨es, clock, hb, F, hs, hD⟩ := h.own
  have hcl : Calls Tryz.prog 36 #[.map (some mb)] w.drew fun e w' => e = .returned (.map (some w.heap.size)) ∧ w' = w.drew.alloc (.map es clock) := AnyW.maps_Clone Tryz.cloneA mb es clock w.drew hb
  have hk := fun (w1 : World) (h1 : w1 = w.drew.alloc (.map es clock)) =>
    show w1.cell? ⟨sb, 0, none⟩ = some (.int .i64 d) ∧ w1.cell? ⟨sb, 1, none⟩ = some (.int .i64 room) by
      subst h1
      exact ⟨cell_kept (W := w.drew) c0 (World.grownBy_alloc w.drew _ none) (fun r e => by cases e), cell_kept (W := w.drew) c1 (World.grownBy_alloc w.drew _ none) (fun r e => by cases e)⟩
  have hend : At ((w.drew.alloc (.map es clock)).alloc (.cells #[.int .i64 d, .int .i64 room, .map (some w.heap.size)] 65)) (w.heap.size + 1) d room w.heap.size l := by
    have hg := (World.grownBy_alloc (w.drew.alloc (.map es clock)) (.cells #[.int .i64 d, .int .i64 room, .map (some w.heap.size)] 65) none)
    have hbn : ((w.drew.alloc (.map es clock)).alloc (.cells #[.int .i64 d, .int .i64 room, .map (some w.heap.size)] 65)).heap[w.heap.size + 1]? = some (.cells #[.int .i64 d, .int .i64 room, .map (some w.heap.size)] 65 (0, 0)) := by
      have := World.alloc_heap_new (w.drew.alloc (.map es clock)) (.cells #[.int .i64 d, .int .i64 room, .map (some w.heap.size)] 65)
      rw [World.size_alloc] at this; exact this
    have hbm : ((w.drew.alloc (.map es clock)).alloc (.cells #[.int .i64 d, .int .i64 room, .map (some w.heap.size)] 65)).heap[w.heap.size]? = some (.map es clock) :=
      (hg.block w.heap.size (by simp) (by simp)).trans (World.alloc_heap_new w.drew (.map es clock))
    exact ⟨by unfold World.cell?; rw [hbn]; rfl, by unfold World.cell?; rw [hbn]; rfl, by unfold World.cell?; rw [hbn]; rfl, ⟨es, clock, hbm, F, hs, hD⟩, h.inc, h.wf, h.few⟩
  have hB : Below w.heap.size w ((w.drew.alloc (.map es clock)).alloc (.cells #[.int .i64 d, .int .i64 room, .map (some w.heap.size)] 65)) := ((Below.refl _ w).drew.alloc (Nat.le_refl _) _).alloc (by simp) _
  have HE := Lib.hid hend
  have HB := Lib.hid hB
  clear hend hB hs hD F hb h
  go_enter Tryz.func16, Tryz.ntmps16
  go_wp2_with (go_at_call 29; refine hv.mono ?_; rintro e w' ⟨rfl, rfl⟩)
  clear hv
  go_region_with (go_at_call 36; refine hcl.mono ?_; rintro e w1 ⟨rfl, hw1⟩; obtain ⟨k0, k1⟩ := hk w1 hw1; have HW := Lib.hid hw1; clear hw1)
  all_goals
    have hsz : w1.heap.size = w.heap.size + 1 := by rw [HW.out]; simp
    go_wp2
    go_ret
    have hw1 := HW.out
    subst hw1
    exact ⟨by simp [Act.put], HE.out, HB.out⟩
end Go.St
/- The plain law of StoreCuts: what Best says of a cut store, and how many are counted. -/
namespace Go.St
variable {l : List (Int × Value)} {k i : Int} {x : Value}
theorem best_cut_self (h : Inc l) (hm : (i, x) ∈ l) (hk : i ≤ k) : best i (cut k l) = some (i, x) :=
  best_is (h.cut k) (mem_cut.2 ⟨hm, hk⟩) (Int.le_refl _) (fun q hq h1 => h1)
theorem best_cut_le {n : Int} {p : Int × Value} (h : best n (cut k l) = some p) : p.1 ≤ k := (mem_cut.1 (best_some h).1).2
/-- so many of these indexes are at most k -/
def cnt (l : List (Int × Value)) (k : Int) (pre : List (Fin l.length)) : Nat := ((outs l pre).filter fun z => decide (z ≤ k)).length
theorem cnt_nil : cnt l k [] = 0 := rfl
theorem cnt_step (pre : List (Fin l.length)) (y : Fin l.length) : cnt l k (pre ++ [y]) = cnt l k pre + (if kth l y.1 ≤ k then 1 else 0) := by
  unfold cnt
  rw [show outs l (pre ++ [y]) = outs l pre ++ [kth l y.1] by unfold outs; simp, List.filter_append, List.length_append]
  by_cases h : kth l y.1 ≤ k
  · rw [if_pos h, List.filter_cons_of_pos (by simpa using h)]; rfl
  · rw [if_neg h, List.filter_cons_of_neg (by simpa using h)]; rfl
theorem cnt_all : cnt l k (List.finRange l.length) = (cut k l).length := by
  unfold cnt
  rw [outs_all]
  unfold keys cut
  rw [List.filter_map, List.length_map]
  rfl
theorem cnt_le (pre : List (Fin l.length)) : cnt l k pre ≤ pre.length := by
  unfold cnt outs
  exact Nat.le_trans (List.length_filter_le _ _) (by simp)
end Go.St
/- StoreCuts: the walk. -/
namespace Go.St
open Go Go.Proofs Go.RowKit Go.Maps Go.Shelf Go.Ev
attribute [local go_sem] Oper.semAt_some
/-- a store to which multiples are offered; the box of the result -/
structure CI (w : World) (sb mb g : Nat) (bs : Nat → Nat) (d room : Int) (l : List (Int × Value)) (W : World) : Prop where
  at_ : At W sb d room mb l
  len : (l.length : Int) ≤ room
  sn : Snaps W 4 g bs
  below : Below w.heap.size w W
  res : Boxed W w.heap.size 4 (.bool false)
  lo : w.heap.size + 1 ≤ mb
variable {w W : World} {sb mb g : Nat} {bs : Nat → Nat} {d room : Int} {l : List (Int × Value)}
theorem CI.offer (h : CI w sb mb g bs d room l W) {i : Int} {k : Nat} (hi : 0 ≤ i) (hwf : (Lit.int .i64 i).wf = true) (hd : 1 ≤ d) (hr : 1 ≤ room) (hr2 : room ≤ 100) : Calls Tryz.prog 10 #[.pointer (some ⟨sb, 0, none⟩), .int .i64 i, .pointer (some ⟨bs (k % 4), 0, none⟩)] W fun e w' => ∃ b l', e = .returned (.tuple #[.bool b, .int .i64 0]) ∧ CI w sb mb g bs d room l' w' := by
  obtain ⟨_, a, ha⟩ := h.sn (k % 4) (by omega)
  refine (offer_ok h.at_ ha hi hwf hd hr (by have := h.len; omega)).mono ?_
  rintro e w' ⟨rfl, hat, hg⟩
  exact ⟨_, _, rfl, hat, length_offer h.len, h.sn.kept hg h.at_.row, h.below.grown hg h.below.size (fun k e => by cases e; have := h.lo; omega), h.res.kept hg (fun e => by have := h.lo; cases e; omega), h.lo⟩
theorem CI.drew (h : CI w sb mb g bs d room l W) : CI w sb mb g bs d room l W.drew := ⟨h.at_.drew, h.len, h.sn, h.below.drew, h.res, h.lo⟩
theorem wrap_small {n : Int} (h0 : 0 ≤ n) (h1 : n < 1000000000000000000) : IntKind.i64.wrap n = n := by
  unfold IntKind.wrap
  simp [IntKind.bits, IntKind.signed]
  omega
theorem At.kept' {w w' : World} {sb : Nat} {d room : Int} {mb r : Nat} {l : List (Int × Value)} (h : At w sb d room mb l) (hg : w.grownBy w' (some r)) (hr : ∃ o : Obj, w.heap[r]? = some o ∧ o.isCells = false) (hne : r ≠ mb) : At w' sb d room mb l :=
  ⟨cell_kept h.c0 hg (fun _ e => by cases e; exact hr), cell_kept h.c1 hg (fun _ e => by cases e; exact hr), cell_kept h.c2 hg (fun _ e => by cases e; exact hr), h.own.kept hg (fun e => hne (Option.some.inj e).symm), h.inc, h.wf, h.few⟩
def X1 (N : Nat) (_ : World) (i : Nat) : Prop := i = N
theorem x1_ok (N B : Nat) : XOk B (X1 N) := ⟨fun _ _ h => h, fun _ _ _ h => h⟩
theorem kb_set (W : World) (N : Nat) (v : Value) : KB (X1 N) W (W.setCell ⟨N, 0, none⟩ v) :=
  ⟨(grownBy_setCell' W N v).size, fun i o hi hx _ => ((grownBy_setCell' W N v).block i (Array.getElem?_eq_some_iff.1 hi).1 (fun e => hx (Option.some.inj e))).trans hi, fun _ _ h => h⟩
/-- what holds in the loop over All -/
structure QI (w : World) (nb cm M N3 : Nat) (d kk : Int) (l : List (Int × Value)) (n : Nat) (W : World) : Prop where
  res : Boxed W w.heap.size 4 (.bool false)
  bc : Boxed W M 23 (.pointer (some ⟨nb, 0, none⟩))
  bk : Boxed W (M + 1) 3 (.int .i64 kk)
  bn : Boxed W N3 3 (.int .i64 (n : Int))
  at_ : At W nb d 40 cm (St.cut kk l)
  below : Below w.heap.size w W
theorem QI.still {w A B : World} {nb cm M N3 : Nat} {d kk : Int} {l : List (Int × Value)} {n : Nat} {row : Option Nat} (h : QI w nb cm M N3 d kk l n A) (hg : A.grownBy B row) (hr : ∀ r, row = some r → A.heap.size ≤ r ∨ (w.heap.size ≤ r ∧ r ≠ cm ∧ ∃ o : Obj, A.heap[r]? = some o ∧ o.isCells = false)) : QI w nb cm M N3 d kk l n B := by
  have hr' : ∀ r, row = some r → r < A.heap.size → ∃ o : Obj, A.heap[r]? = some o ∧ o.isCells = false := fun r e hlt => by
    rcases hr r e with h1 | ⟨_, _, h1⟩
    · omega
    · exact h1
  have kb : ∀ (B0 : Nat) (t : TypeId) (v : Value), Boxed A B0 t v → Boxed B B0 t v := fun B0 t v hb => hb.kept hg fun e => by
    obtain ⟨o, ho, hc⟩ := hr' B0 e.symm hb.lt
    rw [show A.heap[B0]? = _ from hb] at ho; cases ho; cases hc
  have kc : ∀ (a : Addr) (v : Value), A.cell? a = some v → B.cell? a = some v := fun a v hc => hg.cell hc fun e => by
    obtain ⟨o, ho, hcc⟩ := hr' a.block e.symm (World.block_lt_of_cell? _ _ hc)
    obtain ⟨o', ho', hcc'⟩ := cells_of_cell hc
    rw [ho] at ho'; cases ho'; rw [hcc] at hcc'; cases hcc'
  refine ⟨kb _ _ _ h.res, kb _ _ _ h.bc, kb _ _ _ h.bk, kb _ _ _ h.bn, ⟨kc _ _ h.at_.c0, kc _ _ h.at_.c1, kc _ _ h.at_.c2, h.at_.own.kept hg (fun e => ?_), h.at_.inc, h.at_.wf, h.at_.few⟩, h.below.grown hg h.below.size (fun r e => ?_)⟩
  · rcases hr cm e.symm with h1 | ⟨_, h1, _⟩
    · have := h.at_.own.lt; omega
    · exact h1 rfl
  · rcases hr r e with h1 | ⟨h1, _⟩
    · have := h.below.size; omega
    · exact h1
theorem At.but {w w' : World} {sb : Nat} {d room : Int} {mb r : Nat} {l : List (Int × Value)} (h : At w sb d room mb l) (hg : w.grownBy w' (some r)) (h1 : r ≠ sb) (h2 : r ≠ mb) : At w' sb d room mb l :=
  ⟨hg.cell h.c0 (fun e => h1 (Option.some.inj e).symm), hg.cell h.c1 (fun e => h1 (Option.some.inj e).symm), hg.cell h.c2 (fun e => h1 (Option.some.inj e).symm), h.own.kept hg (fun e => h2 (Option.some.inj e).symm), h.inc, h.wf, h.few⟩
/-- a round that changes the count alone -/
theorem QI.round {w W W5 : World} {nb cm M N3 : Nat} {d kk : Int} {l : List (Int × Value)} {n : Nat} (h : QI w nb cm M N3 d kk l n W) (hb : Below W.heap.size W W5) (hlo : w.heap.size + 1 ≤ N3) (h1 : M ≠ N3) (h2 : M + 1 ≠ N3) (h3 : nb ≠ N3) (h4 : cm ≠ N3) (B0 : Nat) {m : Int} (hm : m = ((n + 1 : Nat) : Int)) :
    KeepsFrom B0 W (W5.setCell ⟨N3, 0, none⟩ (.int .i64 m)) ∧ KB (X1 N3) W (W5.setCell ⟨N3, 0, none⟩ (.int .i64 m)) ∧ QI w nb cm M N3 d kk l (n + 1) (W5.setCell ⟨N3, 0, none⟩ (.int .i64 m)) := by
  subst hm
  have hg := below_grown hb none
  refine ⟨(KeepsFrom.of_grownBy hg (fun j e => by cases e)).trans ((KeepsOthers.setCell _ _ _).from _), (KB.grown (x1_ok N3 0) (Nat.zero_le _) hg).trans (kb_set W5 N3 _), ?_⟩
  exact ⟨(h.res.kept hg (by simp)).other (by omega) _, (h.bc.kept hg (by simp)).other h1 _, (h.bk.kept hg (by simp)).other h2 _, (h.bn.kept hg (by simp)).set _, (h.at_.below hb).but (grownBy_setCell' W5 N3 _) (fun e => h3 e.symm) (fun e => h4 e.symm),
    (h.below.trans (hb.mono h.below.size)).setCell (p := ⟨N3, 0, none⟩) (by show w.heap.size ≤ N3; omega) _⟩
/-- a round that changes nothing -/
theorem QI.idle {w W W5 : World} {nb cm M N3 : Nat} {d kk : Int} {l : List (Int × Value)} {n : Nat} (h : QI w nb cm M N3 d kk l n W) (hb : Below W.heap.size W W5) (B0 : Nat) :
    KeepsFrom B0 W W5 ∧ KB (X1 N3) W W5 ∧ QI w nb cm M N3 d kk l n W5 := by
  have hg := below_grown hb none
  exact ⟨KeepsFrom.of_grownBy hg (fun j e => by cases e), KB.grown (x1_ok N3 0) (Nat.zero_le _) hg, h.still hg (fun r e => by cases e)⟩
/-- behind the loop: Len, works, and the store of the result -/
theorem QI.done {w W w1 w2 : World} {nb cm M N3 D B0 : Nat} {d kk : Int} {l : List (Int × Value)} {n : Nat} (h : QI w nb cm M N3 d kk l n W) (hb : Below W.drew.heap.size W.drew w1) (hb2 : Below w1.heap.size w1 w2) (hK : W.heap[D]? = some (.deferred (some []))) (hD : B0 ≤ D) (hB : w.heap.size < B0) :
    w2.cell? ⟨w.heap.size, 0, none⟩ = some (.bool false) ∧ w2.frozen? ⟨w.heap.size, 0, none⟩ = false ∧ (w2.setCell ⟨w.heap.size, 0, none⟩ (.bool true)).heap[D]? = some (.deferred (some [])) ∧
    ((w2.setCell ⟨w.heap.size, 0, none⟩ (.bool true)).putObj D (.deferred none)).cell? ⟨w.heap.size, 0, none⟩ = some (.bool true) ∧ Below w.heap.size w ((w2.setCell ⟨w.heap.size, 0, none⟩ (.bool true)).putObj D (.deferred none)) := by
  have hDW : D < W.heap.size := (Array.getElem?_eq_some_iff.1 hK).1
  have b1 : Boxed w1 w.heap.size 4 (.bool false) := Boxed.kept (W := W.drew) h.res (below_grown hb none) (by simp)
  have b2 : Boxed w2 w.heap.size 4 (.bool false) := b1.kept (below_grown hb2 none) (by simp)
  have k1 : w1.heap[D]? = some (.deferred (some [])) := (hb.block D hDW).trans hK
  have k2 : w2.heap[D]? = some (.deferred (some [])) := (hb2.block D (Array.getElem?_eq_some_iff.1 k1).1).trans k1
  have k3 := (KeepsOthers.setCell w2 ⟨w.heap.size, 0, none⟩ (.bool true)).same D _ k2 rfl
  have hput := grownBy_putObj' (w2.setCell ⟨w.heap.size, 0, none⟩ (.bool true)) D (.deferred none)
  refine ⟨b2.cell, b2.frozen, k3, (Boxed.kept (b2.set (.bool true)) hput (fun e => by have := Option.some.inj e; omega)).cell, ?_⟩
  have q := ((h.below.drew.trans (hb.mono h.below.size)).trans (hb2.mono (by have := h.below.size; have := hb.size; simp at this; omega))).setCell (p := ⟨w.heap.size, 0, none⟩) (Nat.le_refl _) (.bool true)
  exact q.trans (belowK_b (w := w) (Nat.le_refl _) _ D _ (.deferred none) (by omega) k3 rfl rfl)
set_option maxRecDepth 100000 in
set_option maxHeartbeats 1000000 in
theorem cuts_ok {w : World} (hw : ∀ W, Below w.heap.size w W → Calls Tryz.prog 13 #[] W (WorksE W)) (hsn : ∀ W, Below w.heap.size w W → Calls Tryz.prog 9 #[.int .i64 4] W (SnapsE W 4))
    {iv at' : Int} (hi0 : 0 ≤ iv) (hi1 : iv < 256) (hc0 : 0 ≤ at') (hc1 : at' < 65536) {v : Value} {us : List Int} (hu : U16s w v us) :
    CallsIn Fence.wide 8 Tryz.prog 5 #[.int .u8 iv, v, .int .u16 at'] w (LawE w) := by
  have hlv := hu.len
  by_cases h30 : 30 < us.length
  · have hb0 : Below w.heap.size w (w.alloc (.cells #[.bool false] 4)) := (Below.refl _ w).alloc (Nat.le_refl _) _
    have hwk := callsIn_wide (n := 7).2 (hw _ hb0)
    have hbx := Boxed.new w 4 (.bool false)
    refine callsIn_of_wp_marks Tryz.func5 rfl trivial ?_ rfl
    simp only [Tryz.ntmps5, List.size_toArray, List.length_cons, List.length_nil, Nat.reduceAdd, Nat.reduceSub, Array.replicate_succ, Array.replicate_zero, List.push_toArray, List.append_toArray, List.nil_append, List.cons_append]
    gi_wp2_with (refine ⟨trivial, ?_⟩; gi_at_call 13; refine hwk.mono ?_; rintro e w' ⟨rfl, hb⟩; have hbx' := Boxed.kept hbx (below_grown hb none) (by simp); have hc' := hbx'.cell; have hf' := hbx'.frozen; have hg' := (hbx'.set (.bool true)).cell)
    refine ⟨.bool true, ?_, rfl, (hb0.trans (hb.mono hb0.size)).setCell (p := ⟨w.heap.size, 0, none⟩) (Nat.le_refl _) _⟩
    simp [results, Tryz.f5, go_sem, hg']
  · have hd1 : 1 ≤ 1 + iv % 20 := by omega
    have hd2 : 1 + iv % 20 ≤ 20 := by omega
    have hnew := callsIn_wide (n := 7).2 (new_ok hd1 (by omega : 1 + iv % 20 ≤ 10000) (by omega : (1 : Int) ≤ 40) (by omega) (w.alloc (.cells #[.bool false] 4)))
    have hB0 : Below w.heap.size w (((w.alloc (.cells #[.bool false] 4)).alloc (.map #[] 0)).alloc (.cells #[.int .i64 (1 + iv % 20), .int .i64 40, .map (some (w.alloc (.cells #[.bool false] 4)).heap.size)] 65)) := (((Below.refl _ w).alloc (Nat.le_refl _) _).alloc (by simp) _).alloc (by simp; omega) _
    have hA0 := at_new (d := 1 + iv % 20) (room := 40) (w.alloc (.cells #[.bool false] 4))
    have hR0 : Boxed (((w.alloc (.cells #[.bool false] 4)).alloc (.map #[] 0)).alloc (.cells #[.int .i64 (1 + iv % 20), .int .i64 40, .map (some (w.alloc (.cells #[.bool false] 4)).heap.size)] 65)) w.heap.size 4 (.bool false) := ((Boxed.new w 4 (.bool false)).alloc _).alloc _
    have hsn0 := callsIn_wide (n := 7).2 (hsn _ hB0)
    simp only [World.size_alloc] at hnew hB0 hA0 hR0 hsn0
    refine callsIn_of_wp_marks Tryz.func5 rfl trivial ?_ rfl
    simp only [Tryz.ntmps5, List.size_toArray, List.length_cons, List.length_nil, Nat.reduceAdd, Nat.reduceSub, Array.replicate_succ, Array.replicate_zero, List.push_toArray, List.append_toArray, List.nil_append, List.cons_append]
    gi_wp2_with (first
      | (refine ⟨trivial, ?_⟩; gi_at_call 8; refine hnew.mono ?_; rintro e w' ⟨rfl, rfl⟩)
      | (refine ⟨trivial, ?_⟩; gi_at_call 9; refine hsn0.mono ?_; rintro e w' ⟨g, c, bs, rfl, hsn', hb⟩; have ci : CI w (w.heap.size + 1 + 1) (w.heap.size + 1) g bs (1 + iv % 20) 40 [] w' := ⟨hA0.below hb, by simp, hsn', hB0.trans (hb.mono (by simp; omega)), hR0.kept (below_grown hb none) (by simp), by omega⟩))
    clear hB0 hA0 hsn0 hnew hsn' hb hsn hR0
    gi_loopw [11] (fun i wr => ∃ k : Nat, k ≤ us.length ∧ i = .int .i64 k ∧ ∃ l, CI w (w.heap.size + 1 + 1) (w.heap.size + 1) g bs (1 + iv % 20) 40 l wr) (fun i _ => us.length - (RowKit.intOf i).toNat)
    case atStart => exact ⟨0, by omega, rfl, _, ci⟩
    case round =>
      obtain ⟨k, hk, rfl, l, ci⟩ := hrel
      by_cases hlt : k < us.length
      · rcases hu with ⟨_, hus⟩ | ⟨a, c2, rfl, hus⟩
        · rw [hus] at hlt; simp at hlt
        · obtain ⟨hcell, hu0, hu1⟩ := hus k us[k] (by simp [hlt])
          have hcell := (ci.below.cell (World.block_lt_of_cell? _ _ hcell)).trans hcell
          generalize us[k] = u at hcell hu0 hu1
          have hp0 : 0 ≤ u * (1 + iv % 20) := Int.mul_nonneg hu0 (by omega)
          have hp1 : u * (1 + iv % 20) ≤ 65535 * 20 := Int.mul_le_mul (by omega) hd2 (by omega) (by omega)
          have hof := callsIn_wide (n := 7).2 (ci.drew.offer (k := k) hp0 (wf_small hp0 (by omega)) hd1 (by omega) (by omega))
          have q := (ci.sn (k % 4) (by omega)).1
          have hj2 : (k : Int) % 4 < 4 := by omega
          have hj3 : 0 ≤ (k : Int) % 4 := by omega
          have hj6 : ((k : Int) % 4).toNat = k % 4 := by omega
          have hwu : IntKind.i64.wrap u = u := wrap_small hu0 (by omega)
          have hwp : IntKind.i64.wrap (u * (1 + iv % 20)) = u * (1 + iv % 20) := wrap_small hp0 (by omega)
          have htm : (k : Int).tmod 4 = (k : Int) % 4 := Int.tmod_eq_emod_of_nonneg (by omega)
          have HU := Lib.hid hus
          clear hus hw
          gi_wp2
          rename_i K0 hK0
          refine wpIn_mono (Q := fun e a' w' => match e with | .normal => K0 a' w' | _ => False) ?_ (by intro e a' w' hm; cases e with | normal => exact hm | _ => exact hm.elim)
          gi_region_with (refine ⟨trivial, ?_⟩; gi_at_call 10; (with_reducible refine CallsIn.mono hof ?_); rintro e w1 ⟨b', l', rfl, ci⟩)
          all_goals
            show K0 _ _
            refine hK0 _ _ ?_
            simp only [Act.put]
            gi_wp2
            exact ⟨⟨k + 1, by omega, int_congr (by omega), _, ci⟩, by simp [RowKit.intOf]; omega⟩
      · clear hu
        have hwa : IntKind.i64.wrap at' = at' := wrap_small hc0 (by omega)
        have hat1 : 0 ≤ at' * (1 + iv % 20) := Int.mul_nonneg hc0 (by omega)
        have hat2 : at' * (1 + iv % 20) ≤ 65535 * 20 := Int.mul_le_mul (by omega) hd2 (by omega) (by omega)
        have hcp := callsIn_wide (n := 7).2 (copy_ok ci.at_)
        have hall := fun W => callsIn_wide (n := 7).2 (all_ok (w.heap.size + 1 + 1) W)
        gi_wp2_with (first
          | (refine ⟨trivial, ?_⟩; gi_at_call 16; refine hcp.mono ?_; rintro e w' ⟨rfl, hac, hbc⟩
             have hac2 : At ((w'.alloc (.cells #[.pointer (some ⟨wr.heap.size + 1, 0, none⟩)] 23)).alloc (.cells #[.int .i64 (at' * (1 + iv % 20))] 3)) (wr.heap.size + 1) (1 + iv % 20) 40 wr.heap.size l := (hac.kept (World.grownBy_alloc _ _ none)).kept (World.grownBy_alloc _ _ none)
             have hcut := callsIn_wide (n := 7).2 (cut_ok' (n := at' * (1 + iv % 20)) hac2))
          | (refine ⟨trivial, ?_⟩; gi_at_call 14; refine hcut.mono ?_; rintro e w3 ⟨rfl, hac3, hg3⟩)
          | (refine ⟨trivial, ?_⟩; gi_at_call 17; refine (hall _).mono ?_; rintro e w4 ⟨rfl, rfl⟩))
        have z1 : w.heap.size + 3 ≤ wr.heap.size := by
          have := World.block_lt_of_cell? _ _ ci.at_.c0
          simp only at this
          omega
        have z2 : wr.heap.size + 2 ≤ w'.heap.size := by
          have := World.block_lt_of_cell? _ _ hac.c0
          simp only at this
          omega
        have z3 : w'.heap.size + 2 ≤ w3.heap.size := by
          have := hg3.size
          simp at this
          omega
        have hN3 : w.heap.size + 3 ≤ w3.heap.size := by omega
        have hrow := hac2.row wr.heap.size rfl
        have hq0 : QI w (wr.heap.size + 1) wr.heap.size w'.heap.size w3.heap.size (1 + iv % 20) (at' * (1 + iv % 20)) l 0 ((w3.alloc (.cells #[.int .i64 0] 3)).alloc (.cells #[.pointer (some ⟨w.heap.size + 1 + 1, 0, none⟩)] 23)) := by
          have b1 : Boxed w' w.heap.size 4 (.bool false) := ci.res.kept (below_grown hbc none) (by simp)
          have b2 := (((b1.alloc (.cells #[.pointer (some ⟨wr.heap.size + 1, 0, none⟩)] 23)).alloc (.cells #[.int .i64 (at' * (1 + iv % 20))] 3)).kept hg3 (fun e => by have := Option.some.inj e; omega))
          have c1 := (((Boxed.new w' 23 (.pointer (some ⟨wr.heap.size + 1, 0, none⟩))).alloc (.cells #[.int .i64 (at' * (1 + iv % 20))] 3)).kept hg3 (fun e => by have := Option.some.inj e; omega))
          have k1 := Boxed.new (w'.alloc (.cells #[.pointer (some ⟨wr.heap.size + 1, 0, none⟩)] 23)) 3 (.int .i64 (at' * (1 + iv % 20)))
          rw [World.size_alloc] at k1
          have k2 := k1.kept hg3 (fun e => by have := Option.some.inj e; omega)
          have hb2 : Below w.heap.size w ((w'.alloc (.cells #[.pointer (some ⟨wr.heap.size + 1, 0, none⟩)] 23)).alloc (.cells #[.int .i64 (at' * (1 + iv % 20))] 3)) := ((ci.below.trans (hbc.mono (by omega))).alloc (by omega) _).alloc (by simp; omega) _
          exact ⟨(b2.alloc _).alloc _, (c1.alloc _).alloc _, (k2.alloc _).alloc _, (Boxed.new w3 3 (.int .i64 0)).alloc _, (hac3.kept (World.grownBy_alloc _ _ none)).kept (World.grownBy_alloc _ _ none), ((hb2.grown hg3 (by simp; omega) (fun e he => by cases he; omega)).alloc (by omega) _).alloc (by simp; omega) _⟩
        have hA0 : At ((w3.alloc (.cells #[.int .i64 0] 3)).alloc (.cells #[.pointer (some ⟨w.heap.size + 1 + 1, 0, none⟩)] 23)) (w.heap.size + 1 + 1) (1 + iv % 20) 40 (w.heap.size + 1) l :=
          (((((ci.at_.below hbc).kept (World.grownBy_alloc _ _ none)).kept (World.grownBy_alloc _ _ none)).kept' hg3 hrow (by omega)).kept (World.grownBy_alloc _ _ none)).kept (World.grownBy_alloc _ _ none)
        have hb5 : Boxed ((w3.alloc (.cells #[.int .i64 0] 3)).alloc (.cells #[.pointer (some ⟨w.heap.size + 1 + 1, 0, none⟩)] 23)) (w3.heap.size + 1) 23 (.pointer (some ⟨w.heap.size + 1 + 1, 0, none⟩)) := by
          have := Boxed.new (w3.alloc (.cells #[.int .i64 0] 3)) 23 (.pointer (some ⟨w.heap.size + 1 + 1, 0, none⟩))
          rw [World.size_alloc] at this
          exact this
        obtain ⟨W0, hW0⟩ : ∃ W0, ((w3.alloc (.cells #[.int .i64 0] 3)).alloc (.cells #[.pointer (some ⟨w.heap.size + 1 + 1, 0, none⟩)] 23)) = W0 := ⟨_, rfl⟩
        have hsz : W0.heap.size = w3.heap.size + 2 := by rw [← hW0]; simp
        rw [hW0] at hq0 hA0 hb5 ⊢
        clear hW0
        refine wpIn_rangeFunc_ownG rfl (by omega) (gf := 37) (lb := #[.pointer (some ⟨w3.heap.size + 1, 0, none⟩)]) rfl trivial (enters_of Tryz.func37 (by kernel_rfl) rfl)
          (all_stops 7 (by omega) (w3.heap.size + 1) (X1 w3.heap.size) (x1_ok _ (w3.heap.size + 1)) W0 (by omega) ?xl ?xs ?xm ?xb hb5.cell hA0) (fun h k => h.trans k) (fun W l o o' hl h1 h2 h3 => KB.put (x1_ok _ (w3.heap.size + 1)) W l o o' (by omega) h1 h2 h3) (Below.refl _ _) (fun _ => rfl)
          (fun pre W => QI w (wr.heap.size + 1) wr.heap.size w'.heap.size w3.heap.size (1 + iv % 20) (at' * (1 + iv % 20)) l (cnt l (at' * (1 + iv % 20)) pre) W)
          (fun c pre W => False)
          ?own ?ownx ?start
          (fun x => { tmps := #[.int .u8 iv, v, .int .u16 at', undef, undef, undef, .pointer (some ⟨w.heap.size, 0, none⟩), .int .i64 (1 + iv % 20), .pointer (some ⟨w.heap.size + 1 + 1, 0, none⟩), .int .i64 0, .slice (some ⟨g, 0, none⟩) 4 c, .int .i64 (k : Int), u12, u13, .pointer (some ⟨w'.heap.size, 0, none⟩), .pointer (some ⟨w'.heap.size + 1, 0, none⟩), .pointer (some ⟨w3.heap.size, 0, none⟩), (.int .i64 (kth l x.1)), (at? (kth l x.1) l), undef, undef, undef, v, .int .i64 (us.length : Int), .bool (decide (30 < (us.length : Int))), undef, .int .u8 iv, .int .u8 (iv % 20), .int .i64 (iv % 20), .int .i64 (1 + iv % 20), .tuple #[.pointer (some ⟨w.heap.size + 1 + 1, 0, none⟩), .int .i64 0], .int .i64 (1 + iv % 20), .tuple #[.pointer (some ⟨w.heap.size + 1 + 1, 0, none⟩), .int .i64 0], .pointer (some ⟨w.heap.size + 1 + 1, 0, none⟩), .int .i64 0, .slice (some ⟨g, 0, none⟩) 4 c, .int .i64 0, .bool false, .bool false, .slice (some ⟨g, 0, none⟩) 4 c, .int .i64 4, .bool false, .bool false, .int .i64 (k : Int), v, .int .i64 (us.length : Int), .bool false, u47, u48, u49, u50, u51, u52, u53, u54, u55, u56, u57, u58, u59, u60, u61, u62, u63, u64, u65, u66, u67, .pointer (some ⟨w.heap.size + 1 + 1, 0, none⟩), .pointer (some ⟨wr.heap.size + 1, 0, none⟩), .int .u16 at', .int .i64 at', .int .i64 (1 + iv % 20), .int .i64 (at' * (1 + iv % 20)), .pointer (some ⟨wr.heap.size + 1, 0, none⟩), .bool false, .bool false, .pointer (some ⟨wr.heap.size + 1, 0, none⟩), .int .i64 (at' * (1 + iv % 20)), .int .i64 0, .bool false, .bool false, .pointer (some ⟨w.heap.size + 1 + 1, 0, none⟩), .func (.func 37) #[] #[.pointer (some ⟨w3.heap.size + 1, 0, none⟩)], (.int .i64 (kth l x.1)), (at? (kth l x.1) l), undef, undef, undef, undef, undef, undef, undef, undef, undef, undef, undef, undef, undef, undef, undef, undef, undef, undef, undef, undef, undef, undef, undef, undef, undef, undef, undef, undef, undef, undef, undef, undef, undef, undef, undef, undef, undef], defers := [] }) ?assign ?body ?done ?stop
        case xl => rintro i rfl; omega
        case xs => intro e; have e : w.heap.size + 1 + 1 = w3.heap.size := e; omega
        case xm => intro e; have e : w.heap.size + 1 = w3.heap.size := e; omega
        case xb => intro e; have e : w3.heap.size + 1 = w3.heap.size := e; omega
        case own =>
          rintro s A B row hI hg hr
          exact hI.still hg fun r e => .inr ⟨by have := (hr r e).1; omega, by have := (hr r e).1; omega, (hr r e).2⟩
        case ownx => exact fun _ _ _ _ _ hs _ _ => hs
        case start => exact hq0
        case assign =>
          intro lp x W K hK
          gi_wp2
          exact hK
        case body =>
          rintro lp pre x W hI hlt
          have hxl : x.1 < (keys l).length := by rw [keys_length]; exact x.2
          obtain ⟨u, hu⟩ := kth_mem (l := l) hxl
          obtain ⟨hk0, hwf, av, hav⟩ := ci.at_.wf _ hu
          have hav : u = .pointer (some av) := hav
          have hat : at? (kth l x.1) l = .pointer (some av) := by rw [at_of_mem ci.at_.inc hu]; exact hav
          have hk0' : 0 ≤ kth l x.1 := hk0
          have hbs := best_ok (i := kth l x.1) hI.at_
          have g1 := hI.bc.cell
          have g2 := hI.bk.cell
          have g3 := hI.bn.cell
          have g4 := hI.bn.frozen
          have hcl := cnt_le (l := l) (k := at' * (1 + iv % 20)) pre
          have hpn := fun W => ptr_nsame av W
          rw [hat]
          by_cases hle : kth l x.1 ≤ at' * (1 + iv % 20)
          · rw [best_cut_self ci.at_.inc hu hle] at hbs
            have hbs := CallsIn.inRound lp (callsIn_wide (n := 5).2 hbs)
            subst hav
            have hbs : CallsIn (Fence.wide.inRound lp) 5 Tryz.prog 12 #[.pointer (some ⟨wr.heap.size + 1, 0, none⟩), .int .i64 (kth l x.1)] W fun e w' => e = .returned (.tuple #[.int .i64 (kth l x.1), .pointer (some av), .bool true]) ∧ Below W.heap.size W w' := hbs
            gi_wp2_with (refine ⟨trivial, ?_⟩; gi_at_call 12; refine hbs.mono ?_; rintro e w5 ⟨rfl, hb5'⟩; have r1 := (Boxed.kept hI.bk (below_grown hb5' none) (by simp)).cell; have r2 := (Boxed.kept hI.bn (below_grown hb5' none) (by simp)).cell; have r3 := (Boxed.kept hI.bn (below_grown hb5' none) (by simp)).frozen)
            have hl40 := ci.len
            have hwc : wrap64 (((cnt l (at' * (1 + iv % 20)) pre : Nat) : Int) + 1) = ((cnt l (at' * (1 + iv % 20)) pre : Nat) : Int) + 1 := by unfold wrap64; omega
            obtain ⟨E1, E2, E3⟩ := hI.round hb5' (by omega) (by omega) (by omega) (by omega) (by omega) W0.heap.size (m := wrap64 (((cnt l (at' * (1 + iv % 20)) pre : Nat) : Int) + 1)) (by rw [hwc]; omega)
            have hst := cnt_step (l := l) (k := at' * (1 + iv % 20)) pre x
            rw [if_pos hle] at hst
            rw [← hst] at E3
            exact ⟨E1, E2, E3⟩
          · have hst := cnt_step (l := l) (k := at' * (1 + iv % 20)) pre x
            rw [if_neg hle, Nat.add_zero] at hst
            cases hbe : best (kth l x.1) (St.cut (at' * (1 + iv % 20)) l) with
            | none =>
              rw [hbe] at hbs
              have hbs := CallsIn.inRound lp (callsIn_wide (n := 5).2 hbs)
              have hbs : CallsIn (Fence.wide.inRound lp) 5 Tryz.prog 12 #[.pointer (some ⟨wr.heap.size + 1, 0, none⟩), .int .i64 (kth l x.1)] W fun e w' => e = .returned (.tuple #[.int .i64 0, .pointer none, .bool false]) ∧ Below W.heap.size W w' := hbs
              gi_wp2_with (refine ⟨trivial, ?_⟩; gi_at_call 12; refine hbs.mono ?_; rintro e w5 ⟨rfl, hb5'⟩; have r1 := (Boxed.kept hI.bk (below_grown hb5' none) (by simp)).cell)
              have hid := hI.idle hb5' W0.heap.size
              rw [← hst] at hid
              exact hid
            | some q =>
              have hqk := best_cut_le hbe
              obtain ⟨q1, q2⟩ := q
              have hqk : q1 ≤ at' * (1 + iv % 20) := hqk
              rw [hbe] at hbs
              have hbs := CallsIn.inRound lp (callsIn_wide (n := 5).2 hbs)
              have hbs : CallsIn (Fence.wide.inRound lp) 5 Tryz.prog 12 #[.pointer (some ⟨wr.heap.size + 1, 0, none⟩), .int .i64 (kth l x.1)] W fun e w' => e = .returned (.tuple #[.int .i64 q1, q2, .bool true]) ∧ Below W.heap.size W w' := hbs
              clear hbe
              gi_wp2_with (refine ⟨trivial, ?_⟩; gi_at_call 12; refine hbs.mono ?_; rintro e w5 ⟨rfl, hb5'⟩; have r1 := (Boxed.kept hI.bk (below_grown hb5' none) (by simp)).cell)
              have hid := hI.idle hb5' W0.heap.size
              rw [← hst] at hid
              exact hid
        case done =>
          rintro D ys W hD rfl hI hK
          rw [cnt_all] at hI
          have hlen := callsIn_wide (n := 7).2 (len_ok hI.at_.drew)
          have hDW : D < W.heap.size := (Array.getElem?_eq_some_iff.1 hK).1
          have hwk := fun w1 (hb : Below W.drew.heap.size W.drew w1) => callsIn_wide (n := 7).2 (hw w1 (hI.below.drew.trans (hb.mono hI.below.size)))
          have hres : Boxed W.drew w.heap.size 4 (.bool false) := hI.res
          have hend := fun w1 (hb : Below W.drew.heap.size W.drew w1) w2 (hb2 : Below w1.heap.size w1 w2) => QI.done (w2 := w2) hI hb hb2 hK hD (by omega)
          have g1 := hI.bc.cell
          have g2 := hI.bn.cell
          gi_wp2
          rename_i K0 hK0
          refine wpIn_mono (Q := fun e a' w' => match e with | .normal => K0 a' w' | _ => False) ?_ (by intro e a' w' hm; cases e with | normal => exact hm | _ => exact hm.elim)
          gi_region_with (first
            | (refine ⟨trivial, ?_⟩; gi_at_call 15; refine hlen.mono ?_; rintro e w6 ⟨rfl, hb6⟩; have g3 := (Boxed.kept (W := W.drew) hI.bn (below_grown hb6 none) (by simp)).cell)
            | (refine ⟨trivial, ?_⟩; gi_at_call 13; refine (hwk _ hb6).mono ?_; rintro e w7 ⟨rfl, hb7⟩; obtain ⟨r1, r2, r3, r4, r5⟩ := hend _ hb6 _ hb7))
          all_goals
            show K0 _ _
            refine hK0 _ _ ?_
            try simp only [Act.put]
            gi_wp2
            refine ⟨by simp, .inl ⟨_, _, rfl, run_takeDeferred r3, ?_⟩⟩
            refine ⟨.bool true, ?_, ⟨rfl, r5⟩⟩
            simp [results, Tryz.f5, go_sem, r4]
        case stop =>
          rintro D c pre W _ _ h _
          exact h.elim
end Go.St
