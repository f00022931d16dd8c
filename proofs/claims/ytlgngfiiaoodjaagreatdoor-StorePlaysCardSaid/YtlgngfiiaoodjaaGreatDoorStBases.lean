/- The walk of package store: All, and what a loop over it does. -/
import Derived.Test.YtlgngfiiaoodjaaGreatDoorStWalks
import Derived.LaidEqlPtr
set_option linter.unusedVariables false
set_option linter.unusedSimpArgs false
/- The walk of package store: All, and what a loop over it does. -/
namespace Go.St
open Go Go.Proofs Go.RowKit Go.Maps Go.Shelf Go.Ev
attribute [local go_sem] Oper.semAt_some
theorem all_ok (sb : Nat) (w : World) : Calls Tryz.prog 17 #[.pointer (some ⟨sb, 0, none⟩)] w fun e w' => e = .returned (.func (.func 37) #[] #[.pointer (some ⟨w.heap.size, 0, none⟩)]) ∧ w' = w.alloc (.cells #[.pointer (some ⟨sb, 0, none⟩)] 23) := by
 go_enter Tryz.func17, Tryz.ntmps17
 go_wp2
 go_ret
 exact ⟨rfl, rfl⟩
/-- what a round keeps: rows and maps, but for those in X (it may speak of the world); of what was there X gains none -/
def KB (X : World → Nat → Prop) (W W' : World) : Prop := W.heap.size ≤ W'.heap.size ∧ (∀ i o, W.heap[i]? = some o → ¬ X W i → (o.isCells = true ∨ o.isWalk = true) → W'.heap[i]? = some o) ∧ ∀ i, i < W.heap.size → X W' i → X W i
/-- X looks at rows below B alone -/
structure XOk (B : Nat) (X : World → Nat → Prop) : Prop where
 grown : ∀ {W W' : World} {i : Nat}, B ≤ W.heap.size → W.grownBy W' none → X W' i → X W i
 put : ∀ {W : World} {l : Nat} {o o' : Obj} {i : Nat}, B ≤ l → W.heap[l]? = some o → o.isCells = false → X (W.putObj l o') i → X W i
theorem KB.refl (X : World → Nat → Prop) (W : World) : KB X W W := ⟨Nat.le_refl _, fun _ _ h _ _ => h, fun _ _ h => h⟩
theorem KB.trans {X : World → Nat → Prop} {A B C : World} (h : KB X A B) (k : KB X B C) : KB X A C :=
 ⟨Nat.le_trans h.1 k.1, fun i o hi hx ho => k.2.1 i o (h.2.1 i o hi hx ho) (fun e => hx (h.2.2 i (Array.getElem?_eq_some_iff.1 hi).1 e)) ho, fun i hi e => h.2.2 i hi (k.2.2 i (Nat.lt_of_lt_of_le hi h.1) e)⟩
theorem KB.put {B : Nat} {X : World → Nat → Prop} (hX : XOk B X) (W : World) (l : Nat) (o o' : Obj) (hl : B ≤ l) (h : W.heap[l]? = some o) (hc : o.isCells = false) (hw : o.isWalk = false) : KB X W (W.putObj l o') := by
 refine ⟨by simp, fun i p hi _ hp => ?_, fun i _ e => hX.put hl h hc e⟩
 by_cases e : i = l
 ·subst e
  rw [h] at hi; cases hi
  rw [hc, hw] at hp
  rcases hp with hp | hp <;> cases hp
 ·rw [World.putObj_heap_other e]; exact hi
theorem KB.grown {B : Nat} {X : World → Nat → Prop} (hX : XOk B X) {W W' : World} (hB : B ≤ W.heap.size) (hg : W.grownBy W' none) : KB X W W' :=
 ⟨hg.size, fun i o hi hx _ => (hg.block i (Array.getElem?_eq_some_iff.1 hi).1 (fun e => by cases e)).trans hi, fun i _ e => hX.grown hB hg e⟩
theorem KB.cell {X : World → Nat → Prop} {W W' : World} (h : KB X W W') {b o : Nat} {v : Value} (hc : W.cell? ⟨b, o, none⟩ = some v) (hb : ¬ X W b) : W'.cell? ⟨b, o, none⟩ = some v := by
 have hl := World.block_lt_of_cell? _ _ hc
 cases hh : W.heap[b]? with
 | none => simp [World.cell?, hh] at hc
 | some ob =>
  have hcl : ob.isCells = true := by
   cases ob <;> first | rfl | (simp [World.cell?, hh] at hc)
  have := h.2.1 b ob hh hb (.inl hcl)
  simp only [World.cell?, hh] at hc
  simp only [World.cell?, this]
  exact hc
theorem At.kb {X : World → Nat → Prop} {w w' : World} {sb : Nat} {d room : Int} {mb : Nat} {l : List (Int × Value)} (h : At w sb d room mb l) (hk : KB X w w') (hs : ¬ X w sb) (hm : ¬ X w mb) : At w' sb d room mb l := by
 refine ⟨hk.cell h.c0 hs, hk.cell h.c1 hs, hk.cell h.c2 hs, ?_, h.inc, h.wf, h.few⟩
 obtain ⟨es, clock, hb, rest⟩ := h.own
 exact ⟨es, clock, hk.2.1 mb _ hb hm (.inr rfl), rest⟩
set_option maxRecDepth 100000 in
set_option maxHeartbeats 2000000 in
theorem all1_in (n : Nat) (hn : 2 ≤ n) (lp Bs : Nat) {sb mb : Nat} {d room : Int} {l : List (Int × Value)} {B : Nat} (X : World → Nat → Prop) (hX : XOk B X) (J Jx : List (Fin l.length) → World → Prop)
  (hY : ∀ pre x W, J pre W → pre.length < l.length → YieldAt Fence.wide (n - 1) Tryz.prog lp #[.int .i64 (kth l x.1), at? (kth l x.1) l] W fun e W' =>
   (e = .returned (.bool true) ∧ J (pre ++ [x]) W' ∧ KB X W W') ∨ (e = .returned (.bool false) ∧ Jx (pre ++ [x]) W'))
  (W : World) (hJ : AbidesFrom W.heap.size J) (hBW : B ≤ W.heap.size) (hXl : ∀ i, X W i → i < W.heap.size) (hXs : ¬ X W sb) (hXm : ¬ X W mb) (hXB : ¬ X W Bs) (hBs : W.cell? ⟨Bs, 0, none⟩ = some (.pointer (some ⟨sb, 0, none⟩))) (h : At W sb d room mb l) (h0 : J [] W) :
  CallsIn Fence.wide n Tryz.prog 37 #[.func (.yield lp) #[] #[], .pointer (some ⟨Bs, 0, none⟩)] W fun e W' => (∃ v, e = .returned v) ∧
   ((∃ ys, ys = List.finRange l.length ∧ J ys W') ∨ (∃ pre, (∃ k, k ≤ l.length ∧ pre = (List.finRange l.length).take k) ∧ Jx pre W')) := by
 have hs := callsIn_wide (n := n - 1).2 (indexes_ok h)
 refine callsIn_of_wp Tryz.func37 rfl trivial ?_ rfl
 simp only [Tryz.ntmps37, List.size_toArray, List.length_cons, List.length_nil, Nat.reduceAdd, Nat.reduceSub, Array.replicate_succ, Array.replicate_zero, List.push_toArray, List.append_toArray, List.nil_append, List.cons_append]
 gi_wp2_with (refine ⟨trivial, fun _ => Nat.le_of_succ_le hn, ?_⟩; gi_at_call 33; refine hs.mono ?_; rintro e w' ⟨v, rfl, hrow, hbl⟩; have hlen := hrow.len)
 have hkl := keys_length l
 have hJ1 : J [] w' := hJ _ _ _ none h0 (below_grown hbl none) (fun r e => by cases e)
 have hk1 : KB X W w' := KB.grown hX hBW (below_grown hbl none)
 rcases hrow with ⟨hv, hz⟩ | ⟨g, cap, hv, hne, hg, hgl, hcell⟩
 ·have hl0 : l = [] := List.map_eq_nil_iff.1 hz
  subst hl0
  clear hs hlen hkl hz
  subst hv
  gi_loopw [8] (fun i wr => i = .int .i64 0 ∧ J [] wr) (fun _ _ => 0)
  case atStart => exact ⟨rfl, hJ1⟩
  case round =>
   obtain ⟨rfl, hJs⟩ := hrel
   have hz : ¬ 0 < (keys ([] : List (Int × Value))).length := by simp [keys]
   gi_wp2
   go_end0
   exact ⟨⟨_, rfl⟩, .inl ⟨_, rfl, hJs⟩⟩
 ·have hXg : ¬ X w' g := fun e => by have := hXl g (hX.grown hBW (below_grown hbl none) e); omega
  have HK := Lib.hid hkl
  clear hs hlen hkl
  subst hv
  gi_loopw [8] (fun i wr => ∃ k : Nat, k ≤ (keys l).length ∧ i = .int .i64 k ∧ J ((List.finRange l.length).take k) wr ∧ KB X w' wr)
   (fun i _ => (keys l).length - (RowKit.intOf i).toNat)
  case atStart => exact ⟨0, Nat.zero_le _, rfl, hJ1, KB.refl _ _⟩
  case round =>
   obtain ⟨k, hk, rfl, hJs, hkb⟩ := hrel
   have hAW := h.kb (hk1.trans hkb) hXs hXm
   have hBsW := (hk1.trans hkb).cell hBs hXB
   have hcm := hAW.c2
   have hfew := h.few
   have hkl4 : (keys l).length ≤ 4096 := by rw [HK.out]; exact hfew
   by_cases hlt : k < (keys l).length
   ·have hcx : wr.cell? ⟨g, k, none⟩ = some (.int .i64 (kth l k)) := hkb.cell (hcell k _ (kth_get hlt)) hXg
    obtain ⟨v, hv⟩ := kth_mem (l := l) hlt
    obtain ⟨_, hwf, av, hav⟩ := h.wf _ hv
    have hlk := look_ok hAW.own hwf
    have hatv : at? (kth l k) l = .pointer (some av) := by rw [at_of_mem h.inc hv]; exact hav
    obtain ⟨fn, tmps, assign, body, hy, hR⟩ := hY _ ⟨k, by rw [← HK.out]; exact hlt⟩ wr hJs (by rw [List.length_take, List.length_finRange]; have := HK.out; omega)
    dsimp only at hy
    rw [hatv] at hlk hy
    clear hcell hatv hav hv hwf hfew
    gi_wp2
    refine ⟨fun _ => Nat.le_of_succ_le hn, hR.mono ?_⟩
    have htk : ((List.finRange l.length).take k ++ [⟨k, by rw [← HK.out]; exact hlt⟩]) = (List.finRange l.length).take (k + 1) := by
     rw [List.take_add_one, List.getElem?_eq_getElem (by rw [List.length_finRange, ← HK.out]; exact hlt)]
     simp
    rintro e W3 (⟨rfl, hJ3, hk3⟩ | ⟨rfl, hJx3⟩)
    ·rw [htk] at hJ3
     clear htk
     gi_wp2
     go_roundw
     case rel => exact ⟨k + 1, by omega, by simp, hJ3, hkb.trans hk3⟩
     case measure => simp [RowKit.intOf]; omega
    ·rw [htk] at hJx3
     clear htk
     gi_wp2
     refine bodyPost_ret (results_none rfl _ _ _) rfl ?_
     exact ⟨⟨_, rfl⟩, .inr ⟨_, ⟨k + 1, by rw [← HK.out]; omega, rfl⟩, hJx3⟩⟩
   ·have hkk : k = l.length := by rw [← HK.out]; omega
    clear hcell
    gi_wp2
    go_end0
    refine ⟨⟨_, rfl⟩, .inl ⟨_, rfl, ?_⟩⟩
    rw [hkk, List.take_of_length_le (by simp)] at hJs
    exact hJs
/-- a loop over All -/
theorem all_stops (n : Nat) (hn : 2 ≤ n) (Bs : Nat) {sb mb : Nat} {d room : Int} {l : List (Int × Value)} {B : Nat} (X : World → Nat → Prop) (hX : XOk B X) (w : World) (hBw : B ≤ w.heap.size) (hXl : ∀ i, X w i → i < w.heap.size) (hXs : ¬ X w sb) (hXm : ¬ X w mb) (hXB : ¬ X w Bs)
  (hBs : w.cell? ⟨Bs, 0, none⟩ = some (.pointer (some ⟨sb, 0, none⟩))) (h : At w sb d room mb l) :
  SeqStopsK Fence.wide n Tryz.prog 37 #[.pointer (some ⟨Bs, 0, none⟩)] (fun x : Fin l.length => #[Value.int .i64 (kth l x.1), at? (kth l x.1) l]) (KB X) (fun ys => ys = List.finRange l.length) (fun pre => ∃ k, k ≤ l.length ∧ pre = (List.finRange l.length).take k) l.length w := fun lp J Jx W hW hJ _ hY h0 =>
 have hg := below_grown hW none
 all1_in n hn lp Bs X hX J Jx hY W hJ (Nat.le_trans hBw hW.size) (fun i e => Nat.lt_of_lt_of_le (hXl i (hX.grown hBw hg e)) hW.size) (fun e => hXs (hX.grown hBw hg e)) (fun e => hXm (hX.grown hBw hg e)) (fun e => hXB (hX.grown hBw hg e)) ((hW.cell (p := ⟨Bs, 0, none⟩) (World.block_lt_of_cell? _ _ hBs)).trans hBs) (h.below hW) h0
end Go.St
/- The walk of package store: Best. -/
namespace Go.St
open Go Go.Proofs Go.RowKit Go.Maps Go.Shelf Go.Ev
attribute [local go_sem] Oper.semAt_some
def bestV (r : Option (Int × Value)) : Value := match r with | some p => .tuple #[.int .i64 p.1, p.2, .bool true] | none => .tuple #[.int .i64 0, .pointer none, .bool false]
def BestE (w : World) (r : Option (Int × Value)) (e : Ending) (w' : World) : Prop := e = .returned (bestV r) ∧ Below w.heap.size w w'

/-- the world in which Best asks for the indexes -/
def w5 (w : World) (sb : Nat) (i : Int) : World := ((((w.alloc (.cells #[.pointer (some ⟨sb, 0, none⟩)] 23)).alloc (.cells #[.int .i64 i] 3)).alloc (.cells #[.int .i64 0] 3)).alloc (.cells #[.pointer none] 31)).alloc (.cells #[.bool false] 4)
theorem w5_below (w : World) (sb : Nat) (i : Int) : Below w.heap.size w (w5 w sb i) := by
 unfold w5
 exact (((((Below.refl _ w).alloc (Nat.le_refl _) _).alloc (by simp) _).alloc (by simp; omega) _).alloc (by simp; omega) _).alloc (by simp; omega) _
theorem backward_ok (a : Option Addr) (n c : Nat) (w : World) : Calls Tryz.prog 32 #[.slice a n c] w fun e w' => e = .returned (.func (.func 55) #[] #[.pointer (some ⟨w.heap.size, 0, none⟩)]) ∧ w' = w.alloc (.cells #[.slice a n c] 32) := by
 go_enter Tryz.func32, Tryz.ntmps32
 go_wp2
 go_ret
 exact ⟨rfl, rfl⟩
/-- the cells of Best's own: the store, the index, the results -/
def BestC (N sb : Nat) (i : Int) (W : World) : Prop := W.cell? ⟨N, 0, none⟩ = some (.pointer (some ⟨sb, 0, none⟩)) ∧ W.cell? ⟨N + 1, 0, none⟩ = some (.int .i64 i) ∧
 (W.cell? ⟨N + 1 + 1, 0, none⟩ = some (.int .i64 0) ∧ W.frozen? ⟨N + 1 + 1, 0, none⟩ = false) ∧ (W.cell? ⟨N + 1 + 1 + 1, 0, none⟩ = some (.pointer none) ∧ W.frozen? ⟨N + 1 + 1 + 1, 0, none⟩ = false) ∧ (W.cell? ⟨N + 1 + 1 + 1 + 1, 0, none⟩ = some (.bool false) ∧ W.frozen? ⟨N + 1 + 1 + 1 + 1, 0, none⟩ = false)
theorem w5_cells (w : World) (sb : Nat) (i : Int) : BestC w.heap.size sb i (w5 w sb i) := by
 unfold BestC w5
 refine ⟨?_, ?_, ⟨?_, ?_⟩, ⟨?_, ?_⟩, ⟨?_, ?_⟩⟩ <;> go_simp
theorem BestC.below {N sb : Nat} {i : Int} {A B : World} (h : BestC N sb i A) {n : Nat} (hb : Below n A B) (hn : N + 5 ≤ n) : BestC N sb i B := by
 obtain ⟨h1, h2, ⟨h3, h3'⟩, ⟨h4, h4'⟩, ⟨h5, h5'⟩⟩ := h
 exact ⟨(hb.cell (p := ⟨N, 0, none⟩) (by show N < n; omega)).trans h1, (hb.cell (p := ⟨N + 1, 0, none⟩) (by show N + 1 < n; omega)).trans h2,
  ⟨(hb.cell (p := ⟨N + 1 + 1, 0, none⟩) (by show N + 1 + 1 < n; omega)).trans h3, (hb.frozen (p := ⟨N + 1 + 1, 0, none⟩) (by show N + 1 + 1 < n; omega)).trans h3'⟩,
  ⟨(hb.cell (p := ⟨N + 1 + 1 + 1, 0, none⟩) (by show N + 1 + 1 + 1 < n; omega)).trans h4, (hb.frozen (p := ⟨N + 1 + 1 + 1, 0, none⟩) (by show N + 1 + 1 + 1 < n; omega)).trans h4'⟩,
  ⟨(hb.cell (p := ⟨N + 1 + 1 + 1 + 1, 0, none⟩) (by show N + 1 + 1 + 1 + 1 < n; omega)).trans h5, (hb.frozen (p := ⟨N + 1 + 1 + 1 + 1, 0, none⟩) (by show N + 1 + 1 + 1 + 1 < n; omega)).trans h5'⟩⟩
theorem BestC.kept {N sb : Nat} {i : Int} {A B : World} {row : Option Nat} (h : BestC N sb i A) (hg : A.grownBy B row) (hr : ∀ r, row = some r → ∃ o : Obj, A.heap[r]? = some o ∧ o.isCells = false) : BestC N sb i B := by
 obtain ⟨h1, h2, ⟨h3, h3'⟩, ⟨h4, h4'⟩, ⟨h5, h5'⟩⟩ := h
 exact ⟨cell_kept h1 hg hr, cell_kept h2 hg hr, ⟨cell_kept h3 hg hr, (frozen_kept h3 hg hr).trans h3'⟩, ⟨cell_kept h4 hg hr, (frozen_kept h4 hg hr).trans h4'⟩, ⟨cell_kept h5 hg hr, (frozen_kept h5 hg hr).trans h5'⟩⟩
/-- what Best has left in its cells where it has found something -/
def Found (N : Nat) (k : Int) (v : Value) (W : World) : Prop := W.cell? ⟨N + 1 + 1, 0, none⟩ = some (.int .i64 k) ∧ W.cell? ⟨N + 1 + 1 + 1, 0, none⟩ = some v ∧ W.cell? ⟨N + 1 + 1 + 1 + 1, 0, none⟩ = some (.bool true)
theorem Found.kept {N : Nat} {k : Int} {v : Value} {A B : World} {row : Option Nat} (h : Found N k v A) (hg : A.grownBy B row) (hr : ∀ r, row = some r → ∃ o : Obj, A.heap[r]? = some o ∧ o.isCells = false) : Found N k v B :=
 ⟨cell_kept h.1 hg hr, cell_kept h.2.1 hg hr, cell_kept h.2.2 hg hr⟩
theorem found_of {W : World} {N : Nat} {k : Int} {v u1 u2 u3 : Value} (h1 : W.cell? ⟨N + 1 + 1, 0, none⟩ = some u1) (h2 : W.cell? ⟨N + 1 + 1 + 1, 0, none⟩ = some u2) (h3 : W.cell? ⟨N + 1 + 1 + 1 + 1, 0, none⟩ = some u3) :
  Found N k v (((W.setCell ⟨N + 1 + 1, 0, none⟩ (.int .i64 k)).setCell ⟨N + 1 + 1 + 1, 0, none⟩ v).setCell ⟨N + 1 + 1 + 1 + 1, 0, none⟩ (.bool true)).drew := by
 refine ⟨?_, ?_, ?_⟩ <;> go_simp
theorem none_of {W : World} {N : Nat} {u1 u2 u3 : Value} (h1 : W.cell? ⟨N + 1 + 1, 0, none⟩ = some u1) (h2 : W.cell? ⟨N + 1 + 1 + 1, 0, none⟩ = some u2) (h3 : W.cell? ⟨N + 1 + 1 + 1 + 1, 0, none⟩ = some u3) :
  (((W.setCell ⟨N + 1 + 1, 0, none⟩ (.int .i64 0)).setCell ⟨N + 1 + 1 + 1, 0, none⟩ (.pointer none)).setCell ⟨N + 1 + 1 + 1 + 1, 0, none⟩ (.bool false)).cell? ⟨N + 1 + 1, 0, none⟩ = some (.int .i64 0) ∧
  (((W.setCell ⟨N + 1 + 1, 0, none⟩ (.int .i64 0)).setCell ⟨N + 1 + 1 + 1, 0, none⟩ (.pointer none)).setCell ⟨N + 1 + 1 + 1 + 1, 0, none⟩ (.bool false)).cell? ⟨N + 1 + 1 + 1, 0, none⟩ = some (.pointer none) ∧
  (((W.setCell ⟨N + 1 + 1, 0, none⟩ (.int .i64 0)).setCell ⟨N + 1 + 1 + 1, 0, none⟩ (.pointer none)).setCell ⟨N + 1 + 1 + 1 + 1, 0, none⟩ (.bool false)).cell? ⟨N + 1 + 1 + 1 + 1, 0, none⟩ = some (.bool false) := by
 refine ⟨?_, ?_, ?_⟩ <;> go_simp
set_option maxRecDepth 100000 in
set_option maxHeartbeats 4000000 in
theorem best_row (F : Fence) (hF : F = Fence.wide) {sb mb : Nat} {d room i : Int} {l : List (Int × Value)} {w : World} (h : At w sb d room mb l) (hl0 : l ≠ []) :
  CallsIn F 7 Tryz.prog 12 #[.pointer (some ⟨sb, 0, none⟩), .int .i64 i] w (BestE w (best i l)) := by
 subst hF
 have hs := callsIn_wide (n := 6).2 (indexes_ok (h.below (w5_below w sb i)))
 have HC := Lib.hid (w5_cells w sb i)
 have HB := Lib.hid (w5_below w sb i)
 unfold w5 at hs HC HB
 refine callsIn_of_wp_marks Tryz.func12 rfl trivial ?_ rfl
 simp only [Tryz.ntmps12, List.size_toArray, List.length_cons, List.length_nil, Nat.reduceAdd, Nat.reduceSub, Array.replicate_succ, Array.replicate_zero, List.push_toArray, List.append_toArray, List.nil_append, List.cons_append]
 gi_wp2_with (first
  | (refine ⟨trivial, ?_⟩; gi_at_call 33; refine hs.mono ?_; rintro e w' ⟨v, rfl, hrow, hbl⟩)
  | (gi_at_call 33; refine hs.mono ?_; rintro e w' ⟨v, rfl, hrow, hbl⟩))
 rcases hrow with ⟨hv, hz⟩ | ⟨g, cap, hv, hne, hg, hgl, hcell⟩
 ·exact absurd (List.map_eq_nil_iff.1 hz) hl0
 obtain ⟨m, hm⟩ : ∃ m, (keys l).length = m + 1 := ⟨(keys l).length - 1, by have := List.length_pos_iff.2 hne; omega⟩
 have HM := Lib.hid hm
 rw [hm] at hv
 clear hm
 subst hv
 have hN : w.heap.size + 5 ≤ w'.heap.size := by have := hbl.size; simp at this; omega
 have hC := BestC.below HC.out hbl (by simp)
 have hB := HB.out.trans (hbl.mono (by simp; omega))
 clear hbl hs
 gi_wp2_with (first
  | (refine ⟨trivial, ?_⟩; gi_at_call 32; refine (callsIn_wide.2 (backward_ok _ _ _ _)).mono ?_; rintro e w'' ⟨rfl, rfl⟩)
  | (gi_at_call 32; refine (callsIn_wide.2 (backward_ok _ _ _ _)).mono ?_; rintro e w'' ⟨rfl, rfl⟩))
 have hfew : m < 4096 := by have := HM.out; rw [keys_length] at this; have := h.few; omega
 have hcells : ∀ j, j ≤ m → (w'.alloc (.cells #[.slice (some ⟨g, 0, none⟩) (m + 1) cap] 32)).cell? ⟨g, j, none⟩ = some (.int .i64 (kth l j)) := fun j hj => by
  have hj' : j < (keys l).length := by rw [HM.out]; omega
  have e1 : (keys l)[j]? = some (kth l j) := by unfold kth; rw [List.getElem?_eq_getElem hj']; rfl
  exact cell_kept (hcell j _ e1) (World.grownBy_alloc w' _ none) (fun r e => by cases e)
 refine wpIn_rangeFunc_ownG rfl (by omega) (gf := 55) (lb := #[.pointer (some ⟨w'.heap.size, 0, none⟩)]) rfl trivial (enters_of Tryz.func55 (by kernel_rfl) rfl)
  (back_stops Fence.wide 6 trivial rfl (by omega) w'.heap.size (w'.heap.size + 1) g cap m (kth l) hfew (by omega) (by omega) _ (by simp) (cell_new1 _ _ _) hcells) belowK_t (belowK_b (by simp)) (Below.refl _ _) (fun _ => rfl)
  (fun pre W => ((∀ p ∈ pre, i < kth l p.1) ∧ BestC w.heap.size sb i W) ∧ Below w.heap.size w W)
  (fun c pre W => (c = .ret ∧ ∃ ini last, pre = ini ++ [last] ∧ (∀ p ∈ ini, i < kth l p.1) ∧ kth l last.1 ≤ i ∧ Found w.heap.size (kth l last.1) (at? (kth l last.1) l) W) ∧ Below w.heap.size w W)
  (OwnFrom.and (Own.from (fun s A B row hs hg hr => ⟨hs.1, hs.2.kept hg hr⟩) _) (ownFrom_below (Nat.le_refl _) (by simp; omega)))
  (fun c => OwnFrom.and (Own.from (fun s A B row hs hg hr => by obtain ⟨hc, ini, last, e1, e2, e3, e4⟩ := hs; exact ⟨hc, ini, last, e1, e2, e3, e4.kept hg hr⟩) _) (ownFrom_below (Nat.le_refl _) (by simp; omega)))
  ⟨⟨by simp, hC.kept (World.grownBy_alloc _ _ none) (fun r e => by cases e)⟩, hB.alloc (by omega) _⟩
  (fun x => { tmps := #[.pointer (some ⟨sb, 0, none⟩), .int .i64 i, .pointer (some ⟨w.heap.size, 0, none⟩), .pointer (some ⟨w.heap.size + 1, 0, none⟩), .pointer (some ⟨w.heap.size + 1 + 1, 0, none⟩), .pointer (some ⟨w.heap.size + 1 + 1 + 1, 0, none⟩), .pointer (some ⟨w.heap.size + 1 + 1 + 1 + 1, 0, none⟩), undef, .int .i64 (kth l x.1), .pointer (some ⟨sb, 0, none⟩), .slice (some ⟨g, 0, none⟩) (m + 1) cap, .func (.func 55) #[] #[.pointer (some ⟨w'.heap.size, 0, none⟩)], .int .i64 (x.1 : Int), .int .i64 (kth l x.1), undef, undef, undef, undef, undef, undef, undef, undef, undef, undef], defers := [] }) ?assign ?body ?done ?stop
 case assign =>
  intro lp x W K hK
  gi_wp2
  exact hK
 case body =>
  rintro lp pre x W ⟨⟨hp, hCW⟩, hBW⟩ _
  have hAW := h.below hBW
  have c2 := hAW.c2
  have hxl : x.1 < (keys l).length := by rw [HM.out]; exact x.2
  have hmem : ∃ v, (kth l x.1, v) ∈ l := by
   have h1 : (keys l)[x.1]? = some (kth l x.1) := by unfold kth; rw [List.getElem?_eq_getElem hxl]; rfl
   have h2 : kth l x.1 ∈ keys l := List.mem_of_getElem? h1
   obtain ⟨p, hp1, hp2⟩ := List.mem_map.1 h2
   exact ⟨p.2, by rw [← hp2]; exact hp1⟩
  have hwf : (Lit.int .i64 (kth l x.1)).wf = true := by obtain ⟨v, hv⟩ := hmem; exact (h.wf _ hv).2.1
  obtain ⟨av, hav⟩ : ∃ a, at? (kth l x.1) l = .pointer (some a) := by obtain ⟨v, hv⟩ := hmem; rw [at_of_mem h.inc hv]; exact (h.wf _ hv).2.2
  have HA := Lib.hid hav
  have hmne : mb ≠ w.heap.size + 1 + 1 := by have := h.own.lt; omega
  have hlk1 := look_ok (w := W.drew) hAW.own hwf
  have hlk2 := look_ok (w := (W.setCell ⟨w.heap.size + 1 + 1, 0, none⟩ (.int .i64 (kth l x.1))).drew) (hAW.own.setCell (a := ⟨w.heap.size + 1 + 1, 0, none⟩) hmne _) hwf
  have hlk3 := look_ok (w := W.drew.setCell ⟨w.heap.size + 1 + 1, 0, none⟩ (.int .i64 (kth l x.1))) (hAW.own.setCell (a := ⟨w.heap.size + 1 + 1, 0, none⟩) hmne _) hwf
  rw [hav] at hlk1 hlk2 hlk3
  obtain ⟨d1, d2, ⟨d3, f3⟩, ⟨d4, f4⟩, ⟨d5, f5⟩⟩ := hCW
  clear hmem hxl hav
  by_cases hle : kth l x.1 ≤ i
  ·gi_wp2
   refine wpIn_mono (Q := fun e a' wz => e = .normal ∧ a' = { tmps := #[.pointer (some ⟨sb, 0, none⟩), .int .i64 i, .pointer (some ⟨w.heap.size, 0, none⟩), .pointer (some ⟨w.heap.size + 1, 0, none⟩), .pointer (some ⟨w.heap.size + 1 + 1, 0, none⟩), .pointer (some ⟨w.heap.size + 1 + 1 + 1, 0, none⟩), .pointer (some ⟨w.heap.size + 1 + 1 + 1 + 1, 0, none⟩), undef, .int .i64 (kth l x.1), .pointer (some ⟨sb, 0, none⟩), .slice (some ⟨g, 0, none⟩) (m + 1) cap, .func (.func 55) #[] #[.pointer (some ⟨w'.heap.size, 0, none⟩)], .int .i64 (x.1 : Int), .int .i64 (kth l x.1), .int .i64 (kth l x.1), .int .i64 i, .bool true, .int .i64 (kth l x.1), .pointer (some ⟨sb, 0, none⟩), .pointer (some ⟨sb, 0, none⟩), .pointer (some ⟨sb, 2, none⟩), .map (some mb), .int .i64 (kth l x.1), .pointer (some av)], defers := [] } ∧
    wz = (((W.setCell ⟨w.heap.size + 1 + 1, 0, none⟩ (.int .i64 (kth l x.1))).setCell ⟨w.heap.size + 1 + 1 + 1, 0, none⟩ (.pointer (some av))).setCell ⟨w.heap.size + 1 + 1 + 1 + 1, 0, none⟩ (.bool true)).drew) ?_ ?_
   ·go_light
    clear HC HB HM HA hp hBW hAW hcells hfew hN hC hB hgl hg hcell hne hwf h hl0 hle
    gi_region
    all_goals exact ⟨rfl, rfl, rfl⟩
   ·rintro e a' w3 ⟨rfl, rfl, rfl⟩
    gi_wp2
    have hK : KeepsOthers W ((((W.setCell ⟨w.heap.size + 1 + 1, 0, none⟩ (.int .i64 (kth l x.1))).setCell ⟨w.heap.size + 1 + 1 + 1, 0, none⟩ (.pointer (some av))).setCell ⟨w.heap.size + 1 + 1 + 1 + 1, 0, none⟩ (.bool true)).drew) :=
     (((KeepsOthers.setCell W _ _).trans (KeepsOthers.setCell _ _ _)).trans (KeepsOthers.setCell _ _ _)).trans (KeepsOthers.drew _)
    exact ⟨hK.from _, ⟨rfl, pre, x, rfl, hp, hle, by rw [HA.out]; exact found_of d3 d4 d5⟩, ((((hBW.setCell (p := ⟨w.heap.size + 1 + 1, 0, none⟩) (by show w.heap.size ≤ w.heap.size + 1 + 1; omega) _).setCell (p := ⟨w.heap.size + 1 + 1 + 1, 0, none⟩) (by show w.heap.size ≤ w.heap.size + 1 + 1 + 1; omega) _).setCell (p := ⟨w.heap.size + 1 + 1 + 1 + 1, 0, none⟩) (by show w.heap.size ≤ w.heap.size + 1 + 1 + 1 + 1; omega) _).drew)⟩
  ·gi_wp2
   exact ⟨KeepsFrom.refl _ _, Below.refl _ _, ⟨fun p hp' => (List.mem_append.1 hp').elim (hp p) (fun e => by simp at e; subst e; omega), d1, d2, ⟨d3, f3⟩, ⟨d4, f4⟩, ⟨d5, f5⟩⟩, hBW⟩
 case done =>
  rintro D ys W hD rfl ⟨⟨hne', hCW⟩, hBW⟩ hK
  obtain ⟨d1, d2, ⟨d3, f3⟩, ⟨d4, f4⟩, ⟨d5, f5⟩⟩ := hCW
  gi_wp2
  have hK' := (((KeepsOthers.setCell W ⟨w.heap.size + 1 + 1, 0, none⟩ (.int .i64 0)).trans (KeepsOthers.setCell _ ⟨w.heap.size + 1 + 1 + 1, 0, none⟩ (.pointer none))).trans (KeepsOthers.setCell _ ⟨w.heap.size + 1 + 1 + 1 + 1, 0, none⟩ (.bool false))).same D _ hK rfl
  refine ⟨by simp, .inl ⟨_, _, rfl, run_takeDeferred hK', ?_⟩⟩
  have hput := grownBy_putObj' (((W.setCell ⟨w.heap.size + 1 + 1, 0, none⟩ (.int .i64 0)).setCell ⟨w.heap.size + 1 + 1 + 1, 0, none⟩ (.pointer none)).setCell ⟨w.heap.size + 1 + 1 + 1 + 1, 0, none⟩ (.bool false)) D (.deferred none)
  have g3 := cell_kept (none_of d3 d4 d5).1 hput (fun r e => by cases e; exact ⟨_, hK', rfl⟩)
  have g4 := cell_kept (none_of d3 d4 d5).2.1 hput (fun r e => by cases e; exact ⟨_, hK', rfl⟩)
  have g5 := cell_kept (none_of d3 d4 d5).2.2 hput (fun r e => by cases e; exact ⟨_, hK', rfl⟩)
  have hb0 := best_none_row HM.out hne'
  refine ⟨.tuple #[.int .i64 0, .pointer none, .bool false], ?_, by rw [hb0]; rfl, (((hBW.setCell (p := ⟨w.heap.size + 1 + 1, 0, none⟩) (by show w.heap.size ≤ w.heap.size + 1 + 1; omega) _).setCell (p := ⟨w.heap.size + 1 + 1 + 1, 0, none⟩) (by show w.heap.size ≤ w.heap.size + 1 + 1 + 1; omega) _).setCell (p := ⟨w.heap.size + 1 + 1 + 1 + 1, 0, none⟩) (by show w.heap.size ≤ w.heap.size + 1 + 1 + 1 + 1; omega) _).trans (belowK_b (w := w) (Nat.le_refl _) _ D _ _ (by simp at hD; omega) hK' rfl rfl)⟩
  simp [results, Tryz.f12, go_sem, g3, g4, g5]
 case stop =>
  rintro D c pre W hD ⟨k, hk, rfl⟩ ⟨⟨rfl, ini, last, e1, e2, e3, hfd⟩, hBW⟩ hK
  have hbest := best_of_row h.inc HM.out e1 e2 e3
  gi_wp2
  refine ⟨by simp, .inl ⟨_, _, rfl, run_takeDeferred hK, ?_⟩⟩
  have hput := grownBy_putObj' W D (.deferred none)
  obtain ⟨g3, g4, g5⟩ := hfd.kept hput (fun r e => by cases e; exact ⟨_, hK, rfl⟩)
  refine ⟨.tuple #[.int .i64 (kth l last.1), at? (kth l last.1) l, .bool true], ?_, by rw [hbest]; rfl, hBW.trans (belowK_b (w := w) (Nat.le_refl _) W D _ _ (by simp at hD; omega) hK rfl rfl)⟩
  simp [results, Tryz.f12, go_sem, g3, g4, g5]
set_option maxRecDepth 100000 in
set_option maxHeartbeats 4000000 in
theorem best_nil (F : Fence) (hF : F = Fence.wide) {sb mb : Nat} {d room i : Int} {w : World} (h : At w sb d room mb []) :
  CallsIn F 7 Tryz.prog 12 #[.pointer (some ⟨sb, 0, none⟩), .int .i64 i] w (BestE w none) := by
 subst hF
 have hs := callsIn_wide (n := 6).2 (indexes_ok (h.below (w5_below w sb i)))
 have HC := Lib.hid (w5_cells w sb i)
 have HB := Lib.hid (w5_below w sb i)
 unfold w5 at hs HC HB
 refine callsIn_of_wp_marks Tryz.func12 rfl trivial ?_ rfl
 simp only [Tryz.ntmps12, List.size_toArray, List.length_cons, List.length_nil, Nat.reduceAdd, Nat.reduceSub, Array.replicate_succ, Array.replicate_zero, List.push_toArray, List.append_toArray, List.nil_append, List.cons_append]
 gi_wp2_with (first
  | (refine ⟨trivial, ?_⟩; gi_at_call 33; refine hs.mono ?_; rintro e w' ⟨v, rfl, hrow, hbl⟩)
  | (gi_at_call 33; refine hs.mono ?_; rintro e w' ⟨v, rfl, hrow, hbl⟩))
 have hv : v = .slice none 0 0 := by
  rcases hrow with ⟨hv, hz⟩ | ⟨g, cap, hv, hne, hg, hgl, hcell⟩
  ·exact hv
  ·exact absurd rfl hne
 clear hrow
 subst hv
 have hN : w.heap.size + 5 ≤ w'.heap.size := by have := hbl.size; simp at this; omega
 have hC := BestC.below HC.out hbl (by simp)
 have hB := HB.out.trans (hbl.mono (by simp; omega))
 clear hbl hs
 gi_wp2_with (first
  | (refine ⟨trivial, ?_⟩; gi_at_call 32; refine (callsIn_wide.2 (backward_ok _ _ _ _)).mono ?_; rintro e w'' ⟨rfl, rfl⟩)
  | (gi_at_call 32; refine (callsIn_wide.2 (backward_ok _ _ _ _)).mono ?_; rintro e w'' ⟨rfl, rfl⟩))
 refine wpIn_rangeFunc_ownG rfl (by omega) (gf := 55) (lb := #[.pointer (some ⟨w'.heap.size, 0, none⟩)]) rfl trivial (enters_of Tryz.func55 (by kernel_rfl) rfl)
  (back_nil_stops Fence.wide 6 trivial rfl w'.heap.size (w'.heap.size + 1) _ (by simp) (cell_new1 _ _ _)) belowK_t (belowK_b (by simp)) (Below.refl _ _) (fun _ => rfl)
  (fun pre W => BestC w.heap.size sb i W ∧ Below w.heap.size w W)
  (fun c pre W => False)
  (OwnFrom.and (Own.from (fun s A B row hs hg hr => hs.kept hg hr) _) (ownFrom_below (Nat.le_refl _) (by simp; omega)))
  (fun _ _ _ _ _ hs _ _ => hs)
  ⟨hC.kept (World.grownBy_alloc _ _ none) (fun r e => by cases e), hB.alloc (by omega) _⟩
  (fun x => { tmps := #[.pointer (some ⟨sb, 0, none⟩), .int .i64 i, .pointer (some ⟨w.heap.size, 0, none⟩), .pointer (some ⟨w.heap.size + 1, 0, none⟩), .pointer (some ⟨w.heap.size + 1 + 1, 0, none⟩), .pointer (some ⟨w.heap.size + 1 + 1 + 1, 0, none⟩), .pointer (some ⟨w.heap.size + 1 + 1 + 1 + 1, 0, none⟩), undef, .int .i64 0, .pointer (some ⟨sb, 0, none⟩), .slice none 0 0, .func (.func 55) #[] #[.pointer (some ⟨w'.heap.size, 0, none⟩)], .int .i64 0, .int .i64 0, undef, undef, undef, undef, undef, undef, undef, undef, undef, undef], defers := [] }) ?assign ?body ?done ?stop
 case assign =>
  intro lp x W K hK
  gi_wp2
  exact hK
 case body =>
  intro lp pre x W _ hlt
  exact absurd hlt (by omega)
 case done =>
  rintro D ys W hD rfl ⟨hCW, hBW⟩ hK
  obtain ⟨d1, d2, ⟨d3, f3⟩, ⟨d4, f4⟩, ⟨d5, f5⟩⟩ := hCW
  gi_wp2
  have hK' := (((KeepsOthers.setCell W ⟨w.heap.size + 1 + 1, 0, none⟩ (.int .i64 0)).trans (KeepsOthers.setCell _ ⟨w.heap.size + 1 + 1 + 1, 0, none⟩ (.pointer none))).trans (KeepsOthers.setCell _ ⟨w.heap.size + 1 + 1 + 1 + 1, 0, none⟩ (.bool false))).same D _ hK rfl
  refine ⟨by simp, .inl ⟨_, _, rfl, run_takeDeferred hK', ?_⟩⟩
  have hput := grownBy_putObj' (((W.setCell ⟨w.heap.size + 1 + 1, 0, none⟩ (.int .i64 0)).setCell ⟨w.heap.size + 1 + 1 + 1, 0, none⟩ (.pointer none)).setCell ⟨w.heap.size + 1 + 1 + 1 + 1, 0, none⟩ (.bool false)) D (.deferred none)
  have g3 := cell_kept (none_of d3 d4 d5).1 hput (fun r e => by cases e; exact ⟨_, hK', rfl⟩)
  have g4 := cell_kept (none_of d3 d4 d5).2.1 hput (fun r e => by cases e; exact ⟨_, hK', rfl⟩)
  have g5 := cell_kept (none_of d3 d4 d5).2.2 hput (fun r e => by cases e; exact ⟨_, hK', rfl⟩)
  refine ⟨.tuple #[.int .i64 0, .pointer none, .bool false], ?_, rfl, (((hBW.setCell (p := ⟨w.heap.size + 1 + 1, 0, none⟩) (by show w.heap.size ≤ w.heap.size + 1 + 1; omega) _).setCell (p := ⟨w.heap.size + 1 + 1 + 1, 0, none⟩) (by show w.heap.size ≤ w.heap.size + 1 + 1 + 1; omega) _).setCell (p := ⟨w.heap.size + 1 + 1 + 1 + 1, 0, none⟩) (by show w.heap.size ≤ w.heap.size + 1 + 1 + 1 + 1; omega) _).trans (belowK_b (w := w) (Nat.le_refl _) _ D _ _ (by simp at hD; omega) hK' rfl rfl)⟩
  simp [results, Tryz.f12, go_sem, g3, g4, g5]
 case stop =>
  rintro D c pre W _ _ h _
  exact h.elim
/-- Best, whatever is kept -/
theorem best_ok {sb mb : Nat} {d room i : Int} {l : List (Int × Value)} {w : World} (h : At w sb d room mb l) : Calls Tryz.prog 12 #[.pointer (some ⟨sb, 0, none⟩), .int .i64 i] w (BestE w (best i l)) := by
 by_cases hl : l = []
 ·subst hl
  exact callsIn_wide.1 (best_nil Fence.wide rfl h)
 ·exact callsIn_wide.1 (best_row Fence.wide rfl h hl)
end Go.St
/- What the statements of stores have in common: snapshots, what a law's call ends in. -/
namespace Go.St
open Go Go.Proofs Go.RowKit Go.Maps Go.Shelf Go.Ev
theorem info_snap : (Tryz.prog.info? 158).isSome = true := by kernel_rfl
/-- a pointer is equal to itself -/
theorem ptr_same (a : Addr) (w : World) : (binOp .eql 31 (.pointer (some a)) (.pointer (some a))).run Tryz.prog w = .ok (.bool true) w := by
 obtain ⟨j, hj⟩ := Option.isSome_iff_exists.1 info_snap
 exact run_eql_ptr_same w a Tryz.underlying31 hj
theorem ptr_nsame (a : Addr) (w : World) : (binOp .neq 31 (.pointer (some a)) (.pointer (some a))).run Tryz.prog w = .ok (.bool false) w := by
 obtain ⟨j, hj⟩ := Option.isSome_iff_exists.1 info_snap
 have h : ∀ d : Nat, (Op.equalIn (d + 1) 31 (.pointer (some a)) (.pointer (some a))).run Tryz.prog w = .ok true w := fun d => by
  simp [Op.equalIn, run_underlying Tryz.underlying31, sizeOf, typeInfo, hj, run_sameAddr_same]
 simp only [binOp]
 simp [Op.equal, Op.maxDepth, h 9999]
/-- a slice of n snapshots -/
def Snaps (W : World) (n : Nat) (g : Nat) (bs : Nat → Nat) : Prop := ∀ j, j < n → W.cell? ⟨g, j, none⟩ = some (.pointer (some ⟨bs j, 0, none⟩)) ∧ ∃ a, W.cell? ⟨bs j, 0, none⟩ = some (.pointer (some a))
def SnapsE (W : World) (n : Nat) (e : Ending) (w' : World) : Prop := ∃ g c bs, e = .returned (.slice (some ⟨g, 0, none⟩) n c) ∧ Snaps w' n g bs ∧ Below W.heap.size W w'
theorem Snaps.kept {W W' : World} {n g : Nat} {bs : Nat → Nat} {row : Option Nat} (h : Snaps W n g bs) (hg : W.grownBy W' row) (hr : ∀ r, row = some r → ∃ o : Obj, W.heap[r]? = some o ∧ o.isCells = false) : Snaps W' n g bs := fun j hj => by
 obtain ⟨h1, a, h2⟩ := h j hj
 exact ⟨cell_kept h1 hg hr, a, cell_kept h2 hg hr⟩
theorem At.row {W : World} {sb : Nat} {d room : Int} {mb : Nat} {l : List (Int × Value)} (h : At W sb d room mb l) : ∀ r, some mb = some r → ∃ o : Obj, W.heap[r]? = some o ∧ o.isCells = false := fun r e => by
 obtain ⟨es, clock, hb, _⟩ := h.own
 cases e
 exact ⟨_, hb, rfl⟩
def WorksE (W : World) (e : Ending) (w' : World) : Prop := e = .returned (.bool true) ∧ Below W.heap.size W w'
def LawE (w : World) (e : Ending) (w' : World) : Prop := e = .returned (.bool true) ∧ Below w.heap.size w w'
theorem int_congr {a b : Int} (h : a = b) : Value.int .i64 a = Value.int .i64 b := by rw [h]
theorem fn_eqIn (d f : Nat) (cs : Array Value) (W : World) : (Op.equalIn (d + 1) 45 (.func (.func f) #[] cs) .nilFunc).run Tryz.prog W = .ok false W := by
 simp [Op.equalIn, run_underlying Tryz.underlying45]
theorem fn_not_nil (f : Nat) (cs : Array Value) (W : World) : (binOp .eql 45 (.func (.func f) #[] cs) .nilFunc).run Tryz.prog W = .ok (.bool false) W := by
 simp only [binOp]
 simp [Op.equal, Op.maxDepth, fn_eqIn 9999]
end Go.St
