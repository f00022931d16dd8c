/- The document's store, walked: Copy. -/
import Derived.Test.YtlgngfiiaoodjaaGreatDoorStRefs
import Derived.Test.YtlgngfiiaoodjaaGreatDoorStLoops
import Derived.Test.YtlgngfiiaoodjaaGreatDoorStWalks
import Derived.Test.YtlgngfiiaoodjaaGreatDoorStBases
set_option linter.unusedVariables false
set_option linter.unusedSimpArgs false
/- The document's store, walked: Copy. -/
namespace Go.St
open Go Go.Proofs Go.RowKit Go.Maps Go.Shelf Go.Ev
/-- a slice of items, to be read: m items, of which these are the cells -/
def Reads (w : World) (y : Value) (m : Nat) (news : List Value) : Prop :=
 (y = .slice none 0 0 ∧ m = 0 ∧ news = []) ∨ ∃ (ad : Addr) (c : Nat), y = .slice (some ad) m c ∧ news.length = m * 2 ∧ ∀ j u, news[j]? = some u → w.cell? (ad.add j) = some u
theorem Reads.kept {w w' : World} {y : Value} {m : Nat} {news : List Value} (h : Reads w y m news) (hg : w.grownBy w' none) : Reads w' y m news := by
 rcases h with h | ⟨ad, c, h1, h2, h3⟩
 ·exact .inl h
 ·exact .inr ⟨ad, c, h1, h2, fun j u hj => hg.cell (h3 j u hj) (by simp)⟩
theorem RAt.reads {w : World} {rb : Nat} {d room : Int} {r : List (Int × Int)} {v : Value} (h : RAt w rb d room r v) : Reads w v r.length (flat r) := by
 rcases h.row.2 with ⟨rfl, hn⟩ | ⟨g, cap, cur, rfl, _⟩
 ·refine .inl ⟨rfl, hn, ?_⟩
  have := h.row.1
  rw [hn] at this
  exact List.eq_nil_of_length_eq_zero (by simpa using this)
 ·exact .inr ⟨_, _, rfl, h.row.1, h.row.cells (g := g) rfl⟩
theorem flat_cell (r : List (Int × Int)) : ∀ u ∈ flat r, u.oneCell' = true := by
 intro u hu
 unfold flat at hu
 obtain ⟨p, _, hp⟩ := List.mem_flatMap.1 hu
 simp at hp
 rcases hp with rfl | rfl <;> rfl
section
variable {ops : Array Oper} {Q : Exit → Act → World → Prop} {md : Region.Mode}
/-- append of a slice of items -/
theorem AllR.appendS {R : Nat → World → Prop} {fuel : Nat} {listed : Array Bool} {a : Act} {w : World} {i : Nat} {o : Oper} {rs : List Nat} (ho : ops[i]? = some o) (hw : Region.wanted o (yielded ops a.tmps) = true)
  {sx x : Operand} (hop : o.op = .call { callee := .builtin .append, args := #[sx, x], argTypes := #[94, 94] }) {b0 : Nat}
  {v y : Value} {n m : Nat} {xs news : List Value} (hs : a.eval sx = v) (hown : w.ownsRow b0 98 2 v n xs) (hx : a.eval x = y) (hy : Reads w y m news) (h1 : ∀ u ∈ news, u.oneCell' = true) (hn : n + m ≤ 100000) (hb : b0 ≤ w.heap.size)
  (h : ∀ v' w', w'.ownsRow b0 98 2 v' (n + m) (xs ++ news) → w.grownBy w' v.ownBlock → (v'.ownBlock = v.ownBlock ∨ v'.ownBlock = some w.heap.size) → R i w' ∧ wpAnyR Tryz.prog md ops Q R fuel (listed.setIfInBounds i true) (a.put o.dst v') w')
  (hrest : AllR Tryz.prog md ops Q R fuel listed a w rs) : AllR Tryz.prog md ops Q R fuel listed a w (i :: rs) := by
 obtain ⟨i98, hi98, hz0, hz1, hz2⟩ := info98_parts
 rcases hy with ⟨rfl, rfl, rfl⟩ | ⟨ad, c, rfl, hl, hc⟩
 ·obtain ⟨p, c, rfl, hnc⟩ : ∃ p c, v = .slice p n c ∧ n ≤ c := by
   rcases hown.2 with ⟨rfl, rfl⟩ | ⟨g, cap, cur, rfl, _, _, h5, _⟩
   ·exact ⟨none, 0, rfl, Nat.le_refl _⟩
   ·exact ⟨_, _, rfl, h5⟩
  obtain ⟨hR, hN⟩ := h _ w (by simpa using hown) (World.grownBy.refl _ _) (.inl rfl)
  refine AllR.value ho hw (v := .slice p n c) (w' := w) ?_ hR hN hrest
  simp [execOp, hop, resolve, invoke, builtin, hs, hx, Builtin.append_, run_underlying Tryz.underlying94, sizeOf, typeInfo, hi98, Builtin.lenOf, Builtin.firstCells, loadCells, loadCellsFrom, Result.andThen, hnc]
  cases p <;> simp [storeCells]
 ·obtain ⟨v', w', hr, h2, h3, h4, h5⟩ := run_append_own_at (P := Tryz.prog) w b0 94 o.type 98 i98 (.agg #[.int .i64 0, .int .i64 0]) 2 16 Tryz.underlying94 hi98 hz0 hz1 hz2 rfl (by decide) v n xs hown ad m c news hl hc h1 (by unfold maxLen; omega) (by omega) hb
  obtain ⟨hR, hN⟩ := h v' w' h2 h3 h5
  exact AllR.value ho hw (v := v') (w' := w') (by simp [execOp, hop, resolve, invoke, builtin, hs, hx, hr, Result.andThen]) hR hN hrest
end
set_option maxRecDepth 100000 in
set_option maxHeartbeats 1000000 in
theorem rcopy_ok {w : World} {rb : Nat} {d room : Int} {r : List (Int × Int)} {v : Value} (h : RAt w rb d room r v) (hd : 1 ≤ d) : Calls Tryz.prog 22 #[.pointer (some ⟨rb, 0, none⟩)] w fun e w' => ∃ rb' v', e = .returned (.pointer (some ⟨rb', 0, none⟩)) ∧ w.heap.size ≤ rb' ∧ RAt w' rb' d room r v' ∧ w'.ownsRow w.heap.size 98 2 v' r.length (flat r) ∧ Below w.heap.size w w' := by
 have hv := rvalid_ok rb d w h.c0 hd
 have c0 := h.c0
 have c1 := h.c1
 have c2 := h.c2
 obtain ⟨ps, pc, hsl⟩ := h.slice
 go_enter Tryz.func22, Tryz.ntmps22
 go_wp2_with (go_at_call 38; refine hv.mono ?_; rintro e w' ⟨rfl, rfl⟩)
 rename_i K0 hK0
 refine wp_region_R (R := fun _ => (fun W' => W'.cell? ⟨rb, 0, none⟩ = some (.int .i64 d) ∧ W'.cell? ⟨rb, 1, none⟩ = some (.int .i64 room) ∧ W'.cell? ⟨rb, 2, none⟩ = some v)) (by kernel_rfl) ?_
 change wpAnyR Tryz.prog .any _ _ _ 17 (Array.replicate 17 false) _ _
 have hS : (fun W' => W'.cell? ⟨rb, 0, none⟩ = some (.int .i64 d) ∧ W'.cell? ⟨rb, 1, none⟩ = some (.int .i64 room) ∧ W'.cell? ⟨rb, 2, none⟩ = some v) w.drew := ⟨c0, c1, c2⟩
 obtain ⟨ps, pc, rfl⟩ : ∃ p c, v = .slice p r.length c := ⟨ps, pc, hsl⟩
 refine wpAnyR_take (fun W' => W'.cell? ⟨rb, 0, none⟩ = some (.int .i64 d) ∧ W'.cell? ⟨rb, 1, none⟩ = some (.int .i64 room) ∧ W'.cell? ⟨rb, 2, none⟩ = some (.slice ps r.length pc)) (i := 0) (v := .pointer (some ⟨rb, 0, none⟩)) (fun _ => false) rfl (by kernel_rfl) (by kernel_rfl) (by kernel_rfl) (by kernel_rfl) rfl (by kernel_rfl) (fun _ _ _ h => h) (fun j w _ hR => hR) (fun w hS => hS) (.inl ⟨by rfl, fun w hS => ?x0⟩) hS ?_
 case x0 => obtain ⟨s1, s2, s3⟩ := hS; go_simp
 try simp only [Act.put, List.getElem_toArray, List.getElem_cons_zero, List.getElem_cons_succ, List.setIfInBounds_toArray, List.set_cons_zero, List.set_cons_succ]
 refine wpAnyR_take (fun W' => W'.cell? ⟨rb, 0, none⟩ = some (.int .i64 d) ∧ W'.cell? ⟨rb, 1, none⟩ = some (.int .i64 room) ∧ W'.cell? ⟨rb, 2, none⟩ = some (.slice ps r.length pc)) (i := 1) (v := .pointer (some ⟨rb, 0, none⟩)) (fun _ => false) rfl (by kernel_rfl) (by kernel_rfl) (by kernel_rfl) (by kernel_rfl) rfl (by kernel_rfl) (fun _ _ _ h => h) (fun j w _ hR => hR) (fun w hS => hS) (.inl ⟨by rfl, fun w hS => ?x1⟩) hS ?_
 case x1 => obtain ⟨s1, s2, s3⟩ := hS; go_simp
 try simp only [Act.put, List.getElem_toArray, List.getElem_cons_zero, List.getElem_cons_succ, List.setIfInBounds_toArray, List.set_cons_zero, List.set_cons_succ]
 refine wpAnyR_take (fun W' => W'.cell? ⟨rb, 0, none⟩ = some (.int .i64 d) ∧ W'.cell? ⟨rb, 1, none⟩ = some (.int .i64 room) ∧ W'.cell? ⟨rb, 2, none⟩ = some (.slice ps r.length pc)) (i := 2) (v := .pointer (some ⟨rb, 0, none⟩)) (fun _ => false) rfl (by kernel_rfl) (by kernel_rfl) (by kernel_rfl) (by kernel_rfl) rfl (by kernel_rfl) (fun _ _ _ h => h) (fun j w _ hR => hR) (fun w hS => hS) (.inl ⟨by rfl, fun w hS => ?x2⟩) hS ?_
 case x2 => obtain ⟨s1, s2, s3⟩ := hS; go_simp
 try simp only [Act.put, List.getElem_toArray, List.getElem_cons_zero, List.getElem_cons_succ, List.setIfInBounds_toArray, List.set_cons_zero, List.set_cons_succ]
 refine wpAnyR_take (fun W' => W'.cell? ⟨rb, 0, none⟩ = some (.int .i64 d) ∧ W'.cell? ⟨rb, 1, none⟩ = some (.int .i64 room) ∧ W'.cell? ⟨rb, 2, none⟩ = some (.slice ps r.length pc)) (i := 3) (v := .int .i64 d) (fun _ => false) rfl (by kernel_rfl) (by kernel_rfl) (by kernel_rfl) (by kernel_rfl) rfl (by kernel_rfl) (fun _ _ _ h => h) (fun j w _ hR => hR) (fun w hS => hS) (.inl ⟨by rfl, fun w hS => ?x3⟩) hS ?_
 case x3 => obtain ⟨s1, s2, s3⟩ := hS; go_simp
 try simp only [Act.put, List.getElem_toArray, List.getElem_cons_zero, List.getElem_cons_succ, List.setIfInBounds_toArray, List.set_cons_zero, List.set_cons_succ]
 refine wpAnyR_take (fun W' => W'.cell? ⟨rb, 0, none⟩ = some (.int .i64 d) ∧ W'.cell? ⟨rb, 1, none⟩ = some (.int .i64 room) ∧ W'.cell? ⟨rb, 2, none⟩ = some (.slice ps r.length pc)) (i := 4) (v := .pointer (some ⟨rb, 0, none⟩)) (fun _ => false) rfl (by kernel_rfl) (by kernel_rfl) (by kernel_rfl) (by kernel_rfl) rfl (by kernel_rfl) (fun _ _ _ h => h) (fun j w _ hR => hR) (fun w hS => hS) (.inl ⟨by rfl, fun w hS => ?x4⟩) hS ?_
 case x4 => obtain ⟨s1, s2, s3⟩ := hS; go_simp
 try simp only [Act.put, List.getElem_toArray, List.getElem_cons_zero, List.getElem_cons_succ, List.setIfInBounds_toArray, List.set_cons_zero, List.set_cons_succ]
 refine wpAnyR_take (fun W' => W'.cell? ⟨rb, 0, none⟩ = some (.int .i64 d) ∧ W'.cell? ⟨rb, 1, none⟩ = some (.int .i64 room) ∧ W'.cell? ⟨rb, 2, none⟩ = some (.slice ps r.length pc)) (i := 5) (v := .pointer (some ⟨rb, 0, none⟩)) (fun _ => false) rfl (by kernel_rfl) (by kernel_rfl) (by kernel_rfl) (by kernel_rfl) rfl (by kernel_rfl) (fun _ _ _ h => h) (fun j w _ hR => hR) (fun w hS => hS) (.inl ⟨by rfl, fun w hS => ?x5⟩) hS ?_
 case x5 => obtain ⟨s1, s2, s3⟩ := hS; go_simp
 try simp only [Act.put, List.getElem_toArray, List.getElem_cons_zero, List.getElem_cons_succ, List.setIfInBounds_toArray, List.set_cons_zero, List.set_cons_succ]
 refine wpAnyR_take (fun W' => W'.cell? ⟨rb, 0, none⟩ = some (.int .i64 d) ∧ W'.cell? ⟨rb, 1, none⟩ = some (.int .i64 room) ∧ W'.cell? ⟨rb, 2, none⟩ = some (.slice ps r.length pc)) (i := 6) (v := .pointer (some ⟨rb, 1, none⟩)) (fun _ => false) rfl (by kernel_rfl) (by kernel_rfl) (by kernel_rfl) (by kernel_rfl) rfl (by kernel_rfl) (fun _ _ _ h => h) (fun j w _ hR => hR) (fun w hS => hS) (.inl ⟨by rfl, fun w hS => ?x6⟩) hS ?_
 case x6 => obtain ⟨s1, s2, s3⟩ := hS; go_simp
 try simp only [Act.put, List.getElem_toArray, List.getElem_cons_zero, List.getElem_cons_succ, List.setIfInBounds_toArray, List.set_cons_zero, List.set_cons_succ]
 refine wpAnyR_take (fun W' => W'.cell? ⟨rb, 0, none⟩ = some (.int .i64 d) ∧ W'.cell? ⟨rb, 1, none⟩ = some (.int .i64 room) ∧ W'.cell? ⟨rb, 2, none⟩ = some (.slice ps r.length pc)) (i := 7) (v := .int .i64 room) (fun _ => false) rfl (by kernel_rfl) (by kernel_rfl) (by kernel_rfl) (by kernel_rfl) rfl (by kernel_rfl) (fun _ _ _ h => h) (fun j w _ hR => hR) (fun w hS => hS) (.inl ⟨by rfl, fun w hS => ?x7⟩) hS ?_
 case x7 => obtain ⟨s1, s2, s3⟩ := hS; go_simp
 try simp only [Act.put, List.getElem_toArray, List.getElem_cons_zero, List.getElem_cons_succ, List.setIfInBounds_toArray, List.set_cons_zero, List.set_cons_succ]
 refine wpAnyR_take (fun W' => W'.cell? ⟨rb, 0, none⟩ = some (.int .i64 d) ∧ W'.cell? ⟨rb, 1, none⟩ = some (.int .i64 room) ∧ W'.cell? ⟨rb, 2, none⟩ = some (.slice ps r.length pc)) (i := 9) (v := .pointer (some ⟨rb, 0, none⟩)) (fun _ => false) rfl (by kernel_rfl) (by kernel_rfl) (by kernel_rfl) (by kernel_rfl) rfl (by kernel_rfl) (fun _ _ _ h => h) (fun j w _ hR => hR) (fun w hS => hS) (.inl ⟨by rfl, fun w hS => ?x9⟩) hS ?_
 case x9 => obtain ⟨s1, s2, s3⟩ := hS; go_simp
 try simp only [Act.put, List.getElem_toArray, List.getElem_cons_zero, List.getElem_cons_succ, List.setIfInBounds_toArray, List.set_cons_zero, List.set_cons_succ]
 refine wpAnyR_take (fun W' => W'.cell? ⟨rb, 0, none⟩ = some (.int .i64 d) ∧ W'.cell? ⟨rb, 1, none⟩ = some (.int .i64 room) ∧ W'.cell? ⟨rb, 2, none⟩ = some (.slice ps r.length pc)) (i := 10) (v := .pointer (some ⟨rb, 0, none⟩)) (fun _ => false) rfl (by kernel_rfl) (by kernel_rfl) (by kernel_rfl) (by kernel_rfl) rfl (by kernel_rfl) (fun _ _ _ h => h) (fun j w _ hR => hR) (fun w hS => hS) (.inl ⟨by rfl, fun w hS => ?x10⟩) hS ?_
 case x10 => obtain ⟨s1, s2, s3⟩ := hS; go_simp
 try simp only [Act.put, List.getElem_toArray, List.getElem_cons_zero, List.getElem_cons_succ, List.setIfInBounds_toArray, List.set_cons_zero, List.set_cons_succ]
 refine wpAnyR_take (fun W' => W'.cell? ⟨rb, 0, none⟩ = some (.int .i64 d) ∧ W'.cell? ⟨rb, 1, none⟩ = some (.int .i64 room) ∧ W'.cell? ⟨rb, 2, none⟩ = some (.slice ps r.length pc)) (i := 11) (v := .pointer (some ⟨rb, 2, none⟩)) (fun _ => false) rfl (by kernel_rfl) (by kernel_rfl) (by kernel_rfl) (by kernel_rfl) rfl (by kernel_rfl) (fun _ _ _ h => h) (fun j w _ hR => hR) (fun w hS => hS) (.inl ⟨by rfl, fun w hS => ?x11⟩) hS ?_
 case x11 => obtain ⟨s1, s2, s3⟩ := hS; go_simp
 try simp only [Act.put, List.getElem_toArray, List.getElem_cons_zero, List.getElem_cons_succ, List.setIfInBounds_toArray, List.set_cons_zero, List.set_cons_succ]
 refine wpAnyR_take (fun W' => W'.cell? ⟨rb, 0, none⟩ = some (.int .i64 d) ∧ W'.cell? ⟨rb, 1, none⟩ = some (.int .i64 room) ∧ W'.cell? ⟨rb, 2, none⟩ = some (.slice ps r.length pc)) (i := 12) (v := .slice ps r.length pc) (fun _ => false) rfl (by kernel_rfl) (by kernel_rfl) (by kernel_rfl) (by kernel_rfl) rfl (by kernel_rfl) (fun _ _ _ h => h) (fun j w _ hR => hR) (fun w hS => hS) (.inl ⟨by rfl, fun w hS => ?x12⟩) hS ?_
 case x12 => obtain ⟨s1, s2, s3⟩ := hS; go_simp
 try simp only [Act.put, List.getElem_toArray, List.getElem_cons_zero, List.getElem_cons_succ, List.setIfInBounds_toArray, List.set_cons_zero, List.set_cons_succ]
 refine wpAnyR_ready (rs := [8]) (by kernel_rfl) (by simp) ?_
 refine AllR.value rfl (by rfl) (v := .slice (some ⟨w.heap.size, 0, none⟩) 0 0) (w' := w.drew.alloc (.cells #[] 98)) ?x8 ?r8 ?q8 AllR.nil
 case x8 => go_simp
 case r8 => exact ⟨cell_kept (W := w.drew) c0 (World.grownBy_alloc _ _ none) (fun r e => by cases e), cell_kept (W := w.drew) c1 (World.grownBy_alloc _ _ none) (fun r e => by cases e), cell_kept (W := w.drew) c2 (World.grownBy_alloc _ _ none) (fun r e => by cases e)⟩
 case q8 =>
  try simp only [Act.put, List.getElem_toArray, List.getElem_cons_zero, List.getElem_cons_succ, List.setIfInBounds_toArray, List.set_cons_zero, List.set_cons_succ]
  have hA := (drewN_grown w 1 none).trans (World.grownBy_alloc w.drew (.cells #[] 98) none)
  have hfew := h.few
  refine wpAnyR_ready (rs := [13]) (by kernel_rfl) (by simp) ?_
  refine AllR.appendS rfl (by rfl) rfl (b0 := w.heap.size) (n := 0) (m := r.length) (xs := []) (news := flat r) (v := .slice (some ⟨w.heap.size, 0, none⟩) 0 0) (y := .slice ps r.length pc) (by rfl) (World.ownsRow_lit w.drew #[] 0 (Nat.le_refl _) (Nat.zero_le _) rfl) (by rfl) (h.reads.kept hA) (flat_cell r) (by omega) (by simp) (fun v' w1 hown hg hloc => ?_) AllR.nil
  rw [Nat.zero_add, List.nil_append] at hown
  obtain ⟨p1, q1, hv1⟩ : ∃ p c, v' = .slice p r.length c := by
   rcases hown.2 with ⟨e, hn⟩ | ⟨g, cap, cur, e, _⟩
   ·exact ⟨none, 0, by rw [e, hn]⟩
   ·exact ⟨_, _, e⟩
  have hB1 : Below w.heap.size w w1 := ((Below.refl _ w).drew.alloc (by simp) _).grown hg (by simp) (fun j e => by simp [Value.ownBlock] at e; omega)
  have hS1 : w1.cell? ⟨rb, 0, none⟩ = some (.int .i64 d) ∧ w1.cell? ⟨rb, 1, none⟩ = some (.int .i64 room) ∧ w1.cell? ⟨rb, 2, none⟩ = some (.slice ps r.length pc) := by
   have hrl : rb < w.heap.size := (Array.getElem?_eq_some_iff.1 h.blk).1
   exact ⟨(hB1.cell (p := ⟨rb, 0, none⟩) hrl).trans c0, (hB1.cell (p := ⟨rb, 1, none⟩) hrl).trans c1, (hB1.cell (p := ⟨rb, 2, none⟩) hrl).trans c2⟩
  subst hv1
  refine ⟨hS1, ?_⟩
  try simp only [Act.put, List.getElem_toArray, List.getElem_cons_zero, List.getElem_cons_succ, List.setIfInBounds_toArray, List.set_cons_zero, List.set_cons_succ]
  refine wpAnyR_ready (rs := [14]) (by kernel_rfl) (by simp) ?_
  refine AllR.value rfl (by rfl) (v := .agg #[.int .i64 d, .int .i64 room, .slice p1 r.length q1]) (w' := w1) ?x14 hS1 ?q14 AllR.nil
  case x14 => go_simp
  case q14 =>
   try simp only [Act.put, List.getElem_toArray, List.getElem_cons_zero, List.getElem_cons_succ, List.setIfInBounds_toArray, List.set_cons_zero, List.set_cons_succ]
   refine wpAnyR_ready (rs := [15]) (by kernel_rfl) (by simp) ?_
   have hA2 := World.grownBy_alloc w1 (.cells #[.int .i64 d, .int .i64 room, .slice p1 r.length q1] 96) none
   refine AllR.value rfl (by rfl) (v := .pointer (some ⟨w1.heap.size, 0, none⟩)) (w' := w1.alloc (.cells #[.int .i64 d, .int .i64 room, .slice p1 r.length q1] 96)) ?x15 ⟨cell_kept hS1.1 hA2 (fun r e => by cases e), cell_kept hS1.2.1 hA2 (fun r e => by cases e), cell_kept hS1.2.2 hA2 (fun r e => by cases e)⟩ ?q15 AllR.nil
   case x15 => go_simp
   case q15 =>
    try simp only [Act.put, List.getElem_toArray, List.getElem_cons_zero, List.getElem_cons_succ, List.setIfInBounds_toArray, List.set_cons_zero, List.set_cons_succ]
    refine wpAnyR_ready (rs := [16]) (by kernel_rfl) (by simp) ?_
    refine AllR.value rfl (by rfl) (v := .pointer (some ⟨w1.heap.size, 0, none⟩)) (w' := w1.alloc (.cells #[.int .i64 d, .int .i64 room, .slice p1 r.length q1] 96)) ?x16 ⟨cell_kept hS1.1 hA2 (fun r e => by cases e), cell_kept hS1.2.1 hA2 (fun r e => by cases e), cell_kept hS1.2.2 hA2 (fun r e => by cases e)⟩ ?q16 AllR.nil
    case x16 => go_simp
    case q16 =>
     refine wpAnyR_done (by kernel_rfl) ?_
     refine hK0 _ _ ?_
     try simp only [Act.put, List.getElem_toArray, List.getElem_cons_zero, List.getElem_cons_succ, List.setIfInBounds_toArray, List.set_cons_zero, List.set_cons_succ]
     go_wp2
     go_ret
     exact ⟨_, _, rfl, hB1.size, ⟨World.alloc_heap_new _ _, ((Far.none w1).row hA2 hown |> fun k => ⟨k.1, k.2.imp id fun ⟨g, cap, cur, h3, _, h5⟩ => ⟨g, cap, cur, h3, Nat.zero_le _, h5⟩⟩), hfew⟩, (Far.none w1).row hA2 hown, hB1.alloc hB1.size _⟩
end Go.St
/- The document's store, walked: Offer. -/
namespace Go.St
open Go Go.Proofs Go.RowKit Go.Maps Go.Shelf Go.Ev
theorem Reads.below {w w' : World} {y : Value} {m : Nat} {news : List Value} (h : Reads w y m news) (hb : Below w.heap.size w w') : Reads w' y m news := h.kept (below_grown hb none)
theorem reads_take {w : World} {rb : Nat} {d room : Int} {r : List (Int × Int)} {p : Option Addr} {c : Nat} (h : RAt w rb d room r (.slice p r.length c)) {k : Nat} (hk : k ≤ r.length) : Reads w (sliced p 0 k c 2) k (flat (r.take k)) := by
 rcases h.row.2 with ⟨e, hn⟩ | ⟨g, cap, cur, e, _, _, hnc, _⟩
 ·obtain ⟨rfl, e9, rfl⟩ := Value.slice.inj e; clear e9
  have : k = 0 := by omega
  subst this
  exact .inl ⟨by simp [sliced], rfl, by simp [flat]⟩
 ·obtain ⟨rfl, e9, rfl⟩ := Value.slice.inj e; clear e9
  have e1 : sliced (some ⟨g, 0, none⟩) 0 k c 2 = .slice (some ⟨g, 0, none⟩) k c := by
   unfold sliced
   simp [Addr.add]
  rw [e1, flat_take]
  refine .inr ⟨_, _, rfl, by rw [List.length_take, flat_length]; omega, fun j u hj => ?_⟩
  rw [List.getElem?_take] at hj
  split at hj
  ·exact h.row.cells (g := g) rfl j u hj
  ·cases hj
theorem reads_drop {w : World} {rb : Nat} {d room : Int} {r : List (Int × Int)} {p : Option Addr} {c : Nat} (h : RAt w rb d room r (.slice p r.length c)) {k : Nat} (hk : k ≤ r.length) : Reads w (sliced p k r.length c 2) (r.length - k) (flat (r.drop k)) := by
 rcases h.row.2 with ⟨e, hn⟩ | ⟨g, cap, cur, e, _, _, hnc, _⟩
 ·have e0 := Value.slice.inj e
  obtain ⟨rfl, _, rfl⟩ := e0
  have : k = 0 := by omega
  subst this
  rw [hn]
  refine .inl ⟨by simp [sliced], rfl, ?_⟩
  have := List.eq_nil_of_length_eq_zero hn
  rw [this]; rfl
 ·have e0 := Value.slice.inj e
  obtain ⟨rfl, _, rfl⟩ := e0
  by_cases hck : c = k
  ·refine .inr ⟨⟨g, 0, none⟩, c - k, by unfold sliced; rw [if_pos hck], by rw [flat_length, List.length_drop], fun j u hj => ?_⟩
   have : r.drop k = [] := List.drop_eq_nil_of_le (by omega)
   rw [this] at hj
   simp [flat] at hj
  ·refine .inr ⟨(⟨g, 0, none⟩ : Addr).add (k * 2), c - k, by unfold sliced; rw [if_neg hck]; rfl, by rw [flat_length, List.length_drop], fun j u hj => ?_⟩
   rw [flat_drop, List.getElem?_drop] at hj
   have := h.row.cells (g := g) rfl _ u hj
   rw [add_off] at this
   rw [add_off]
   have e2 : (⟨g, k * 2, none⟩ : Addr).add j = ⟨g, k * 2 + j, none⟩ := by cases j <;> simp [Addr.add]
   rw [e2]; exact this
def ROfferE (w : World) (rb : Nat) (d room : Int) (x : Bool × List (Int × Int)) (e : Ending) (w' : World) : Prop := e = .returned (.tuple #[.bool x.1, .int .i64 0]) ∧ ∃ v', RAt w' rb d room x.2 v' ∧ w.grownBy w' (some rb)
set_option maxRecDepth 100000 in
set_option maxHeartbeats 4000000 in
theorem roffer_ins {w : World} {rb : Nat} {d room i s : Int} {r : List (Int × Int)} {v : Value} (h : RAt w rb d room r v) (hd : 1 ≤ d) (hi0 : 0 ≤ i) (hs0 : 0 ≤ s) (hm : i % d = 0) (hn : has i r = false) (hlt : (r.length : Int) < room) (hf : r.length ≤ 4095) :
  Calls Tryz.prog 19 #[.pointer (some ⟨rb, 0, none⟩), .int .i64 i, .int .i64 s] w (ROfferE w rb d room (true, ins i s r)) := by
 have hv := rvalid_ok rb d w h.c0 hd
 have c0 := h.c0
 have c1 := h.c1
 have c2 := h.c2
 have hd0 : ¬ d = 0 := by omega
 have hi1 : ¬ i < 0 := by omega
 have hs1 : ¬ s < 0 := by omega
 obtain ⟨ps, pc, hsl⟩ := h.slice
 obtain ⟨pp, qq, rfl⟩ : ∃ p c, v = .slice p r.length c := ⟨ps, pc, hsl⟩
 cases hsl
 go_enter Tryz.func19, Tryz.ntmps19
 go_wp2_with (go_at_call 38; refine hv.mono ?_; rintro e w' ⟨rfl, rfl⟩)
 go_loop [8] (fun x => ∃ j : Nat, j ≤ r.length ∧ x = .int .i64 j) (fun x => r.length - (RowKit.intOf x).toNat)
 case atStart => exact ⟨0, by omega, rfl⟩
 case round =>
  obtain ⟨j, hj, rfl⟩ := hrel
  by_cases hjl : j < r.length
  ·have hp : r[j]? = some r[j] := by simp [hjl]
   generalize r[j] = p at hp
   obtain ⟨g, cap, e, k0, k1⟩ := h.item hp
   have e0 := Value.slice.inj e
   obtain ⟨rfl, _, rfl⟩ := e0
   have hne : ¬ p.1 = i := fun e => by
    rw [has_places.2 ⟨j, p, hp, e⟩] at hn; cases hn
   have b0 : (0 : Int) ≤ (j : Int) := by omega
   have b1 : (j : Int) < (r.length : Int) := by omega
   clear hp h hn e
   go_wp2
   go_round
   case rel => exact ⟨j + 1, by omega, int_congr (by omega)⟩
   case measure => simp [RowKit.intOf]; omega
  ·have hje : j = r.length := by omega
   subst hje
   have hne : ¬ ((r.length : Int) = room) := by omega
   have HN := Lib.hid hn
   clear hn
   go_wp2
   go_quiet (fail)
   go_wp2
   have hR : RAt (w.drewN nq) rb d room r (.slice ps r.length pc) := h.far (drewN_grown w nq none) (by simp) (by simp)
   have hB : Below w.heap.size w (w.drewN nq) := ⟨rfl, rfl, rfl, Nat.le_refl _, fun _ _ => rfl⟩
   have hzW : (w.drewN nq).heap.size = w.heap.size := rfl
   obtain ⟨W, hW⟩ : ∃ W, w.drewN nq = W := ⟨_, rfl⟩
   rw [hW] at hR hB hzW ⊢
   clear hW h c0 c1 c2 hv
   have c2W := hR.c2
   go_loop [10] (fun x => ∃ k : Nat, k ≤ r.length ∧ x = .int .i64 k ∧ ∀ (j : Nat) (q : Int × Int), j < k → r[j]? = some q → q.1 < i) (fun x => r.length - (RowKit.intOf x).toNat)
   case atStart => exact ⟨0, by omega, rfl, fun j q hj => by omega⟩
   case round =>
    obtain ⟨k, hk, rfl, hpre⟩ := hrel
    have HPre := Lib.hid hpre
    clear hpre
    by_cases hgo : ∃ q, r[k]? = some q ∧ q.1 < i
    ·obtain ⟨q, hq, hqi⟩ := hgo
     have hkl := (List.getElem?_eq_some_iff.1 hq).1
     obtain ⟨g, cap, e, k0, k1⟩ := hR.item hq
     obtain ⟨rfl, e9, rfl⟩ := Value.slice.inj e; clear e9
     have b0 : (0 : Int) ≤ (k : Int) := by omega
     have b1 : (k : Int) < (r.length : Int) := by omega
     have HQ := Lib.hid hq
     clear hq e
     go_wp2
     go_round
     case rel =>
      refine ⟨k + 1, by omega, int_congr (by omega), fun j q' hj hq' => ?_⟩
      by_cases hjk : j = k
      ·subst hjk
       have := HQ.out
       rw [hq'] at this
       cases this
       exact hqi
      ·exact HPre.out j q' (by omega) hq'
     case measure => simp [RowKit.intOf]; omega
    ·have hins := ins_places (x := s) (fun j p hj hp => HPre.out j p hj hp) (fun p hp hlt => hgo ⟨p, hp, hlt⟩) hk
     have HI := Lib.hid hins
     have rt := reads_take hR hk
     have rd := reads_drop hR hk
     have hcap : r.length ≤ pc := by
      rcases hR.row.2 with ⟨e, hn0⟩ | ⟨g, cap, cur, e, _, _, hnc, _⟩
      ·omega
      ·obtain ⟨_, _, rfl⟩ := Value.slice.inj e
       exact hnc
     have b0 : (0 : Int) ≤ (k : Int) := by omega
     have b1 : (k : Int) ≤ (r.length : Int) := by omega
     have b2 : (k : Int) ≤ (pc : Int) := by omega
     have HT := Lib.hid rt
     have HD := Lib.hid rd
     clear hins rt rd
     by_cases hkl : k < r.length
     ·have hq : r[k]? = some r[k] := by simp [hkl]
      have hge : ¬ r[k].1 < i := fun hlt => hgo ⟨_, hq, hlt⟩
      obtain ⟨g, cap, e, k0, k1⟩ := hR.item hq
      obtain ⟨rfl, e9, rfl⟩ := Value.slice.inj e
      generalize r[k] = q at hq hge k0 k1
      have b3 : (k : Int) < (r.length : Int) := by omega
      have hgo' := Lib.hid hgo
      clear hgo hq e e9
      go_wp2
      refine wp_region_R (R := fun j => fun W' => j < 23 → (fun W' : World => W'.cell? ⟨rb, 2, none⟩ = some (.slice (some ⟨g, 0, none⟩) r.length pc)) W') (by kernel_rfl) ?_
      change wpAnyR Tryz.prog .any _ _ _ 24 (Array.replicate 24 false) _ _
      have hS0 : (fun W' : World => W'.cell? ⟨rb, 2, none⟩ = some (.slice (some ⟨g, 0, none⟩) r.length pc)) W.drew := hR.c2
      refine wpAnyR_take (fun W' : World => W'.cell? ⟨rb, 2, none⟩ = some (.slice (some ⟨g, 0, none⟩) r.length pc)) (i := 0) (v := .pointer (some ⟨rb, 0, none⟩)) (fun j => decide (23 ≤ j)) rfl (by kernel_rfl) (by kernel_rfl) (by kernel_rfl) (by kernel_rfl) rfl (by kernel_rfl) (fun _ _ _ h => h) (fun j w hb hR => hR (blk_lt hb (by omega))) (fun w hS _ => hS) (.inl ⟨by rfl, fun w hS => ?x0⟩) hS0 ?_
      case x0 => go_simp
      try simp only [Act.put, List.getElem_toArray, List.getElem_cons_zero, List.getElem_cons_succ, List.setIfInBounds_toArray, List.set_cons_zero, List.set_cons_succ]
      refine wpAnyR_take (fun W' : World => W'.cell? ⟨rb, 2, none⟩ = some (.slice (some ⟨g, 0, none⟩) r.length pc)) (i := 2) (v := .pointer (some ⟨rb, 0, none⟩)) (fun j => decide (23 ≤ j)) rfl (by kernel_rfl) (by kernel_rfl) (by kernel_rfl) (by kernel_rfl) rfl (by kernel_rfl) (fun _ _ _ h => h) (fun j w hb hR => hR (blk_lt hb (by omega))) (fun w hS _ => hS) (.inl ⟨by rfl, fun w hS => ?x2⟩) hS0 ?_
      case x2 => go_simp
      try simp only [Act.put, List.getElem_toArray, List.getElem_cons_zero, List.getElem_cons_succ, List.setIfInBounds_toArray, List.set_cons_zero, List.set_cons_succ]
      refine wpAnyR_take (fun W' : World => W'.cell? ⟨rb, 2, none⟩ = some (.slice (some ⟨g, 0, none⟩) r.length pc)) (i := 3) (v := .pointer (some ⟨rb, 0, none⟩)) (fun j => decide (23 ≤ j)) rfl (by kernel_rfl) (by kernel_rfl) (by kernel_rfl) (by kernel_rfl) rfl (by kernel_rfl) (fun _ _ _ h => h) (fun j w hb hR => hR (blk_lt hb (by omega))) (fun w hS _ => hS) (.inl ⟨by rfl, fun w hS => ?x3⟩) hS0 ?_
      case x3 => go_simp
      try simp only [Act.put, List.getElem_toArray, List.getElem_cons_zero, List.getElem_cons_succ, List.setIfInBounds_toArray, List.set_cons_zero, List.set_cons_succ]
      refine wpAnyR_take (fun W' : World => W'.cell? ⟨rb, 2, none⟩ = some (.slice (some ⟨g, 0, none⟩) r.length pc)) (i := 4) (v := .pointer (some ⟨rb, 2, none⟩)) (fun j => decide (23 ≤ j)) rfl (by kernel_rfl) (by kernel_rfl) (by kernel_rfl) (by kernel_rfl) rfl (by kernel_rfl) (fun _ _ _ h => h) (fun j w hb hR => hR (blk_lt hb (by omega))) (fun w hS _ => hS) (.inl ⟨by rfl, fun w hS => ?x4⟩) hS0 ?_
      case x4 => go_simp
      try simp only [Act.put, List.getElem_toArray, List.getElem_cons_zero, List.getElem_cons_succ, List.setIfInBounds_toArray, List.set_cons_zero, List.set_cons_succ]
      refine wpAnyR_take (fun W' : World => W'.cell? ⟨rb, 2, none⟩ = some (.slice (some ⟨g, 0, none⟩) r.length pc)) (i := 5) (v := .slice (some ⟨g, 0, none⟩) r.length pc) (fun j => decide (23 ≤ j)) rfl (by kernel_rfl) (by kernel_rfl) (by kernel_rfl) (by kernel_rfl) rfl (by kernel_rfl) (fun _ _ _ h => h) (fun j w hb hR => hR (blk_lt hb (by omega))) (fun w hS _ => hS) (.inl ⟨by rfl, fun w hS => ?x5⟩) hS0 ?_
      case x5 => go_simp
      try simp only [Act.put, List.getElem_toArray, List.getElem_cons_zero, List.getElem_cons_succ, List.setIfInBounds_toArray, List.set_cons_zero, List.set_cons_succ]
      refine wpAnyR_take (fun W' : World => W'.cell? ⟨rb, 2, none⟩ = some (.slice (some ⟨g, 0, none⟩) r.length pc)) (i := 6) (v := .int .i64 (k : Int)) (fun j => decide (23 ≤ j)) rfl (by kernel_rfl) (by kernel_rfl) (by kernel_rfl) (by kernel_rfl) rfl (by kernel_rfl) (fun _ _ _ h => h) (fun j w hb hR => hR (blk_lt hb (by omega))) (fun w hS _ => hS) (.inl ⟨by rfl, fun w hS => ?x6⟩) hS0 ?_
      case x6 => go_simp
      try simp only [Act.put, List.getElem_toArray, List.getElem_cons_zero, List.getElem_cons_succ, List.setIfInBounds_toArray, List.set_cons_zero, List.set_cons_succ]
      refine wpAnyR_take (fun W' : World => W'.cell? ⟨rb, 2, none⟩ = some (.slice (some ⟨g, 0, none⟩) r.length pc)) (i := 7) (v := sliced (some ⟨g, 0, none⟩) 0 k pc 2) (fun j => decide (23 ≤ j)) rfl (by kernel_rfl) (by kernel_rfl) (by kernel_rfl) (by kernel_rfl) rfl (by kernel_rfl) (fun _ _ _ h => h) (fun j w hb hR => hR (blk_lt hb (by omega))) (fun w hS _ => hS) (.inl ⟨by rfl, fun w hS => ?x7⟩) hS0 ?_
      case x7 => go_simp
      try simp only [Act.put, List.getElem_toArray, List.getElem_cons_zero, List.getElem_cons_succ, List.setIfInBounds_toArray, List.set_cons_zero, List.set_cons_succ]
      refine wpAnyR_take (fun W' : World => W'.cell? ⟨rb, 2, none⟩ = some (.slice (some ⟨g, 0, none⟩) r.length pc)) (i := 9) (v := .int .i64 i) (fun j => decide (23 ≤ j)) rfl (by kernel_rfl) (by kernel_rfl) (by kernel_rfl) (by kernel_rfl) rfl (by kernel_rfl) (fun _ _ _ h => h) (fun j w hb hR => hR (blk_lt hb (by omega))) (fun w hS _ => hS) (.inl ⟨by rfl, fun w hS => ?x9⟩) hS0 ?_
      case x9 => go_simp
      try simp only [Act.put, List.getElem_toArray, List.getElem_cons_zero, List.getElem_cons_succ, List.setIfInBounds_toArray, List.set_cons_zero, List.set_cons_succ]
      refine wpAnyR_take (fun W' : World => W'.cell? ⟨rb, 2, none⟩ = some (.slice (some ⟨g, 0, none⟩) r.length pc)) (i := 10) (v := .int .i64 s) (fun j => decide (23 ≤ j)) rfl (by kernel_rfl) (by kernel_rfl) (by kernel_rfl) (by kernel_rfl) rfl (by kernel_rfl) (fun _ _ _ h => h) (fun j w hb hR => hR (blk_lt hb (by omega))) (fun w hS _ => hS) (.inl ⟨by rfl, fun w hS => ?x10⟩) hS0 ?_
      case x10 => go_simp
      try simp only [Act.put, List.getElem_toArray, List.getElem_cons_zero, List.getElem_cons_succ, List.setIfInBounds_toArray, List.set_cons_zero, List.set_cons_succ]
      refine wpAnyR_take (fun W' : World => W'.cell? ⟨rb, 2, none⟩ = some (.slice (some ⟨g, 0, none⟩) r.length pc)) (i := 11) (v := .agg #[.int .i64 i, .int .i64 s]) (fun j => decide (23 ≤ j)) rfl (by kernel_rfl) (by kernel_rfl) (by kernel_rfl) (by kernel_rfl) rfl (by kernel_rfl) (fun _ _ _ h => h) (fun j w hb hR => hR (blk_lt hb (by omega))) (fun w hS _ => hS) (.inl ⟨by rfl, fun w hS => ?x11⟩) hS0 ?_
      case x11 => go_simp
      try simp only [Act.put, List.getElem_toArray, List.getElem_cons_zero, List.getElem_cons_succ, List.setIfInBounds_toArray, List.set_cons_zero, List.set_cons_succ]
      refine wpAnyR_take (fun W' : World => W'.cell? ⟨rb, 2, none⟩ = some (.slice (some ⟨g, 0, none⟩) r.length pc)) (i := 14) (v := .pointer (some ⟨rb, 0, none⟩)) (fun j => decide (23 ≤ j)) rfl (by kernel_rfl) (by kernel_rfl) (by kernel_rfl) (by kernel_rfl) rfl (by kernel_rfl) (fun _ _ _ h => h) (fun j w hb hR => hR (blk_lt hb (by omega))) (fun w hS _ => hS) (.inl ⟨by rfl, fun w hS => ?x14⟩) hS0 ?_
      case x14 => go_simp
      try simp only [Act.put, List.getElem_toArray, List.getElem_cons_zero, List.getElem_cons_succ, List.setIfInBounds_toArray, List.set_cons_zero, List.set_cons_succ]
      refine wpAnyR_take (fun W' : World => W'.cell? ⟨rb, 2, none⟩ = some (.slice (some ⟨g, 0, none⟩) r.length pc)) (i := 15) (v := .pointer (some ⟨rb, 0, none⟩)) (fun j => decide (23 ≤ j)) rfl (by kernel_rfl) (by kernel_rfl) (by kernel_rfl) (by kernel_rfl) rfl (by kernel_rfl) (fun _ _ _ h => h) (fun j w hb hR => hR (blk_lt hb (by omega))) (fun w hS _ => hS) (.inl ⟨by rfl, fun w hS => ?x15⟩) hS0 ?_
      case x15 => go_simp
      try simp only [Act.put, List.getElem_toArray, List.getElem_cons_zero, List.getElem_cons_succ, List.setIfInBounds_toArray, List.set_cons_zero, List.set_cons_succ]
      refine wpAnyR_take (fun W' : World => W'.cell? ⟨rb, 2, none⟩ = some (.slice (some ⟨g, 0, none⟩) r.length pc)) (i := 16) (v := .pointer (some ⟨rb, 2, none⟩)) (fun j => decide (23 ≤ j)) rfl (by kernel_rfl) (by kernel_rfl) (by kernel_rfl) (by kernel_rfl) rfl (by kernel_rfl) (fun _ _ _ h => h) (fun j w hb hR => hR (blk_lt hb (by omega))) (fun w hS _ => hS) (.inl ⟨by rfl, fun w hS => ?x16⟩) hS0 ?_
      case x16 => go_simp
      try simp only [Act.put, List.getElem_toArray, List.getElem_cons_zero, List.getElem_cons_succ, List.setIfInBounds_toArray, List.set_cons_zero, List.set_cons_succ]
      refine wpAnyR_take (fun W' : World => W'.cell? ⟨rb, 2, none⟩ = some (.slice (some ⟨g, 0, none⟩) r.length pc)) (i := 17) (v := .slice (some ⟨g, 0, none⟩) r.length pc) (fun j => decide (23 ≤ j)) rfl (by kernel_rfl) (by kernel_rfl) (by kernel_rfl) (by kernel_rfl) rfl (by kernel_rfl) (fun _ _ _ h => h) (fun j w hb hR => hR (blk_lt hb (by omega))) (fun w hS _ => hS) (.inl ⟨by rfl, fun w hS => ?x17⟩) hS0 ?_
      case x17 => go_simp
      try simp only [Act.put, List.getElem_toArray, List.getElem_cons_zero, List.getElem_cons_succ, List.setIfInBounds_toArray, List.set_cons_zero, List.set_cons_succ]
      refine wpAnyR_take (fun W' : World => W'.cell? ⟨rb, 2, none⟩ = some (.slice (some ⟨g, 0, none⟩) r.length pc)) (i := 18) (v := .int .i64 (k : Int)) (fun j => decide (23 ≤ j)) rfl (by kernel_rfl) (by kernel_rfl) (by kernel_rfl) (by kernel_rfl) rfl (by kernel_rfl) (fun _ _ _ h => h) (fun j w hb hR => hR (blk_lt hb (by omega))) (fun w hS _ => hS) (.inl ⟨by rfl, fun w hS => ?x18⟩) hS0 ?_
      case x18 => go_simp
      try simp only [Act.put, List.getElem_toArray, List.getElem_cons_zero, List.getElem_cons_succ, List.setIfInBounds_toArray, List.set_cons_zero, List.set_cons_succ]
      refine wpAnyR_take (fun W' : World => W'.cell? ⟨rb, 2, none⟩ = some (.slice (some ⟨g, 0, none⟩) r.length pc)) (i := 19) (v := sliced (some ⟨g, 0, none⟩) k r.length pc 2) (fun j => decide (23 ≤ j)) rfl (by kernel_rfl) (by kernel_rfl) (by kernel_rfl) (by kernel_rfl) rfl (by kernel_rfl) (fun _ _ _ h => h) (fun j w hb hR => hR (blk_lt hb (by omega))) (fun w hS _ => hS) (.inl ⟨by rfl, fun w hS => ?x19⟩) hS0 ?_
      case x19 => go_simp
      try simp only [Act.put, List.getElem_toArray, List.getElem_cons_zero, List.getElem_cons_succ, List.setIfInBounds_toArray, List.set_cons_zero, List.set_cons_succ]
      have hrl : rb < W.heap.size := (Array.getElem?_eq_some_iff.1 hR.blk).1
      have hcS : ∀ w', Below W.heap.size W w' → w'.cell? ⟨rb, 2, none⟩ = some (.slice (some ⟨g, 0, none⟩) r.length pc) := fun w' hb => (hb.cell (p := ⟨rb, 2, none⟩) hrl).trans hR.c2
      refine wpAnyR_ready (rs := [1, 12]) (by kernel_rfl) (by simp) ?_
      have hE1 : Below W.heap.size W (W.drew.alloc (.cells #[] 98)) := (Below.refl _ W).drew.alloc (Nat.le_refl _) _
      have hT1 : Below W.heap.size W (W.drew.alloc (.cells #[.int .i64 i, .int .i64 s] 98)) := (Below.refl _ W).drew.alloc (Nat.le_refl _) _
      refine AllR.value rfl (by rfl) (v := .slice (some ⟨W.heap.size, 0, none⟩) 0 0) (w' := W.drew.alloc (.cells #[] 98)) ?x1 (fun _ => hcS _ hE1) ?n1 (AllR.value rfl (by rfl) (v := .slice (some ⟨W.heap.size, 0, none⟩) 1 1) (w' := W.drew.alloc (.cells #[.int .i64 i, .int .i64 s] 98)) ?x12 (fun _ => hcS _ hT1) ?n12 AllR.nil)
      case x1 => go_simp
      case x12 => go_simp
      case n1 =>
       try simp only [Act.put, List.getElem_toArray, List.getElem_cons_zero, List.getElem_cons_succ, List.setIfInBounds_toArray, List.set_cons_zero, List.set_cons_succ]
       refine wpAnyR_ready (rs := [8, 12]) (by kernel_rfl) (by simp) ?_
       refine AllR.appendS rfl (by rfl) rfl (b0 := W.heap.size) (n := 0) (m := k) (xs := []) (news := flat (r.take k)) (v := .slice (some ⟨W.heap.size, 0, none⟩) 0 0) (y := sliced (some ⟨g, 0, none⟩) 0 k pc 2) (by rfl) (World.ownsRow_lit W.drew #[] 0 (Nat.le_refl _) (Nat.zero_le _) rfl) (by rfl) (HT.out.below hE1) (flat_cell _) (by omega) hE1.size (fun va w1 own1 g1 _ => ?_) ?m12
       rw [Nat.zero_add, List.nil_append] at own1
       have hB1 : Below W.heap.size W w1 := hE1.grown g1 hE1.size (fun j e => by simp [Value.ownBlock] at e; omega)
       obtain ⟨pa, qa, rfl⟩ : ∃ p c, va = .slice p k c := by
        rcases own1.2 with ⟨e, hn0⟩ | ⟨g', cap', cur', e, _⟩
        ·exact ⟨none, 0, by rw [e, hn0]⟩
        ·exact ⟨_, _, e⟩
       refine ⟨fun _ => hcS _ hB1, ?_⟩
       try simp only [Act.put, List.getElem_toArray, List.getElem_cons_zero, List.getElem_cons_succ, List.setIfInBounds_toArray, List.set_cons_zero, List.set_cons_succ]
       refine wpAnyR_ready (rs := [12]) (by kernel_rfl) (by simp) ?_
       have hB1t : Below W.heap.size W (w1.alloc (.cells #[.int .i64 i, .int .i64 s] 98)) := hB1.alloc hB1.size _
       refine AllR.value rfl (by rfl) (v := .slice (some ⟨w1.heap.size, 0, none⟩) 1 1) (w' := w1.alloc (.cells #[.int .i64 i, .int .i64 s] 98)) ?y12 (fun _ => hcS _ hB1t) ?z12 AllR.nil
       case y12 => go_simp
       case z12 =>
        try simp only [Act.put, List.getElem_toArray, List.getElem_cons_zero, List.getElem_cons_succ, List.setIfInBounds_toArray, List.set_cons_zero, List.set_cons_succ]
        refine wpAnyR_ready (rs := [13]) (by kernel_rfl) (by simp) ?_
        refine AllR.appendS rfl (by rfl) rfl (b0 := W.heap.size) (n := k) (m := 1) (xs := flat (r.take k)) (news := flat [(i, s)]) (v := .slice pa k qa) (by rfl) ((Far.none w1).row (World.grownBy_alloc _ _ none) own1) (by rfl) (.inr ⟨⟨w1.heap.size, 0, none⟩, 1, rfl, rfl, cells_two w1 _ _ _⟩) (flat_cell _) (by omega) hB1t.size (fun vb w2 own2 g2 _ => ?_) AllR.nil
        have hB2 : Below W.heap.size W w2 := hB1t.grown g2 hB1t.size (fun j e => row_lo own1 e)
        obtain ⟨pb, qb, rfl⟩ : ∃ p c, vb = .slice p (k + 1) c := by
         rcases own2.2 with ⟨e, hn0⟩ | ⟨g', cap', cur', e, _⟩
         ·omega
         ·exact ⟨_, _, e⟩
        refine ⟨fun _ => hcS _ hB2, ?_⟩
        try simp only [Act.put, List.getElem_toArray, List.getElem_cons_zero, List.getElem_cons_succ, List.setIfInBounds_toArray, List.set_cons_zero, List.set_cons_succ]
        refine wpAnyR_ready (rs := [20]) (by kernel_rfl) (by simp) ?_
        refine AllR.appendS rfl (by rfl) rfl (b0 := W.heap.size) (n := k + 1) (m := r.length - k) (xs := flat (r.take k) ++ flat [(i, s)]) (news := flat (r.drop k)) (v := .slice pb (k + 1) qb) (y := sliced (some ⟨g, 0, none⟩) k r.length pc 2) (by rfl) own2 (by rfl) (HD.out.below hB2) (flat_cell _) (by omega) hB2.size (fun vc w3 own3 g3 _ => ?_) AllR.nil
        have hB3 : Below W.heap.size W w3 := hB2.grown g3 hB2.size (fun j e => row_lo own2 e)
        have hlen3 : k + 1 + (r.length - k) = (ins i s r).length := by rw [length_ins]; omega
        have hfl3 : flat (r.take k) ++ flat [(i, s)] ++ flat (r.drop k) = flat (ins i s r) := by rw [HI.out, flat_append, List.append_assoc]; rfl
        rw [hlen3, hfl3] at own3
        obtain ⟨pc3, qc3, rfl⟩ : ∃ p c, vc = .slice p (ins i s r).length c := by
         rcases own3.2 with ⟨e, hn0⟩ | ⟨g', cap', cur', e, _⟩
         ·exact ⟨none, 0, by rw [e, hn0]⟩
         ·exact ⟨_, _, e⟩
        have hput := hR.put hB3 own3 (by rw [length_ins]; omega)
        have c3 := hcS _ hB3
        have f3 : w3.frozen? ⟨rb, 2, none⟩ = false := (hB3.frozen (p := ⟨rb, 2, none⟩) hrl).trans hR.f2
        refine ⟨fun _ => c3, ?_⟩
        try simp only [Act.put, List.getElem_toArray, List.getElem_cons_zero, List.getElem_cons_succ, List.setIfInBounds_toArray, List.set_cons_zero, List.set_cons_succ]
        refine wpAnyR_ready (rs := [21]) (by kernel_rfl) (by simp) ?_
        refine AllR.value rfl (by rfl) (v := .pointer (some ⟨rb, 0, none⟩)) (w' := w3) ?x21 (fun _ => c3) ?q21 AllR.nil
        case x21 =>
         clear hput
         go_simp
        case q21 =>
         try simp only [Act.put, List.getElem_toArray, List.getElem_cons_zero, List.getElem_cons_succ, List.setIfInBounds_toArray, List.set_cons_zero, List.set_cons_succ]
         refine wpAnyR_ready (rs := [22]) (by kernel_rfl) (by simp) ?_
         refine AllR.value rfl (by rfl) (v := .pointer (some ⟨rb, 2, none⟩)) (w' := w3) ?x22 (fun _ => c3) ?q22 AllR.nil
         case x22 =>
          clear hput
          go_simp
         case q22 =>
          try simp only [Act.put, List.getElem_toArray, List.getElem_cons_zero, List.getElem_cons_succ, List.setIfInBounds_toArray, List.set_cons_zero, List.set_cons_succ]
          refine wpAnyR_ready (rs := [23]) (by kernel_rfl) (by simp) ?_
          refine AllR.skip rfl (by rfl) (w' := w3.setCell ⟨rb, 2, none⟩ (.slice pc3 (ins i s r).length qc3)) ?x23 (fun h => absurd h (by omega)) ?q23 AllR.nil
          case x23 =>
           clear hput
           go_simp
          case q23 =>
           refine wpAnyR_done (by kernel_rfl) ?_
           try simp only [Act.put, List.getElem_toArray, List.getElem_cons_zero, List.getElem_cons_succ, List.setIfInBounds_toArray, List.set_cons_zero, List.set_cons_succ]
           have HP := Lib.hid hput
           clear hput
           go_wp2
           all_goals go_ret2
           all_goals exact ⟨rfl, _, HP.out.1, (below_grown hB (some rb)).trans HP.out.2⟩
       case m12 =>
        have hET : Below W.heap.size W ((W.drew.alloc (.cells #[] 98)).alloc (.cells #[.int .i64 i, .int .i64 s] 98)) := hE1.alloc hE1.size _
        refine AllR.value rfl (by rfl) (v := .slice (some ⟨W.heap.size + 1, 0, none⟩) 1 1) (w' := (W.drew.alloc (.cells #[] 98)).alloc (.cells #[.int .i64 i, .int .i64 s] 98)) ?y12 (fun _ => hcS _ hET) ?z12 AllR.nil
        case y12 => go_simp
        case z12 =>
         try simp only [Act.put, List.getElem_toArray, List.getElem_cons_zero, List.getElem_cons_succ, List.setIfInBounds_toArray, List.set_cons_zero, List.set_cons_succ]
         refine wpAnyR_ready (rs := [8]) (by kernel_rfl) (by simp) ?_
         have hct := cells_two (W.drew.alloc (.cells #[] 98)) (.int .i64 i) (.int .i64 s) 98
         rw [show ((W.drew.alloc (.cells #[] 98))).heap.size = W.heap.size + 1 by simp] at hct
         refine AllR.appendS rfl (by rfl) rfl (b0 := W.heap.size) (n := 0) (m := k) (xs := []) (news := flat (r.take k)) (v := .slice (some ⟨W.heap.size, 0, none⟩) 0 0) (y := sliced (some ⟨g, 0, none⟩) 0 k pc 2) (by rfl) ((Far.none _).row (World.grownBy_alloc (W.drew.alloc (.cells #[] 98)) (.cells #[.int .i64 i, .int .i64 s] 98) none) (World.ownsRow_lit W.drew #[] 0 (Nat.le_refl _) (Nat.zero_le _) rfl)) (by rfl) (HT.out.below hET) (flat_cell _) (by omega) hET.size (fun va w1 own1 g1 _ => ?_) AllR.nil
         rw [Nat.zero_add, List.nil_append] at own1
         have hB1 : Below W.heap.size W w1 := hET.grown g1 hET.size (fun j e => by simp [Value.ownBlock] at e; omega)
         obtain ⟨pa, qa, rfl⟩ : ∃ p c, va = .slice p k c := by
          rcases own1.2 with ⟨e, hn0⟩ | ⟨g', cap', cur', e, _⟩
          ·exact ⟨none, 0, by rw [e, hn0]⟩
          ·exact ⟨_, _, e⟩
         refine ⟨fun _ => hcS _ hB1, ?_⟩
         try simp only [Act.put, List.getElem_toArray, List.getElem_cons_zero, List.getElem_cons_succ, List.setIfInBounds_toArray, List.set_cons_zero, List.set_cons_succ]
         refine wpAnyR_ready (rs := [13]) (by kernel_rfl) (by simp) ?_
         refine AllR.appendS rfl (by rfl) rfl (b0 := W.heap.size) (n := k) (m := 1) (xs := flat (r.take k)) (news := flat [(i, s)]) (v := .slice pa k qa) (by rfl) own1 (by rfl) (.inr ⟨⟨W.heap.size + 1, 0, none⟩, 1, rfl, rfl, fun j u hj => g1.cell (hct j u hj) (by rw [Value.ownBlock]; intro e; have := Option.some.inj e; revert this; cases j <;> simp [Addr.add])⟩) (flat_cell _) (by omega) hB1.size (fun vb w2 own2 g2 _ => ?_) AllR.nil
         have hB2 : Below W.heap.size W w2 := hB1.grown g2 hB1.size (fun j e => row_lo own1 e)
         obtain ⟨pb, qb, rfl⟩ : ∃ p c, vb = .slice p (k + 1) c := by
          rcases own2.2 with ⟨e, hn0⟩ | ⟨g', cap', cur', e, _⟩
          ·omega
          ·exact ⟨_, _, e⟩
         refine ⟨fun _ => hcS _ hB2, ?_⟩
         try simp only [Act.put, List.getElem_toArray, List.getElem_cons_zero, List.getElem_cons_succ, List.setIfInBounds_toArray, List.set_cons_zero, List.set_cons_succ]
         refine wpAnyR_ready (rs := [20]) (by kernel_rfl) (by simp) ?_
         refine AllR.appendS rfl (by rfl) rfl (b0 := W.heap.size) (n := k + 1) (m := r.length - k) (xs := flat (r.take k) ++ flat [(i, s)]) (news := flat (r.drop k)) (v := .slice pb (k + 1) qb) (y := sliced (some ⟨g, 0, none⟩) k r.length pc 2) (by rfl) own2 (by rfl) (HD.out.below hB2) (flat_cell _) (by omega) hB2.size (fun vc w3 own3 g3 _ => ?_) AllR.nil
         have hB3 : Below W.heap.size W w3 := hB2.grown g3 hB2.size (fun j e => row_lo own2 e)
         have hlen3 : k + 1 + (r.length - k) = (ins i s r).length := by rw [length_ins]; omega
         have hfl3 : flat (r.take k) ++ flat [(i, s)] ++ flat (r.drop k) = flat (ins i s r) := by rw [HI.out, flat_append, List.append_assoc]; rfl
         rw [hlen3, hfl3] at own3
         obtain ⟨pc3, qc3, rfl⟩ : ∃ p c, vc = .slice p (ins i s r).length c := by
          rcases own3.2 with ⟨e, hn0⟩ | ⟨g', cap', cur', e, _⟩
          ·exact ⟨none, 0, by rw [e, hn0]⟩
          ·exact ⟨_, _, e⟩
         have hput := hR.put hB3 own3 (by rw [length_ins]; omega)
         have c3 := hcS _ hB3
         have f3 : w3.frozen? ⟨rb, 2, none⟩ = false := (hB3.frozen (p := ⟨rb, 2, none⟩) hrl).trans hR.f2
         refine ⟨fun _ => c3, ?_⟩
         try simp only [Act.put, List.getElem_toArray, List.getElem_cons_zero, List.getElem_cons_succ, List.setIfInBounds_toArray, List.set_cons_zero, List.set_cons_succ]
         refine wpAnyR_ready (rs := [21]) (by kernel_rfl) (by simp) ?_
         refine AllR.value rfl (by rfl) (v := .pointer (some ⟨rb, 0, none⟩)) (w' := w3) ?x21 (fun _ => c3) ?q21 AllR.nil
         case x21 =>
          clear hput
          go_simp
         case q21 =>
          try simp only [Act.put, List.getElem_toArray, List.getElem_cons_zero, List.getElem_cons_succ, List.setIfInBounds_toArray, List.set_cons_zero, List.set_cons_succ]
          refine wpAnyR_ready (rs := [22]) (by kernel_rfl) (by simp) ?_
          refine AllR.value rfl (by rfl) (v := .pointer (some ⟨rb, 2, none⟩)) (w' := w3) ?x22 (fun _ => c3) ?q22 AllR.nil
          case x22 =>
           clear hput
           go_simp
          case q22 =>
           try simp only [Act.put, List.getElem_toArray, List.getElem_cons_zero, List.getElem_cons_succ, List.setIfInBounds_toArray, List.set_cons_zero, List.set_cons_succ]
           refine wpAnyR_ready (rs := [23]) (by kernel_rfl) (by simp) ?_
           refine AllR.skip rfl (by rfl) (w' := w3.setCell ⟨rb, 2, none⟩ (.slice pc3 (ins i s r).length qc3)) ?x23 (fun h => absurd h (by omega)) ?q23 AllR.nil
           case x23 =>
            clear hput
            go_simp
           case q23 =>
            refine wpAnyR_done (by kernel_rfl) ?_
            try simp only [Act.put, List.getElem_toArray, List.getElem_cons_zero, List.getElem_cons_succ, List.setIfInBounds_toArray, List.set_cons_zero, List.set_cons_succ]
            have HP := Lib.hid hput
            clear hput
            go_wp2
            all_goals go_ret2
            all_goals exact ⟨rfl, _, HP.out.1, (below_grown hB (some rb)).trans HP.out.2⟩
      case n12 =>
       try simp only [Act.put, List.getElem_toArray, List.getElem_cons_zero, List.getElem_cons_succ, List.setIfInBounds_toArray, List.set_cons_zero, List.set_cons_succ]
       refine wpAnyR_ready (rs := [1]) (by kernel_rfl) (by simp) ?_
       have hTE : Below W.heap.size W ((W.drew.alloc (.cells #[.int .i64 i, .int .i64 s] 98)).alloc (.cells #[] 98)) := hT1.alloc hT1.size _
       refine AllR.value rfl (by rfl) (v := .slice (some ⟨W.heap.size + 1, 0, none⟩) 0 0) (w' := (W.drew.alloc (.cells #[.int .i64 i, .int .i64 s] 98)).alloc (.cells #[] 98)) ?y1 (fun _ => hcS _ hTE) ?z1 AllR.nil
       case y1 => go_simp
       case z1 =>
        try simp only [Act.put, List.getElem_toArray, List.getElem_cons_zero, List.getElem_cons_succ, List.setIfInBounds_toArray, List.set_cons_zero, List.set_cons_succ]
        refine wpAnyR_ready (rs := [8]) (by kernel_rfl) (by simp) ?_
        have hct := cells_two W.drew (.int .i64 i) (.int .i64 s) 98
        have hct2 : ∀ j u, [Value.int .i64 i, .int .i64 s][j]? = some u → ((W.drew.alloc (.cells #[.int .i64 i, .int .i64 s] 98)).alloc (.cells #[] 98)).cell? ((⟨W.heap.size, 0, none⟩ : Addr).add j) = some u := fun j u hj => cell_kept (hct j u hj) (World.grownBy_alloc (W.drew.alloc (.cells #[.int .i64 i, .int .i64 s] 98)) (.cells #[] 98) none) (fun r e => by cases e)
        refine AllR.appendS rfl (by rfl) rfl (b0 := W.heap.size) (n := 0) (m := k) (xs := []) (news := flat (r.take k)) (v := .slice (some ⟨W.heap.size + 1, 0, none⟩) 0 0) (y := sliced (some ⟨g, 0, none⟩) 0 k pc 2) (by rfl) (by have := World.ownsRow_lit (W.drew.alloc (.cells #[.int .i64 i, .int .i64 s] 98)) #[] (base := W.heap.size) (e := 98) (size := 2) 0 (by simp) (Nat.zero_le _) rfl; simpa using this) (by rfl) (HT.out.below hTE) (flat_cell _) (by omega) hTE.size (fun va w1 own1 g1 _ => ?_) AllR.nil
        rw [Nat.zero_add, List.nil_append] at own1
        have hB1 : Below W.heap.size W w1 := hTE.grown g1 hTE.size (fun j e => by simp [Value.ownBlock] at e; omega)
        obtain ⟨pa, qa, rfl⟩ : ∃ p c, va = .slice p k c := by
         rcases own1.2 with ⟨e, hn0⟩ | ⟨g', cap', cur', e, _⟩
         ·exact ⟨none, 0, by rw [e, hn0]⟩
         ·exact ⟨_, _, e⟩
        refine ⟨fun _ => hcS _ hB1, ?_⟩
        try simp only [Act.put, List.getElem_toArray, List.getElem_cons_zero, List.getElem_cons_succ, List.setIfInBounds_toArray, List.set_cons_zero, List.set_cons_succ]
        refine wpAnyR_ready (rs := [13]) (by kernel_rfl) (by simp) ?_
        refine AllR.appendS rfl (by rfl) rfl (b0 := W.heap.size) (n := k) (m := 1) (xs := flat (r.take k)) (news := flat [(i, s)]) (v := .slice pa k qa) (by rfl) own1 (by rfl) (.inr ⟨⟨W.heap.size, 0, none⟩, 1, rfl, rfl, fun j u hj => g1.cell (hct2 j u hj) (by rw [Value.ownBlock]; intro e; have := Option.some.inj e; revert this; cases j <;> simp [Addr.add])⟩) (flat_cell _) (by omega) hB1.size (fun vb w2 own2 g2 _ => ?_) AllR.nil
        have hB2 : Below W.heap.size W w2 := hB1.grown g2 hB1.size (fun j e => row_lo own1 e)
        obtain ⟨pb, qb, rfl⟩ : ∃ p c, vb = .slice p (k + 1) c := by
         rcases own2.2 with ⟨e, hn0⟩ | ⟨g', cap', cur', e, _⟩
         ·omega
         ·exact ⟨_, _, e⟩
        refine ⟨fun _ => hcS _ hB2, ?_⟩
        try simp only [Act.put, List.getElem_toArray, List.getElem_cons_zero, List.getElem_cons_succ, List.setIfInBounds_toArray, List.set_cons_zero, List.set_cons_succ]
        refine wpAnyR_ready (rs := [20]) (by kernel_rfl) (by simp) ?_
        refine AllR.appendS rfl (by rfl) rfl (b0 := W.heap.size) (n := k + 1) (m := r.length - k) (xs := flat (r.take k) ++ flat [(i, s)]) (news := flat (r.drop k)) (v := .slice pb (k + 1) qb) (y := sliced (some ⟨g, 0, none⟩) k r.length pc 2) (by rfl) own2 (by rfl) (HD.out.below hB2) (flat_cell _) (by omega) hB2.size (fun vc w3 own3 g3 _ => ?_) AllR.nil
        have hB3 : Below W.heap.size W w3 := hB2.grown g3 hB2.size (fun j e => row_lo own2 e)
        have hlen3 : k + 1 + (r.length - k) = (ins i s r).length := by rw [length_ins]; omega
        have hfl3 : flat (r.take k) ++ flat [(i, s)] ++ flat (r.drop k) = flat (ins i s r) := by rw [HI.out, flat_append, List.append_assoc]; rfl
        rw [hlen3, hfl3] at own3
        obtain ⟨pc3, qc3, rfl⟩ : ∃ p c, vc = .slice p (ins i s r).length c := by
         rcases own3.2 with ⟨e, hn0⟩ | ⟨g', cap', cur', e, _⟩
         ·exact ⟨none, 0, by rw [e, hn0]⟩
         ·exact ⟨_, _, e⟩
        have hput := hR.put hB3 own3 (by rw [length_ins]; omega)
        have c3 := hcS _ hB3
        have f3 : w3.frozen? ⟨rb, 2, none⟩ = false := (hB3.frozen (p := ⟨rb, 2, none⟩) hrl).trans hR.f2
        refine ⟨fun _ => c3, ?_⟩
        try simp only [Act.put, List.getElem_toArray, List.getElem_cons_zero, List.getElem_cons_succ, List.setIfInBounds_toArray, List.set_cons_zero, List.set_cons_succ]
        refine wpAnyR_ready (rs := [21]) (by kernel_rfl) (by simp) ?_
        refine AllR.value rfl (by rfl) (v := .pointer (some ⟨rb, 0, none⟩)) (w' := w3) ?x21 (fun _ => c3) ?q21 AllR.nil
        case x21 =>
         clear hput
         go_simp
        case q21 =>
         try simp only [Act.put, List.getElem_toArray, List.getElem_cons_zero, List.getElem_cons_succ, List.setIfInBounds_toArray, List.set_cons_zero, List.set_cons_succ]
         refine wpAnyR_ready (rs := [22]) (by kernel_rfl) (by simp) ?_
         refine AllR.value rfl (by rfl) (v := .pointer (some ⟨rb, 2, none⟩)) (w' := w3) ?x22 (fun _ => c3) ?q22 AllR.nil
         case x22 =>
          clear hput
          go_simp
         case q22 =>
          try simp only [Act.put, List.getElem_toArray, List.getElem_cons_zero, List.getElem_cons_succ, List.setIfInBounds_toArray, List.set_cons_zero, List.set_cons_succ]
          refine wpAnyR_ready (rs := [23]) (by kernel_rfl) (by simp) ?_
          refine AllR.skip rfl (by rfl) (w' := w3.setCell ⟨rb, 2, none⟩ (.slice pc3 (ins i s r).length qc3)) ?x23 (fun h => absurd h (by omega)) ?q23 AllR.nil
          case x23 =>
           clear hput
           go_simp
          case q23 =>
           refine wpAnyR_done (by kernel_rfl) ?_
           try simp only [Act.put, List.getElem_toArray, List.getElem_cons_zero, List.getElem_cons_succ, List.setIfInBounds_toArray, List.set_cons_zero, List.set_cons_succ]
           have HP := Lib.hid hput
           clear hput
           go_wp2
           all_goals go_ret2
           all_goals exact ⟨rfl, _, HP.out.1, (below_grown hB (some rb)).trans HP.out.2⟩
     ·have hnk : ¬ (k : Int) < (r.length : Int) := by omega
      clear hgo
      go_wp2
      refine wp_region_R (R := fun j => fun W' => j < 23 → (fun W' : World => W'.cell? ⟨rb, 2, none⟩ = some (.slice ps r.length pc)) W') (by kernel_rfl) ?_
      change wpAnyR Tryz.prog .any _ _ _ 24 (Array.replicate 24 false) _ _
      have hS0 : (fun W' : World => W'.cell? ⟨rb, 2, none⟩ = some (.slice ps r.length pc)) W.drew := hR.c2
      refine wpAnyR_take (fun W' : World => W'.cell? ⟨rb, 2, none⟩ = some (.slice ps r.length pc)) (i := 0) (v := .pointer (some ⟨rb, 0, none⟩)) (fun j => decide (23 ≤ j)) rfl (by kernel_rfl) (by kernel_rfl) (by kernel_rfl) (by kernel_rfl) rfl (by kernel_rfl) (fun _ _ _ h => h) (fun j w hb hR => hR (blk_lt hb (by omega))) (fun w hS _ => hS) (.inl ⟨by rfl, fun w hS => ?x0⟩) hS0 ?_
      case x0 => go_simp
      try simp only [Act.put, List.getElem_toArray, List.getElem_cons_zero, List.getElem_cons_succ, List.setIfInBounds_toArray, List.set_cons_zero, List.set_cons_succ]
      refine wpAnyR_take (fun W' : World => W'.cell? ⟨rb, 2, none⟩ = some (.slice ps r.length pc)) (i := 2) (v := .pointer (some ⟨rb, 0, none⟩)) (fun j => decide (23 ≤ j)) rfl (by kernel_rfl) (by kernel_rfl) (by kernel_rfl) (by kernel_rfl) rfl (by kernel_rfl) (fun _ _ _ h => h) (fun j w hb hR => hR (blk_lt hb (by omega))) (fun w hS _ => hS) (.inl ⟨by rfl, fun w hS => ?x2⟩) hS0 ?_
      case x2 => go_simp
      try simp only [Act.put, List.getElem_toArray, List.getElem_cons_zero, List.getElem_cons_succ, List.setIfInBounds_toArray, List.set_cons_zero, List.set_cons_succ]
      refine wpAnyR_take (fun W' : World => W'.cell? ⟨rb, 2, none⟩ = some (.slice ps r.length pc)) (i := 3) (v := .pointer (some ⟨rb, 0, none⟩)) (fun j => decide (23 ≤ j)) rfl (by kernel_rfl) (by kernel_rfl) (by kernel_rfl) (by kernel_rfl) rfl (by kernel_rfl) (fun _ _ _ h => h) (fun j w hb hR => hR (blk_lt hb (by omega))) (fun w hS _ => hS) (.inl ⟨by rfl, fun w hS => ?x3⟩) hS0 ?_
      case x3 => go_simp
      try simp only [Act.put, List.getElem_toArray, List.getElem_cons_zero, List.getElem_cons_succ, List.setIfInBounds_toArray, List.set_cons_zero, List.set_cons_succ]
      refine wpAnyR_take (fun W' : World => W'.cell? ⟨rb, 2, none⟩ = some (.slice ps r.length pc)) (i := 4) (v := .pointer (some ⟨rb, 2, none⟩)) (fun j => decide (23 ≤ j)) rfl (by kernel_rfl) (by kernel_rfl) (by kernel_rfl) (by kernel_rfl) rfl (by kernel_rfl) (fun _ _ _ h => h) (fun j w hb hR => hR (blk_lt hb (by omega))) (fun w hS _ => hS) (.inl ⟨by rfl, fun w hS => ?x4⟩) hS0 ?_
      case x4 => go_simp
      try simp only [Act.put, List.getElem_toArray, List.getElem_cons_zero, List.getElem_cons_succ, List.setIfInBounds_toArray, List.set_cons_zero, List.set_cons_succ]
      refine wpAnyR_take (fun W' : World => W'.cell? ⟨rb, 2, none⟩ = some (.slice ps r.length pc)) (i := 5) (v := .slice ps r.length pc) (fun j => decide (23 ≤ j)) rfl (by kernel_rfl) (by kernel_rfl) (by kernel_rfl) (by kernel_rfl) rfl (by kernel_rfl) (fun _ _ _ h => h) (fun j w hb hR => hR (blk_lt hb (by omega))) (fun w hS _ => hS) (.inl ⟨by rfl, fun w hS => ?x5⟩) hS0 ?_
      case x5 => go_simp
      try simp only [Act.put, List.getElem_toArray, List.getElem_cons_zero, List.getElem_cons_succ, List.setIfInBounds_toArray, List.set_cons_zero, List.set_cons_succ]
      refine wpAnyR_take (fun W' : World => W'.cell? ⟨rb, 2, none⟩ = some (.slice ps r.length pc)) (i := 6) (v := .int .i64 (k : Int)) (fun j => decide (23 ≤ j)) rfl (by kernel_rfl) (by kernel_rfl) (by kernel_rfl) (by kernel_rfl) rfl (by kernel_rfl) (fun _ _ _ h => h) (fun j w hb hR => hR (blk_lt hb (by omega))) (fun w hS _ => hS) (.inl ⟨by rfl, fun w hS => ?x6⟩) hS0 ?_
      case x6 => go_simp
      try simp only [Act.put, List.getElem_toArray, List.getElem_cons_zero, List.getElem_cons_succ, List.setIfInBounds_toArray, List.set_cons_zero, List.set_cons_succ]
      refine wpAnyR_take (fun W' : World => W'.cell? ⟨rb, 2, none⟩ = some (.slice ps r.length pc)) (i := 7) (v := sliced ps 0 k pc 2) (fun j => decide (23 ≤ j)) rfl (by kernel_rfl) (by kernel_rfl) (by kernel_rfl) (by kernel_rfl) rfl (by kernel_rfl) (fun _ _ _ h => h) (fun j w hb hR => hR (blk_lt hb (by omega))) (fun w hS _ => hS) (.inl ⟨by rfl, fun w hS => ?x7⟩) hS0 ?_
      case x7 => go_simp
      try simp only [Act.put, List.getElem_toArray, List.getElem_cons_zero, List.getElem_cons_succ, List.setIfInBounds_toArray, List.set_cons_zero, List.set_cons_succ]
      refine wpAnyR_take (fun W' : World => W'.cell? ⟨rb, 2, none⟩ = some (.slice ps r.length pc)) (i := 9) (v := .int .i64 i) (fun j => decide (23 ≤ j)) rfl (by kernel_rfl) (by kernel_rfl) (by kernel_rfl) (by kernel_rfl) rfl (by kernel_rfl) (fun _ _ _ h => h) (fun j w hb hR => hR (blk_lt hb (by omega))) (fun w hS _ => hS) (.inl ⟨by rfl, fun w hS => ?x9⟩) hS0 ?_
      case x9 => go_simp
      try simp only [Act.put, List.getElem_toArray, List.getElem_cons_zero, List.getElem_cons_succ, List.setIfInBounds_toArray, List.set_cons_zero, List.set_cons_succ]
      refine wpAnyR_take (fun W' : World => W'.cell? ⟨rb, 2, none⟩ = some (.slice ps r.length pc)) (i := 10) (v := .int .i64 s) (fun j => decide (23 ≤ j)) rfl (by kernel_rfl) (by kernel_rfl) (by kernel_rfl) (by kernel_rfl) rfl (by kernel_rfl) (fun _ _ _ h => h) (fun j w hb hR => hR (blk_lt hb (by omega))) (fun w hS _ => hS) (.inl ⟨by rfl, fun w hS => ?x10⟩) hS0 ?_
      case x10 => go_simp
      try simp only [Act.put, List.getElem_toArray, List.getElem_cons_zero, List.getElem_cons_succ, List.setIfInBounds_toArray, List.set_cons_zero, List.set_cons_succ]
      refine wpAnyR_take (fun W' : World => W'.cell? ⟨rb, 2, none⟩ = some (.slice ps r.length pc)) (i := 11) (v := .agg #[.int .i64 i, .int .i64 s]) (fun j => decide (23 ≤ j)) rfl (by kernel_rfl) (by kernel_rfl) (by kernel_rfl) (by kernel_rfl) rfl (by kernel_rfl) (fun _ _ _ h => h) (fun j w hb hR => hR (blk_lt hb (by omega))) (fun w hS _ => hS) (.inl ⟨by rfl, fun w hS => ?x11⟩) hS0 ?_
      case x11 => go_simp
      try simp only [Act.put, List.getElem_toArray, List.getElem_cons_zero, List.getElem_cons_succ, List.setIfInBounds_toArray, List.set_cons_zero, List.set_cons_succ]
      refine wpAnyR_take (fun W' : World => W'.cell? ⟨rb, 2, none⟩ = some (.slice ps r.length pc)) (i := 14) (v := .pointer (some ⟨rb, 0, none⟩)) (fun j => decide (23 ≤ j)) rfl (by kernel_rfl) (by kernel_rfl) (by kernel_rfl) (by kernel_rfl) rfl (by kernel_rfl) (fun _ _ _ h => h) (fun j w hb hR => hR (blk_lt hb (by omega))) (fun w hS _ => hS) (.inl ⟨by rfl, fun w hS => ?x14⟩) hS0 ?_
      case x14 => go_simp
      try simp only [Act.put, List.getElem_toArray, List.getElem_cons_zero, List.getElem_cons_succ, List.setIfInBounds_toArray, List.set_cons_zero, List.set_cons_succ]
      refine wpAnyR_take (fun W' : World => W'.cell? ⟨rb, 2, none⟩ = some (.slice ps r.length pc)) (i := 15) (v := .pointer (some ⟨rb, 0, none⟩)) (fun j => decide (23 ≤ j)) rfl (by kernel_rfl) (by kernel_rfl) (by kernel_rfl) (by kernel_rfl) rfl (by kernel_rfl) (fun _ _ _ h => h) (fun j w hb hR => hR (blk_lt hb (by omega))) (fun w hS _ => hS) (.inl ⟨by rfl, fun w hS => ?x15⟩) hS0 ?_
      case x15 => go_simp
      try simp only [Act.put, List.getElem_toArray, List.getElem_cons_zero, List.getElem_cons_succ, List.setIfInBounds_toArray, List.set_cons_zero, List.set_cons_succ]
      refine wpAnyR_take (fun W' : World => W'.cell? ⟨rb, 2, none⟩ = some (.slice ps r.length pc)) (i := 16) (v := .pointer (some ⟨rb, 2, none⟩)) (fun j => decide (23 ≤ j)) rfl (by kernel_rfl) (by kernel_rfl) (by kernel_rfl) (by kernel_rfl) rfl (by kernel_rfl) (fun _ _ _ h => h) (fun j w hb hR => hR (blk_lt hb (by omega))) (fun w hS _ => hS) (.inl ⟨by rfl, fun w hS => ?x16⟩) hS0 ?_
      case x16 => go_simp
      try simp only [Act.put, List.getElem_toArray, List.getElem_cons_zero, List.getElem_cons_succ, List.setIfInBounds_toArray, List.set_cons_zero, List.set_cons_succ]
      refine wpAnyR_take (fun W' : World => W'.cell? ⟨rb, 2, none⟩ = some (.slice ps r.length pc)) (i := 17) (v := .slice ps r.length pc) (fun j => decide (23 ≤ j)) rfl (by kernel_rfl) (by kernel_rfl) (by kernel_rfl) (by kernel_rfl) rfl (by kernel_rfl) (fun _ _ _ h => h) (fun j w hb hR => hR (blk_lt hb (by omega))) (fun w hS _ => hS) (.inl ⟨by rfl, fun w hS => ?x17⟩) hS0 ?_
      case x17 => go_simp
      try simp only [Act.put, List.getElem_toArray, List.getElem_cons_zero, List.getElem_cons_succ, List.setIfInBounds_toArray, List.set_cons_zero, List.set_cons_succ]
      refine wpAnyR_take (fun W' : World => W'.cell? ⟨rb, 2, none⟩ = some (.slice ps r.length pc)) (i := 18) (v := .int .i64 (k : Int)) (fun j => decide (23 ≤ j)) rfl (by kernel_rfl) (by kernel_rfl) (by kernel_rfl) (by kernel_rfl) rfl (by kernel_rfl) (fun _ _ _ h => h) (fun j w hb hR => hR (blk_lt hb (by omega))) (fun w hS _ => hS) (.inl ⟨by rfl, fun w hS => ?x18⟩) hS0 ?_
      case x18 => go_simp
      try simp only [Act.put, List.getElem_toArray, List.getElem_cons_zero, List.getElem_cons_succ, List.setIfInBounds_toArray, List.set_cons_zero, List.set_cons_succ]
      refine wpAnyR_take (fun W' : World => W'.cell? ⟨rb, 2, none⟩ = some (.slice ps r.length pc)) (i := 19) (v := sliced ps k r.length pc 2) (fun j => decide (23 ≤ j)) rfl (by kernel_rfl) (by kernel_rfl) (by kernel_rfl) (by kernel_rfl) rfl (by kernel_rfl) (fun _ _ _ h => h) (fun j w hb hR => hR (blk_lt hb (by omega))) (fun w hS _ => hS) (.inl ⟨by rfl, fun w hS => ?x19⟩) hS0 ?_
      case x19 => go_simp
      try simp only [Act.put, List.getElem_toArray, List.getElem_cons_zero, List.getElem_cons_succ, List.setIfInBounds_toArray, List.set_cons_zero, List.set_cons_succ]
      have hrl : rb < W.heap.size := (Array.getElem?_eq_some_iff.1 hR.blk).1
      have hcS : ∀ w', Below W.heap.size W w' → w'.cell? ⟨rb, 2, none⟩ = some (.slice ps r.length pc) := fun w' hb => (hb.cell (p := ⟨rb, 2, none⟩) hrl).trans hR.c2
      refine wpAnyR_ready (rs := [1, 12]) (by kernel_rfl) (by simp) ?_
      have hE1 : Below W.heap.size W (W.drew.alloc (.cells #[] 98)) := (Below.refl _ W).drew.alloc (Nat.le_refl _) _
      have hT1 : Below W.heap.size W (W.drew.alloc (.cells #[.int .i64 i, .int .i64 s] 98)) := (Below.refl _ W).drew.alloc (Nat.le_refl _) _
      refine AllR.value rfl (by rfl) (v := .slice (some ⟨W.heap.size, 0, none⟩) 0 0) (w' := W.drew.alloc (.cells #[] 98)) ?x1 (fun _ => hcS _ hE1) ?n1 (AllR.value rfl (by rfl) (v := .slice (some ⟨W.heap.size, 0, none⟩) 1 1) (w' := W.drew.alloc (.cells #[.int .i64 i, .int .i64 s] 98)) ?x12 (fun _ => hcS _ hT1) ?n12 AllR.nil)
      case x1 => go_simp
      case x12 => go_simp
      case n1 =>
       try simp only [Act.put, List.getElem_toArray, List.getElem_cons_zero, List.getElem_cons_succ, List.setIfInBounds_toArray, List.set_cons_zero, List.set_cons_succ]
       refine wpAnyR_ready (rs := [8, 12]) (by kernel_rfl) (by simp) ?_
       refine AllR.appendS rfl (by rfl) rfl (b0 := W.heap.size) (n := 0) (m := k) (xs := []) (news := flat (r.take k)) (v := .slice (some ⟨W.heap.size, 0, none⟩) 0 0) (y := sliced ps 0 k pc 2) (by rfl) (World.ownsRow_lit W.drew #[] 0 (Nat.le_refl _) (Nat.zero_le _) rfl) (by rfl) (HT.out.below hE1) (flat_cell _) (by omega) hE1.size (fun va w1 own1 g1 _ => ?_) ?m12
       rw [Nat.zero_add, List.nil_append] at own1
       have hB1 : Below W.heap.size W w1 := hE1.grown g1 hE1.size (fun j e => by simp [Value.ownBlock] at e; omega)
       obtain ⟨pa, qa, rfl⟩ : ∃ p c, va = .slice p k c := by
        rcases own1.2 with ⟨e, hn0⟩ | ⟨g', cap', cur', e, _⟩
        ·exact ⟨none, 0, by rw [e, hn0]⟩
        ·exact ⟨_, _, e⟩
       refine ⟨fun _ => hcS _ hB1, ?_⟩
       try simp only [Act.put, List.getElem_toArray, List.getElem_cons_zero, List.getElem_cons_succ, List.setIfInBounds_toArray, List.set_cons_zero, List.set_cons_succ]
       refine wpAnyR_ready (rs := [12]) (by kernel_rfl) (by simp) ?_
       have hB1t : Below W.heap.size W (w1.alloc (.cells #[.int .i64 i, .int .i64 s] 98)) := hB1.alloc hB1.size _
       refine AllR.value rfl (by rfl) (v := .slice (some ⟨w1.heap.size, 0, none⟩) 1 1) (w' := w1.alloc (.cells #[.int .i64 i, .int .i64 s] 98)) ?y12 (fun _ => hcS _ hB1t) ?z12 AllR.nil
       case y12 => go_simp
       case z12 =>
        try simp only [Act.put, List.getElem_toArray, List.getElem_cons_zero, List.getElem_cons_succ, List.setIfInBounds_toArray, List.set_cons_zero, List.set_cons_succ]
        refine wpAnyR_ready (rs := [13]) (by kernel_rfl) (by simp) ?_
        refine AllR.appendS rfl (by rfl) rfl (b0 := W.heap.size) (n := k) (m := 1) (xs := flat (r.take k)) (news := flat [(i, s)]) (v := .slice pa k qa) (by rfl) ((Far.none w1).row (World.grownBy_alloc _ _ none) own1) (by rfl) (.inr ⟨⟨w1.heap.size, 0, none⟩, 1, rfl, rfl, cells_two w1 _ _ _⟩) (flat_cell _) (by omega) hB1t.size (fun vb w2 own2 g2 _ => ?_) AllR.nil
        have hB2 : Below W.heap.size W w2 := hB1t.grown g2 hB1t.size (fun j e => row_lo own1 e)
        obtain ⟨pb, qb, rfl⟩ : ∃ p c, vb = .slice p (k + 1) c := by
         rcases own2.2 with ⟨e, hn0⟩ | ⟨g', cap', cur', e, _⟩
         ·omega
         ·exact ⟨_, _, e⟩
        refine ⟨fun _ => hcS _ hB2, ?_⟩
        try simp only [Act.put, List.getElem_toArray, List.getElem_cons_zero, List.getElem_cons_succ, List.setIfInBounds_toArray, List.set_cons_zero, List.set_cons_succ]
        refine wpAnyR_ready (rs := [20]) (by kernel_rfl) (by simp) ?_
        refine AllR.appendS rfl (by rfl) rfl (b0 := W.heap.size) (n := k + 1) (m := r.length - k) (xs := flat (r.take k) ++ flat [(i, s)]) (news := flat (r.drop k)) (v := .slice pb (k + 1) qb) (y := sliced ps k r.length pc 2) (by rfl) own2 (by rfl) (HD.out.below hB2) (flat_cell _) (by omega) hB2.size (fun vc w3 own3 g3 _ => ?_) AllR.nil
        have hB3 : Below W.heap.size W w3 := hB2.grown g3 hB2.size (fun j e => row_lo own2 e)
        have hlen3 : k + 1 + (r.length - k) = (ins i s r).length := by rw [length_ins]; omega
        have hfl3 : flat (r.take k) ++ flat [(i, s)] ++ flat (r.drop k) = flat (ins i s r) := by rw [HI.out, flat_append, List.append_assoc]; rfl
        rw [hlen3, hfl3] at own3
        obtain ⟨pc3, qc3, rfl⟩ : ∃ p c, vc = .slice p (ins i s r).length c := by
         rcases own3.2 with ⟨e, hn0⟩ | ⟨g', cap', cur', e, _⟩
         ·exact ⟨none, 0, by rw [e, hn0]⟩
         ·exact ⟨_, _, e⟩
        have hput := hR.put hB3 own3 (by rw [length_ins]; omega)
        have c3 := hcS _ hB3
        have f3 : w3.frozen? ⟨rb, 2, none⟩ = false := (hB3.frozen (p := ⟨rb, 2, none⟩) hrl).trans hR.f2
        refine ⟨fun _ => c3, ?_⟩
        try simp only [Act.put, List.getElem_toArray, List.getElem_cons_zero, List.getElem_cons_succ, List.setIfInBounds_toArray, List.set_cons_zero, List.set_cons_succ]
        refine wpAnyR_ready (rs := [21]) (by kernel_rfl) (by simp) ?_
        refine AllR.value rfl (by rfl) (v := .pointer (some ⟨rb, 0, none⟩)) (w' := w3) ?x21 (fun _ => c3) ?q21 AllR.nil
        case x21 =>
         clear hput
         go_simp
        case q21 =>
         try simp only [Act.put, List.getElem_toArray, List.getElem_cons_zero, List.getElem_cons_succ, List.setIfInBounds_toArray, List.set_cons_zero, List.set_cons_succ]
         refine wpAnyR_ready (rs := [22]) (by kernel_rfl) (by simp) ?_
         refine AllR.value rfl (by rfl) (v := .pointer (some ⟨rb, 2, none⟩)) (w' := w3) ?x22 (fun _ => c3) ?q22 AllR.nil
         case x22 =>
          clear hput
          go_simp
         case q22 =>
          try simp only [Act.put, List.getElem_toArray, List.getElem_cons_zero, List.getElem_cons_succ, List.setIfInBounds_toArray, List.set_cons_zero, List.set_cons_succ]
          refine wpAnyR_ready (rs := [23]) (by kernel_rfl) (by simp) ?_
          refine AllR.skip rfl (by rfl) (w' := w3.setCell ⟨rb, 2, none⟩ (.slice pc3 (ins i s r).length qc3)) ?x23 (fun h => absurd h (by omega)) ?q23 AllR.nil
          case x23 =>
           clear hput
           go_simp
          case q23 =>
           refine wpAnyR_done (by kernel_rfl) ?_
           try simp only [Act.put, List.getElem_toArray, List.getElem_cons_zero, List.getElem_cons_succ, List.setIfInBounds_toArray, List.set_cons_zero, List.set_cons_succ]
           have HP := Lib.hid hput
           clear hput
           go_wp2
           all_goals go_ret2
           all_goals exact ⟨rfl, _, HP.out.1, (below_grown hB (some rb)).trans HP.out.2⟩
       case m12 =>
        have hET : Below W.heap.size W ((W.drew.alloc (.cells #[] 98)).alloc (.cells #[.int .i64 i, .int .i64 s] 98)) := hE1.alloc hE1.size _
        refine AllR.value rfl (by rfl) (v := .slice (some ⟨W.heap.size + 1, 0, none⟩) 1 1) (w' := (W.drew.alloc (.cells #[] 98)).alloc (.cells #[.int .i64 i, .int .i64 s] 98)) ?y12 (fun _ => hcS _ hET) ?z12 AllR.nil
        case y12 => go_simp
        case z12 =>
         try simp only [Act.put, List.getElem_toArray, List.getElem_cons_zero, List.getElem_cons_succ, List.setIfInBounds_toArray, List.set_cons_zero, List.set_cons_succ]
         refine wpAnyR_ready (rs := [8]) (by kernel_rfl) (by simp) ?_
         have hct := cells_two (W.drew.alloc (.cells #[] 98)) (.int .i64 i) (.int .i64 s) 98
         rw [show ((W.drew.alloc (.cells #[] 98))).heap.size = W.heap.size + 1 by simp] at hct
         refine AllR.appendS rfl (by rfl) rfl (b0 := W.heap.size) (n := 0) (m := k) (xs := []) (news := flat (r.take k)) (v := .slice (some ⟨W.heap.size, 0, none⟩) 0 0) (y := sliced ps 0 k pc 2) (by rfl) ((Far.none _).row (World.grownBy_alloc (W.drew.alloc (.cells #[] 98)) (.cells #[.int .i64 i, .int .i64 s] 98) none) (World.ownsRow_lit W.drew #[] 0 (Nat.le_refl _) (Nat.zero_le _) rfl)) (by rfl) (HT.out.below hET) (flat_cell _) (by omega) hET.size (fun va w1 own1 g1 _ => ?_) AllR.nil
         rw [Nat.zero_add, List.nil_append] at own1
         have hB1 : Below W.heap.size W w1 := hET.grown g1 hET.size (fun j e => by simp [Value.ownBlock] at e; omega)
         obtain ⟨pa, qa, rfl⟩ : ∃ p c, va = .slice p k c := by
          rcases own1.2 with ⟨e, hn0⟩ | ⟨g', cap', cur', e, _⟩
          ·exact ⟨none, 0, by rw [e, hn0]⟩
          ·exact ⟨_, _, e⟩
         refine ⟨fun _ => hcS _ hB1, ?_⟩
         try simp only [Act.put, List.getElem_toArray, List.getElem_cons_zero, List.getElem_cons_succ, List.setIfInBounds_toArray, List.set_cons_zero, List.set_cons_succ]
         refine wpAnyR_ready (rs := [13]) (by kernel_rfl) (by simp) ?_
         refine AllR.appendS rfl (by rfl) rfl (b0 := W.heap.size) (n := k) (m := 1) (xs := flat (r.take k)) (news := flat [(i, s)]) (v := .slice pa k qa) (by rfl) own1 (by rfl) (.inr ⟨⟨W.heap.size + 1, 0, none⟩, 1, rfl, rfl, fun j u hj => g1.cell (hct j u hj) (by rw [Value.ownBlock]; intro e; have := Option.some.inj e; revert this; cases j <;> simp [Addr.add])⟩) (flat_cell _) (by omega) hB1.size (fun vb w2 own2 g2 _ => ?_) AllR.nil
         have hB2 : Below W.heap.size W w2 := hB1.grown g2 hB1.size (fun j e => row_lo own1 e)
         obtain ⟨pb, qb, rfl⟩ : ∃ p c, vb = .slice p (k + 1) c := by
          rcases own2.2 with ⟨e, hn0⟩ | ⟨g', cap', cur', e, _⟩
          ·omega
          ·exact ⟨_, _, e⟩
         refine ⟨fun _ => hcS _ hB2, ?_⟩
         try simp only [Act.put, List.getElem_toArray, List.getElem_cons_zero, List.getElem_cons_succ, List.setIfInBounds_toArray, List.set_cons_zero, List.set_cons_succ]
         refine wpAnyR_ready (rs := [20]) (by kernel_rfl) (by simp) ?_
         refine AllR.appendS rfl (by rfl) rfl (b0 := W.heap.size) (n := k + 1) (m := r.length - k) (xs := flat (r.take k) ++ flat [(i, s)]) (news := flat (r.drop k)) (v := .slice pb (k + 1) qb) (y := sliced ps k r.length pc 2) (by rfl) own2 (by rfl) (HD.out.below hB2) (flat_cell _) (by omega) hB2.size (fun vc w3 own3 g3 _ => ?_) AllR.nil
         have hB3 : Below W.heap.size W w3 := hB2.grown g3 hB2.size (fun j e => row_lo own2 e)
         have hlen3 : k + 1 + (r.length - k) = (ins i s r).length := by rw [length_ins]; omega
         have hfl3 : flat (r.take k) ++ flat [(i, s)] ++ flat (r.drop k) = flat (ins i s r) := by rw [HI.out, flat_append, List.append_assoc]; rfl
         rw [hlen3, hfl3] at own3
         obtain ⟨pc3, qc3, rfl⟩ : ∃ p c, vc = .slice p (ins i s r).length c := by
          rcases own3.2 with ⟨e, hn0⟩ | ⟨g', cap', cur', e, _⟩
          ·exact ⟨none, 0, by rw [e, hn0]⟩
          ·exact ⟨_, _, e⟩
         have hput := hR.put hB3 own3 (by rw [length_ins]; omega)
         have c3 := hcS _ hB3
         have f3 : w3.frozen? ⟨rb, 2, none⟩ = false := (hB3.frozen (p := ⟨rb, 2, none⟩) hrl).trans hR.f2
         refine ⟨fun _ => c3, ?_⟩
         try simp only [Act.put, List.getElem_toArray, List.getElem_cons_zero, List.getElem_cons_succ, List.setIfInBounds_toArray, List.set_cons_zero, List.set_cons_succ]
         refine wpAnyR_ready (rs := [21]) (by kernel_rfl) (by simp) ?_
         refine AllR.value rfl (by rfl) (v := .pointer (some ⟨rb, 0, none⟩)) (w' := w3) ?x21 (fun _ => c3) ?q21 AllR.nil
         case x21 =>
          clear hput
          go_simp
         case q21 =>
          try simp only [Act.put, List.getElem_toArray, List.getElem_cons_zero, List.getElem_cons_succ, List.setIfInBounds_toArray, List.set_cons_zero, List.set_cons_succ]
          refine wpAnyR_ready (rs := [22]) (by kernel_rfl) (by simp) ?_
          refine AllR.value rfl (by rfl) (v := .pointer (some ⟨rb, 2, none⟩)) (w' := w3) ?x22 (fun _ => c3) ?q22 AllR.nil
          case x22 =>
           clear hput
           go_simp
          case q22 =>
           try simp only [Act.put, List.getElem_toArray, List.getElem_cons_zero, List.getElem_cons_succ, List.setIfInBounds_toArray, List.set_cons_zero, List.set_cons_succ]
           refine wpAnyR_ready (rs := [23]) (by kernel_rfl) (by simp) ?_
           refine AllR.skip rfl (by rfl) (w' := w3.setCell ⟨rb, 2, none⟩ (.slice pc3 (ins i s r).length qc3)) ?x23 (fun h => absurd h (by omega)) ?q23 AllR.nil
           case x23 =>
            clear hput
            go_simp
           case q23 =>
            refine wpAnyR_done (by kernel_rfl) ?_
            try simp only [Act.put, List.getElem_toArray, List.getElem_cons_zero, List.getElem_cons_succ, List.setIfInBounds_toArray, List.set_cons_zero, List.set_cons_succ]
            have HP := Lib.hid hput
            clear hput
            go_wp2
            all_goals go_ret2
            all_goals exact ⟨rfl, _, HP.out.1, (below_grown hB (some rb)).trans HP.out.2⟩
      case n12 =>
       try simp only [Act.put, List.getElem_toArray, List.getElem_cons_zero, List.getElem_cons_succ, List.setIfInBounds_toArray, List.set_cons_zero, List.set_cons_succ]
       refine wpAnyR_ready (rs := [1]) (by kernel_rfl) (by simp) ?_
       have hTE : Below W.heap.size W ((W.drew.alloc (.cells #[.int .i64 i, .int .i64 s] 98)).alloc (.cells #[] 98)) := hT1.alloc hT1.size _
       refine AllR.value rfl (by rfl) (v := .slice (some ⟨W.heap.size + 1, 0, none⟩) 0 0) (w' := (W.drew.alloc (.cells #[.int .i64 i, .int .i64 s] 98)).alloc (.cells #[] 98)) ?y1 (fun _ => hcS _ hTE) ?z1 AllR.nil
       case y1 => go_simp
       case z1 =>
        try simp only [Act.put, List.getElem_toArray, List.getElem_cons_zero, List.getElem_cons_succ, List.setIfInBounds_toArray, List.set_cons_zero, List.set_cons_succ]
        refine wpAnyR_ready (rs := [8]) (by kernel_rfl) (by simp) ?_
        have hct := cells_two W.drew (.int .i64 i) (.int .i64 s) 98
        have hct2 : ∀ j u, [Value.int .i64 i, .int .i64 s][j]? = some u → ((W.drew.alloc (.cells #[.int .i64 i, .int .i64 s] 98)).alloc (.cells #[] 98)).cell? ((⟨W.heap.size, 0, none⟩ : Addr).add j) = some u := fun j u hj => cell_kept (hct j u hj) (World.grownBy_alloc (W.drew.alloc (.cells #[.int .i64 i, .int .i64 s] 98)) (.cells #[] 98) none) (fun r e => by cases e)
        refine AllR.appendS rfl (by rfl) rfl (b0 := W.heap.size) (n := 0) (m := k) (xs := []) (news := flat (r.take k)) (v := .slice (some ⟨W.heap.size + 1, 0, none⟩) 0 0) (y := sliced ps 0 k pc 2) (by rfl) (by have := World.ownsRow_lit (W.drew.alloc (.cells #[.int .i64 i, .int .i64 s] 98)) #[] (base := W.heap.size) (e := 98) (size := 2) 0 (by simp) (Nat.zero_le _) rfl; simpa using this) (by rfl) (HT.out.below hTE) (flat_cell _) (by omega) hTE.size (fun va w1 own1 g1 _ => ?_) AllR.nil
        rw [Nat.zero_add, List.nil_append] at own1
        have hB1 : Below W.heap.size W w1 := hTE.grown g1 hTE.size (fun j e => by simp [Value.ownBlock] at e; omega)
        obtain ⟨pa, qa, rfl⟩ : ∃ p c, va = .slice p k c := by
         rcases own1.2 with ⟨e, hn0⟩ | ⟨g', cap', cur', e, _⟩
         ·exact ⟨none, 0, by rw [e, hn0]⟩
         ·exact ⟨_, _, e⟩
        refine ⟨fun _ => hcS _ hB1, ?_⟩
        try simp only [Act.put, List.getElem_toArray, List.getElem_cons_zero, List.getElem_cons_succ, List.setIfInBounds_toArray, List.set_cons_zero, List.set_cons_succ]
        refine wpAnyR_ready (rs := [13]) (by kernel_rfl) (by simp) ?_
        refine AllR.appendS rfl (by rfl) rfl (b0 := W.heap.size) (n := k) (m := 1) (xs := flat (r.take k)) (news := flat [(i, s)]) (v := .slice pa k qa) (by rfl) own1 (by rfl) (.inr ⟨⟨W.heap.size, 0, none⟩, 1, rfl, rfl, fun j u hj => g1.cell (hct2 j u hj) (by rw [Value.ownBlock]; intro e; have := Option.some.inj e; revert this; cases j <;> simp [Addr.add])⟩) (flat_cell _) (by omega) hB1.size (fun vb w2 own2 g2 _ => ?_) AllR.nil
        have hB2 : Below W.heap.size W w2 := hB1.grown g2 hB1.size (fun j e => row_lo own1 e)
        obtain ⟨pb, qb, rfl⟩ : ∃ p c, vb = .slice p (k + 1) c := by
         rcases own2.2 with ⟨e, hn0⟩ | ⟨g', cap', cur', e, _⟩
         ·omega
         ·exact ⟨_, _, e⟩
        refine ⟨fun _ => hcS _ hB2, ?_⟩
        try simp only [Act.put, List.getElem_toArray, List.getElem_cons_zero, List.getElem_cons_succ, List.setIfInBounds_toArray, List.set_cons_zero, List.set_cons_succ]
        refine wpAnyR_ready (rs := [20]) (by kernel_rfl) (by simp) ?_
        refine AllR.appendS rfl (by rfl) rfl (b0 := W.heap.size) (n := k + 1) (m := r.length - k) (xs := flat (r.take k) ++ flat [(i, s)]) (news := flat (r.drop k)) (v := .slice pb (k + 1) qb) (y := sliced ps k r.length pc 2) (by rfl) own2 (by rfl) (HD.out.below hB2) (flat_cell _) (by omega) hB2.size (fun vc w3 own3 g3 _ => ?_) AllR.nil
        have hB3 : Below W.heap.size W w3 := hB2.grown g3 hB2.size (fun j e => row_lo own2 e)
        have hlen3 : k + 1 + (r.length - k) = (ins i s r).length := by rw [length_ins]; omega
        have hfl3 : flat (r.take k) ++ flat [(i, s)] ++ flat (r.drop k) = flat (ins i s r) := by rw [HI.out, flat_append, List.append_assoc]; rfl
        rw [hlen3, hfl3] at own3
        obtain ⟨pc3, qc3, rfl⟩ : ∃ p c, vc = .slice p (ins i s r).length c := by
         rcases own3.2 with ⟨e, hn0⟩ | ⟨g', cap', cur', e, _⟩
         ·exact ⟨none, 0, by rw [e, hn0]⟩
         ·exact ⟨_, _, e⟩
        have hput := hR.put hB3 own3 (by rw [length_ins]; omega)
        have c3 := hcS _ hB3
        have f3 : w3.frozen? ⟨rb, 2, none⟩ = false := (hB3.frozen (p := ⟨rb, 2, none⟩) hrl).trans hR.f2
        refine ⟨fun _ => c3, ?_⟩
        try simp only [Act.put, List.getElem_toArray, List.getElem_cons_zero, List.getElem_cons_succ, List.setIfInBounds_toArray, List.set_cons_zero, List.set_cons_succ]
        refine wpAnyR_ready (rs := [21]) (by kernel_rfl) (by simp) ?_
        refine AllR.value rfl (by rfl) (v := .pointer (some ⟨rb, 0, none⟩)) (w' := w3) ?x21 (fun _ => c3) ?q21 AllR.nil
        case x21 =>
         clear hput
         go_simp
        case q21 =>
         try simp only [Act.put, List.getElem_toArray, List.getElem_cons_zero, List.getElem_cons_succ, List.setIfInBounds_toArray, List.set_cons_zero, List.set_cons_succ]
         refine wpAnyR_ready (rs := [22]) (by kernel_rfl) (by simp) ?_
         refine AllR.value rfl (by rfl) (v := .pointer (some ⟨rb, 2, none⟩)) (w' := w3) ?x22 (fun _ => c3) ?q22 AllR.nil
         case x22 =>
          clear hput
          go_simp
         case q22 =>
          try simp only [Act.put, List.getElem_toArray, List.getElem_cons_zero, List.getElem_cons_succ, List.setIfInBounds_toArray, List.set_cons_zero, List.set_cons_succ]
          refine wpAnyR_ready (rs := [23]) (by kernel_rfl) (by simp) ?_
          refine AllR.skip rfl (by rfl) (w' := w3.setCell ⟨rb, 2, none⟩ (.slice pc3 (ins i s r).length qc3)) ?x23 (fun h => absurd h (by omega)) ?q23 AllR.nil
          case x23 =>
           clear hput
           go_simp
          case q23 =>
           refine wpAnyR_done (by kernel_rfl) ?_
           try simp only [Act.put, List.getElem_toArray, List.getElem_cons_zero, List.getElem_cons_succ, List.setIfInBounds_toArray, List.set_cons_zero, List.set_cons_succ]
           have HP := Lib.hid hput
           clear hput
           go_wp2
           all_goals go_ret2
           all_goals exact ⟨rfl, _, HP.out.1, (below_grown hB (some rb)).trans HP.out.2⟩
end Go.St
/- The document's store, walked: Offer where nothing is taken in. -/
namespace Go.St
open Go Go.Proofs Go.RowKit Go.Maps Go.Shelf Go.Ev
def Quiet (w : World) (b : Bool) (n : Int) (e : Ending) (w' : World) : Prop := e = .returned (.tuple #[.bool b, .int .i64 n]) ∧ Still w w'
set_option maxRecDepth 20000 in
theorem roffer_nil {i s : Int} (w : World) : Calls Tryz.prog 19 #[.pointer none, .int .i64 i, .int .i64 s] w (Quiet w false 1) := by
 have hv := rvalid_nil w
 go_enter Tryz.func19, Tryz.ntmps19
 go_wp2_with (go_at_call 38; refine hv.mono ?_; rintro e w' ⟨rfl, rfl⟩)
 go_ret2
 exact ⟨rfl, 0, rfl⟩
theorem roffer_bad {w : World} {rb : Nat} {d room i s : Int} {r : List (Int × Int)} {v : Value} (h : RAt w rb d room r v) (hd : 1 ≤ d) (hs : s < 0) : Calls Tryz.prog 19 #[.pointer (some ⟨rb, 0, none⟩), .int .i64 i, .int .i64 s] w (Quiet w false 1) := by
 have hv := rvalid_ok rb d w h.c0 hd
 go_enter Tryz.func19, Tryz.ntmps19
 go_wp2_with (go_at_call 38; refine hv.mono ?_; rintro e w' ⟨rfl, rfl⟩)
 go_ret2
 exact ⟨rfl, 0, rfl⟩
theorem roffer_neg {w : World} {rb : Nat} {d room i s : Int} {r : List (Int × Int)} {v : Value} (h : RAt w rb d room r v) (hd : 1 ≤ d) (hs : 0 ≤ s) (hi : i < 0) : Calls Tryz.prog 19 #[.pointer (some ⟨rb, 0, none⟩), .int .i64 i, .int .i64 s] w (Quiet w false 2) := by
 have hv := rvalid_ok rb d w h.c0 hd
 have hs1 : ¬ s < 0 := by omega
 go_enter Tryz.func19, Tryz.ntmps19
 go_wp2_with (go_at_call 38; refine hv.mono ?_; rintro e w' ⟨rfl, rfl⟩)
 go_ret2
 exact ⟨rfl, 0, rfl⟩
theorem roffer_odd {w : World} {rb : Nat} {d room i s : Int} {r : List (Int × Int)} {v : Value} (h : RAt w rb d room r v) (hd : 1 ≤ d) (hs : 0 ≤ s) (hi : 0 ≤ i) (hm : ¬ i % d = 0) : Calls Tryz.prog 19 #[.pointer (some ⟨rb, 0, none⟩), .int .i64 i, .int .i64 s] w (Quiet w false 0) := by
 have hv := rvalid_ok rb d w h.c0 hd
 have c0 := h.c0
 have hs1 : ¬ s < 0 := by omega
 have hd0 : ¬ d = 0 := by omega
 have hi1 : ¬ i < 0 := by omega
 go_enter Tryz.func19, Tryz.ntmps19
 go_wp2_with (go_at_call 38; refine hv.mono ?_; rintro e w' ⟨rfl, rfl⟩)
 go_ret2
 exact ⟨rfl, 0, rfl⟩
set_option maxRecDepth 20000 in
theorem roffer_has {w : World} {rb : Nat} {d room i s : Int} {r : List (Int × Int)} {v : Value} (h : RAt w rb d room r v) (hd : 1 ≤ d) (hs : 0 ≤ s) (hi : 0 ≤ i) (hm : i % d = 0) (hh : has i r = true) : Calls Tryz.prog 19 #[.pointer (some ⟨rb, 0, none⟩), .int .i64 i, .int .i64 s] w (Quiet w false 0) := by
 have hv := rvalid_ok rb d w h.c0 hd
 have c0 := h.c0
 have c2 := h.c2
 have hfew := h.few
 have hs1 : ¬ s < 0 := by omega
 have hd0 : ¬ d = 0 := by omega
 have hi1 : ¬ i < 0 := by omega
 obtain ⟨ps, pc, hsl⟩ := h.slice
 obtain ⟨pp, qq, rfl⟩ : ∃ p c, v = .slice p r.length c := ⟨ps, pc, hsl⟩
 have HH := Lib.hid hh
 clear hsl hh
 go_enter Tryz.func19, Tryz.ntmps19
 go_wp2_with (go_at_call 38; refine hv.mono ?_; rintro e w' ⟨rfl, rfl⟩)
 go_loop [8] (fun x => ∃ j : Nat, j ≤ r.length ∧ x = .int .i64 j ∧ ∀ (k : Nat) (q : Int × Int), k < j → r[k]? = some q → q.1 ≠ i) (fun x => r.length - (RowKit.intOf x).toNat)
 case atStart => exact ⟨0, by omega, rfl, fun k q hk => by omega⟩
 case round =>
  obtain ⟨j, hj, rfl, hpre⟩ := hrel
  have HPre := Lib.hid hpre
  clear hpre
  by_cases hjl : j < r.length
  ·have hp : r[j]? = some r[j] := by simp [hjl]
   generalize r[j] = p at hp
   obtain ⟨g, cap, e, k0, k1⟩ := h.item hp
   obtain ⟨rfl, e9, rfl⟩ := Value.slice.inj e
   have b0 : (0 : Int) ≤ (j : Int) := by omega
   have b1 : (j : Int) < (r.length : Int) := by omega
   have HQ := Lib.hid hp
   clear hp e e9 h hv
   by_cases hpi : p.1 = i
   ·go_wp2
    go_ret2
    exact ⟨rfl, 0, rfl⟩
   ·go_wp2
    go_round
    case rel =>
     refine ⟨j + 1, by omega, int_congr (by omega), fun k q hk hq => ?_⟩
     by_cases hkj : k = j
     ·subst hkj
      have := HQ.out
      rw [hq] at this
      cases this
      exact hpi
     ·exact HPre.out k q (by omega) hq
    case measure => simp [RowKit.intOf]; omega
  ·exfalso
   obtain ⟨k, q, hq, hqi⟩ := has_places.1 HH.out
   have := (List.getElem?_eq_some_iff.1 hq).1
   exact HPre.out k q (by omega) hq hqi
end Go.St
/- The store and the document's store where they are nil, and Offer at no snapshot or a bad index. -/
namespace Go.St
open Go Go.Proofs Go.RowKit Go.Maps Go.Shelf Go.Ev
theorem valid_nil (w : World) : Calls Tryz.prog 29 #[.pointer none] w fun e w' => e = .returned (.bool false) ∧ w = w' := by
 go_enter Tryz.func29, Tryz.ntmps29
 go_wp2
 go_ret
 exact ⟨rfl, rfl⟩
theorem unit_nil (w : World) : Calls Tryz.prog 30 #[.pointer none] w fun e w' => e = .returned (.pointer none) ∧ w = w' := by
 go_enter Tryz.func30, Tryz.ntmps30
 go_wp2
 go_ret
 exact ⟨rfl, rfl⟩
set_option maxRecDepth 20000 in
theorem offer_nilstore {i : Int} (x : Value) (w : World) : Calls Tryz.prog 10 #[.pointer none, .int .i64 i, x] w (Quiet w false 1) := by
 have hv := valid_nil w
 go_enter Tryz.func10, Tryz.ntmps10
 go_wp2_with (go_at_call 29; refine hv.mono ?_; rintro e w' ⟨rfl, rfl⟩)
 go_ret2
 exact ⟨rfl, 0, rfl⟩
set_option maxRecDepth 20000 in
theorem offer_nilsnap {sb mb : Nat} {d room i : Int} {l : List (Int × Value)} {w : World} (h : At w sb d room mb l) : Calls Tryz.prog 10 #[.pointer (some ⟨sb, 0, none⟩), .int .i64 i, .pointer none] w (Quiet w false 1) := by
 have hv := valid_ok sb mb w h.c2
 have hu := unit_nil w
 go_enter Tryz.func10, Tryz.ntmps10
 go_wp2_with (first | (go_at_call 29; refine hv.mono ?_; rintro e w' ⟨rfl, rfl⟩) | (go_at_call 30; refine hu.mono ?_; rintro e w' ⟨rfl, rfl⟩))
 go_ret2
 exact ⟨rfl, 0, rfl⟩
set_option maxRecDepth 20000 in
theorem offer_neg {sb mb xb : Nat} {a : Addr} {d room i : Int} {l : List (Int × Value)} {w : World} (h : At w sb d room mb l) (hx : w.cell? ⟨xb, 0, none⟩ = some (.pointer (some a))) (hi : i < 0) : Calls Tryz.prog 10 #[.pointer (some ⟨sb, 0, none⟩), .int .i64 i, .pointer (some ⟨xb, 0, none⟩)] w (Quiet w false 2) := by
 have hv := valid_ok sb mb w h.c2
 have hu := unit_ok xb a w hx
 go_enter Tryz.func10, Tryz.ntmps10
 go_wp2_with (first | (go_at_call 29; refine hv.mono ?_; rintro e w' ⟨rfl, rfl⟩) | (go_at_call 30; refine hu.mono ?_; rintro e w' ⟨rfl, rfl⟩))
 go_ret2
 exact ⟨rfl, 0, rfl⟩
theorem indexes_nil (w : World) : Calls Tryz.prog 33 #[.pointer none] w (Idx ([] : List (Int × Value)) w) := by
 have hv := valid_nil w
 go_enter Tryz.func33, Tryz.ntmps33
 go_wp2_with (go_at_call 29; refine hv.mono ?_; rintro e w' ⟨rfl, rfl⟩)
 go_ret
 exact ⟨.slice none 0 0, rfl, .inl ⟨rfl, rfl⟩, Below.refl _ _⟩
theorem len_nil (w : World) : Calls Tryz.prog 15 #[.pointer none] w fun e w' => e = .returned (.int .i64 0) ∧ Below w.heap.size w w' := by
 have hs := indexes_nil w
 go_enter Tryz.func15, Tryz.ntmps15
 go_wp2_with (go_at_call 33; refine hs.mono ?_; rintro e w' ⟨v, rfl, hrow, hbl⟩; have hl := hrow.len)
 go_ret
 exact ⟨rfl, hbl⟩
theorem cut_nil {n : Int} (w : World) : Calls Tryz.prog 14 #[.pointer none, .int .i64 n] w fun e w' => e = .returned (.int .i64 1) ∧ Below w.heap.size w w' := by
 go_enter Tryz.func14, Tryz.ntmps14
 go_wp2_with (go_at_call 29; refine (valid_nil _).mono ?_; rintro e w' ⟨rfl, rfl⟩)
 go_ret
 exact ⟨rfl, (Below.refl _ _).alloc (Nat.le_refl _) _⟩
theorem all_nil (w : World) : Calls Tryz.prog 17 #[.pointer none] w fun e w' => e = .returned (.func (.func 37) #[] #[.pointer (some ⟨w.heap.size, 0, none⟩)]) ∧ w' = w.alloc (.cells #[.pointer none] 23) := by
 go_enter Tryz.func17, Tryz.ntmps17
 go_wp2
 go_ret
 exact ⟨rfl, rfl⟩
theorem copy_nil (w : World) : Calls Tryz.prog 16 #[.pointer none] w fun e w' => e = .returned (.pointer none) ∧ w = w' := by
 have hv := valid_nil w
 go_enter Tryz.func16, Tryz.ntmps16
 go_wp2_with (go_at_call 29; refine hv.mono ?_; rintro e w' ⟨rfl, rfl⟩)
 go_ret
 exact ⟨rfl, rfl⟩
theorem rcopy_nil (w : World) : Calls Tryz.prog 22 #[.pointer none] w fun e w' => e = .returned (.pointer none) ∧ w = w' := by
 have hv := rvalid_nil w
 go_enter Tryz.func22, Tryz.ntmps22
 go_wp2_with (go_at_call 38; refine hv.mono ?_; rintro e w' ⟨rfl, rfl⟩)
 go_ret
 exact ⟨rfl, rfl⟩
theorem rcut_nil {n : Int} (w : World) : Calls Tryz.prog 21 #[.pointer none, .int .i64 n] w fun e w' => e = .returned (.int .i64 1) ∧ w = w' := by
 have hv := rvalid_nil w
 go_enter Tryz.func21, Tryz.ntmps21
 go_wp2_with (go_at_call 38; refine hv.mono ?_; rintro e w' ⟨rfl, rfl⟩)
 go_ret
 exact ⟨rfl, rfl⟩
theorem rbest_nil {n : Int} (w : World) : Calls Tryz.prog 20 #[.pointer none, .int .i64 n] w fun e w' => e = .returned (rbestV none) ∧ w = w' := by
 have hv := rlen_nil w
 go_enter Tryz.func20, Tryz.ntmps20
 go_wp2_with (go_at_call 39; refine hv.mono ?_; rintro e w' ⟨rfl, rfl⟩)
 go_loop [7] (fun x => x = .int .i64 (-1)) (fun x => 0)
 case atStart => rfl
 case round =>
  subst hrel
  go_wp2
  go_ret3
  exact ⟨rfl, rfl⟩
end Go.St
/- The loop over All of no store: no round. -/
namespace Go.St
open Go Go.Proofs Go.RowKit Go.Maps Go.Shelf Go.Ev
attribute [local go_sem] Oper.semAt_some
set_option maxRecDepth 100000 in
set_option maxHeartbeats 2000000 in
theorem all1_nil_in (n : Nat) (hn : 2 ≤ n) (lp Bs : Nat) (J : List (Fin 0) → World → Prop) (W : World) (hJ : AbidesFrom W.heap.size J) (hBs : W.cell? ⟨Bs, 0, none⟩ = some (.pointer none)) (h0 : J [] W) :
  CallsIn Fence.wide n Tryz.prog 37 #[.func (.yield lp) #[] #[], .pointer (some ⟨Bs, 0, none⟩)] W fun e W' => (∃ v, e = .returned v) ∧ J [] W' := by
 have hs := callsIn_wide (n := n - 1).2 (indexes_nil W)
 refine callsIn_of_wp Tryz.func37 rfl trivial ?_ rfl
 simp only [Tryz.ntmps37, List.size_toArray, List.length_cons, List.length_nil, Nat.reduceAdd, Nat.reduceSub, Array.replicate_succ, Array.replicate_zero, List.push_toArray, List.append_toArray, List.nil_append, List.cons_append]
 gi_wp2_with (refine ⟨trivial, fun _ => Nat.le_of_succ_le hn, ?_⟩; gi_at_call 33; refine hs.mono ?_; rintro e w' ⟨v, rfl, hrow, hbl⟩; have hlen := hrow.len)
 have hJ1 : J [] w' := hJ _ _ _ none h0 (below_grown hbl none) (fun r e => by cases e)
 rcases hrow with ⟨hv, hz⟩ | ⟨g, cap, hv, hne, hg, hgl, hcell⟩
 ·clear hs hlen hz
  subst hv
  gi_loopw [8] (fun i wr => i = .int .i64 0 ∧ J [] wr) (fun _ _ => 0)
  case atStart => exact ⟨rfl, hJ1⟩
  case round =>
   obtain ⟨rfl, hJs⟩ := hrel
   have hz : ¬ 0 < (keys ([] : List (Int × Value))).length := by simp [keys]
   gi_wp2
   go_end0
   exact ⟨⟨_, rfl⟩, hJs⟩
 ·exact absurd rfl hne
theorem all_nil_stops (n : Nat) (hn : 2 ≤ n) (Bs n₀ : Nat) (w : World) (hB : Bs < w.heap.size) (hBs : w.cell? ⟨Bs, 0, none⟩ = some (.pointer none)) :
  SeqStopsK Fence.wide n Tryz.prog 37 #[.pointer (some ⟨Bs, 0, none⟩)] (fun _ : Fin 0 => #[Value.int .i64 0, Value.pointer none]) (Below n₀) (fun ys => ys = []) (fun _ => False) 0 w := fun l J Jx W hW hJ _ hY h0 =>
 (all1_nil_in n hn l Bs J W hJ ((hW.cell (p := ⟨Bs, 0, none⟩) hB).trans hBs) h0).mono fun e W' ⟨he, hj⟩ => ⟨he, .inl ⟨_, rfl, hj⟩⟩
end Go.St
/- Best of no store. -/
namespace Go.St.Nl
open Go Go.Proofs Go.RowKit Go.Maps Go.Shelf Go.Ev Go.St
attribute [local go_sem] Oper.semAt_some
/-- the world in which Best asks for the indexes -/
def w5 (w : World) (i : Int) : World := ((((w.alloc (.cells #[.pointer none] 23)).alloc (.cells #[.int .i64 i] 3)).alloc (.cells #[.int .i64 0] 3)).alloc (.cells #[.pointer none] 31)).alloc (.cells #[.bool false] 4)
theorem w5_below (w : World) (i : Int) : Below w.heap.size w (w5 w i) := by
 unfold w5
 exact (((((Below.refl _ w).alloc (Nat.le_refl _) _).alloc (by simp) _).alloc (by simp; omega) _).alloc (by simp; omega) _).alloc (by simp; omega) _
/-- the cells of Best's own: the store, the index, the results -/
def BestC (N : Nat) (i : Int) (W : World) : Prop := W.cell? ⟨N, 0, none⟩ = some (.pointer none) ∧ W.cell? ⟨N + 1, 0, none⟩ = some (.int .i64 i) ∧
 (W.cell? ⟨N + 1 + 1, 0, none⟩ = some (.int .i64 0) ∧ W.frozen? ⟨N + 1 + 1, 0, none⟩ = false) ∧ (W.cell? ⟨N + 1 + 1 + 1, 0, none⟩ = some (.pointer none) ∧ W.frozen? ⟨N + 1 + 1 + 1, 0, none⟩ = false) ∧ (W.cell? ⟨N + 1 + 1 + 1 + 1, 0, none⟩ = some (.bool false) ∧ W.frozen? ⟨N + 1 + 1 + 1 + 1, 0, none⟩ = false)
theorem w5_cells (w : World) (i : Int) : BestC w.heap.size i (w5 w i) := by
 unfold BestC w5
 refine ⟨?_, ?_, ⟨?_, ?_⟩, ⟨?_, ?_⟩, ⟨?_, ?_⟩⟩ <;> go_simp
theorem BestC.below {N : Nat} {i : Int} {A B : World} (h : BestC N i A) {n : Nat} (hb : Below n A B) (hn : N + 5 ≤ n) : BestC N i B := by
 obtain ⟨h1, h2, ⟨h3, h3'⟩, ⟨h4, h4'⟩, ⟨h5, h5'⟩⟩ := h
 exact ⟨(hb.cell (p := ⟨N, 0, none⟩) (by show N < n; omega)).trans h1, (hb.cell (p := ⟨N + 1, 0, none⟩) (by show N + 1 < n; omega)).trans h2,
  ⟨(hb.cell (p := ⟨N + 1 + 1, 0, none⟩) (by show N + 1 + 1 < n; omega)).trans h3, (hb.frozen (p := ⟨N + 1 + 1, 0, none⟩) (by show N + 1 + 1 < n; omega)).trans h3'⟩,
  ⟨(hb.cell (p := ⟨N + 1 + 1 + 1, 0, none⟩) (by show N + 1 + 1 + 1 < n; omega)).trans h4, (hb.frozen (p := ⟨N + 1 + 1 + 1, 0, none⟩) (by show N + 1 + 1 + 1 < n; omega)).trans h4'⟩,
  ⟨(hb.cell (p := ⟨N + 1 + 1 + 1 + 1, 0, none⟩) (by show N + 1 + 1 + 1 + 1 < n; omega)).trans h5, (hb.frozen (p := ⟨N + 1 + 1 + 1 + 1, 0, none⟩) (by show N + 1 + 1 + 1 + 1 < n; omega)).trans h5'⟩⟩
theorem BestC.kept {N : Nat} {i : Int} {A B : World} {row : Option Nat} (h : BestC N i A) (hg : A.grownBy B row) (hr : ∀ r, row = some r → ∃ o : Obj, A.heap[r]? = some o ∧ o.isCells = false) : BestC N i B := by
 obtain ⟨h1, h2, ⟨h3, h3'⟩, ⟨h4, h4'⟩, ⟨h5, h5'⟩⟩ := h
 exact ⟨cell_kept h1 hg hr, cell_kept h2 hg hr, ⟨cell_kept h3 hg hr, (frozen_kept h3 hg hr).trans h3'⟩, ⟨cell_kept h4 hg hr, (frozen_kept h4 hg hr).trans h4'⟩, ⟨cell_kept h5 hg hr, (frozen_kept h5 hg hr).trans h5'⟩⟩
set_option maxRecDepth 100000 in
set_option maxHeartbeats 4000000 in
theorem best_nil (F : Fence) (hF : F = Fence.wide) {i : Int} {w : World} :
  CallsIn F 7 Tryz.prog 12 #[.pointer none, .int .i64 i] w (BestE w none) := by
 subst hF
 have hs := callsIn_wide (n := 6).2 (indexes_nil (w5 w i))
 have HC := Lib.hid (w5_cells w i)
 have HB := Lib.hid (w5_below w i)
 unfold w5 at hs HC HB
 refine callsIn_of_wp_marks Tryz.func12 rfl trivial ?_ rfl
 simp only [Tryz.ntmps12, List.size_toArray, List.length_cons, List.length_nil, Nat.reduceAdd, Nat.reduceSub, Array.replicate_succ, Array.replicate_zero, List.push_toArray, List.append_toArray, List.nil_append, List.cons_append]
 gi_wp2_with (first
  | (refine ⟨trivial, ?_⟩; gi_at_call 33; refine hs.mono ?_; rintro e w' ⟨v, rfl, hrow, hbl⟩)
  | (gi_at_call 33; refine hs.mono ?_; rintro e w' ⟨v, rfl, hrow, hbl⟩))
 have hv : v = .slice none 0 0 := by
  rcases hrow with ⟨hv, hz⟩ | ⟨g, cap, hv, hne, hg, hgl, hcell⟩
  ·exact hv
  ·exact absurd rfl hne
 clear hrow
 subst hv
 have hN : w.heap.size + 5 ≤ w'.heap.size := by have := hbl.size; simp at this; omega
 have hC := BestC.below HC.out hbl (by simp)
 have hB := HB.out.trans (hbl.mono (by simp; omega))
 clear hbl hs
 gi_wp2_with (first
  | (refine ⟨trivial, ?_⟩; gi_at_call 32; refine (callsIn_wide.2 (backward_ok _ _ _ _)).mono ?_; rintro e w'' ⟨rfl, rfl⟩)
  | (gi_at_call 32; refine (callsIn_wide.2 (backward_ok _ _ _ _)).mono ?_; rintro e w'' ⟨rfl, rfl⟩))
 refine wpIn_rangeFunc_ownG rfl (by omega) (gf := 55) (lb := #[.pointer (some ⟨w'.heap.size, 0, none⟩)]) rfl trivial (enters_of Tryz.func55 (by kernel_rfl) rfl)
  (back_nil_stops Fence.wide 6 trivial rfl w'.heap.size (w'.heap.size + 1) _ (by simp) (cell_new1 _ _ _)) belowK_t (belowK_b (by simp)) (Below.refl _ _) (fun _ => rfl)
  (fun pre W => BestC w.heap.size i W ∧ Below w.heap.size w W)
  (fun c pre W => False)
  (OwnFrom.and (Own.from (fun s A B row hs hg hr => hs.kept hg hr) _) (ownFrom_below (Nat.le_refl _) (by simp; omega)))
  (fun _ _ _ _ _ hs _ _ => hs)
  ⟨hC.kept (World.grownBy_alloc _ _ none) (fun r e => by cases e), hB.alloc (by omega) _⟩
  (fun x => { tmps := #[.pointer none, .int .i64 i, .pointer (some ⟨w.heap.size, 0, none⟩), .pointer (some ⟨w.heap.size + 1, 0, none⟩), .pointer (some ⟨w.heap.size + 1 + 1, 0, none⟩), .pointer (some ⟨w.heap.size + 1 + 1 + 1, 0, none⟩), .pointer (some ⟨w.heap.size + 1 + 1 + 1 + 1, 0, none⟩), undef, .int .i64 0, .pointer none, .slice none 0 0, .func (.func 55) #[] #[.pointer (some ⟨w'.heap.size, 0, none⟩)], .int .i64 0, .int .i64 0, undef, undef, undef, undef, undef, undef, undef, undef, undef, undef], defers := [] }) ?assign ?body ?done ?stop
 case assign =>
  intro lp x W K hK
  gi_wp2
  exact hK
 case body =>
  intro lp pre x W _ hlt
  exact absurd hlt (by omega)
 case done =>
  rintro D ys W hD rfl ⟨hCW, hBW⟩ hK
  obtain ⟨d1, d2, ⟨d3, f3⟩, ⟨d4, f4⟩, ⟨d5, f5⟩⟩ := hCW
  gi_wp2
  have hK' := (((KeepsOthers.setCell W ⟨w.heap.size + 1 + 1, 0, none⟩ (.int .i64 0)).trans (KeepsOthers.setCell _ ⟨w.heap.size + 1 + 1 + 1, 0, none⟩ (.pointer none))).trans (KeepsOthers.setCell _ ⟨w.heap.size + 1 + 1 + 1 + 1, 0, none⟩ (.bool false))).same D _ hK rfl
  refine ⟨by simp, .inl ⟨_, _, rfl, run_takeDeferred hK', ?_⟩⟩
  have hput := grownBy_putObj' (((W.setCell ⟨w.heap.size + 1 + 1, 0, none⟩ (.int .i64 0)).setCell ⟨w.heap.size + 1 + 1 + 1, 0, none⟩ (.pointer none)).setCell ⟨w.heap.size + 1 + 1 + 1 + 1, 0, none⟩ (.bool false)) D (.deferred none)
  have g3 := cell_kept (none_of d3 d4 d5).1 hput (fun r e => by cases e; exact ⟨_, hK', rfl⟩)
  have g4 := cell_kept (none_of d3 d4 d5).2.1 hput (fun r e => by cases e; exact ⟨_, hK', rfl⟩)
  have g5 := cell_kept (none_of d3 d4 d5).2.2 hput (fun r e => by cases e; exact ⟨_, hK', rfl⟩)
  refine ⟨.tuple #[.int .i64 0, .pointer none, .bool false], ?_, rfl, (((hBW.setCell (p := ⟨w.heap.size + 1 + 1, 0, none⟩) (by show w.heap.size ≤ w.heap.size + 1 + 1; omega) _).setCell (p := ⟨w.heap.size + 1 + 1 + 1, 0, none⟩) (by show w.heap.size ≤ w.heap.size + 1 + 1 + 1; omega) _).setCell (p := ⟨w.heap.size + 1 + 1 + 1 + 1, 0, none⟩) (by show w.heap.size ≤ w.heap.size + 1 + 1 + 1 + 1; omega) _).trans (belowK_b (w := w) (Nat.le_refl _) _ D _ _ (by simp at hD; omega) hK' rfl rfl)⟩
  simp [results, Tryz.f12, go_sem, g3, g4, g5]
 case stop =>
  rintro D c pre W _ _ h _
  exact h.elim
theorem best_nilstore {i : Int} (w : World) : Calls Tryz.prog 12 #[.pointer none, .int .i64 i] w (BestE w none) := callsIn_wide.1 (best_nil Fence.wide rfl)
end Go.St.Nl
