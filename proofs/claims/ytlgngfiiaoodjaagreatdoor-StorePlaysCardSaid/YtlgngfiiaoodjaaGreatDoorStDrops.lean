/- The document's store, walked: Offer where it is full. -/
import Derived.Test.YtlgngfiiaoodjaaGreatDoorStOffs
set_option linter.unusedVariables false
set_option linter.unusedSimpArgs false
/- The document's store, walked: Offer where it is full. -/
namespace Go.St
open Go Go.Proofs Go.RowKit Go.Maps Go.Shelf Go.Ev
set_option maxRecDepth 100000 in
set_option maxHeartbeats 4000000 in
theorem roffer_drop0 {w : World} {rb : Nat} {d room i s : Int} {r : List (Int × Int)} {v : Value} (h : RAt w rb d room r v) (hd : 1 ≤ d) (hi0 : 0 ≤ i) (hs0 : 0 ≤ s) (hm : i % d = 0) (hn : has i r = false) (hlt : (r.length : Int) = room) (hf : r.length ≤ 4095) {p0 : Int × Int} (h0 : r[0]? = some p0) (hp0 : p0.1 ≠ 0) {r2 : List (Int × Int)} (hr2l : r2.length + 1 = r.length) (hr2g : flat (r.take 0) ++ flat (r.drop 1) = flat r2) :
  Calls Tryz.prog 19 #[.pointer (some ⟨rb, 0, none⟩), .int .i64 i, .int .i64 s] w (ROfferE w rb d room (true, ins i s r2)) := by
 have HG := Lib.hid hr2g
 clear hr2g
 have hv := rvalid_ok rb d w h.c0 hd
 have c0 := h.c0
 have c1 := h.c1
 have c2 := h.c2
 have hd0 : ¬ d = 0 := by omega
 have hi1 : ¬ i < 0 := by omega
 have hs1 : ¬ s < 0 := by omega
 obtain ⟨ps, pc, hsl⟩ := h.slice
 obtain ⟨pp, qq, rfl⟩ : ∃ p c, v = .slice p r.length c := ⟨ps, pc, hsl⟩
 cases hsl
 go_enter Tryz.func19, Tryz.ntmps19
 go_wp2_with (go_at_call 38; refine hv.mono ?_; rintro e w' ⟨rfl, rfl⟩)
 go_loop [8] (fun x => ∃ j : Nat, j ≤ r.length ∧ x = .int .i64 j) (fun x => r.length - (RowKit.intOf x).toNat)
 case atStart => exact ⟨0, by omega, rfl⟩
 case round =>
  obtain ⟨j, hj, rfl⟩ := hrel
  by_cases hjl : j < r.length
  ·have hp : r[j]? = some r[j] := by simp [hjl]
   generalize r[j] = p at hp
   obtain ⟨g, cap, e, k0, k1⟩ := h.item hp
   have e0 := Value.slice.inj e
   obtain ⟨rfl, _, rfl⟩ := e0
   have hne : ¬ p.1 = i := fun e => by
    rw [has_places.2 ⟨j, p, hp, e⟩] at hn; cases hn
   have b0 : (0 : Int) ≤ (j : Int) := by omega
   have b1 : (j : Int) < (r.length : Int) := by omega
   clear hp h hn e
   go_wp2
   go_round
   case rel => exact ⟨j + 1, by omega, int_congr (by omega)⟩
   case measure => simp [RowKit.intOf]; omega
  ·have hje : j = r.length := by omega
   subst hje
   have hfull : (r.length : Int) = room := hlt
   obtain ⟨g, cap, e, k00, k01⟩ := h.item h0
   obtain ⟨rfl, e9, rfl⟩ := Value.slice.inj e
   clear e e9
   have k00' : w.cell? ⟨g, 0, none⟩ = some (.int .i64 p0.1) := k00
   have hl1 := (List.getElem?_eq_some_iff.1 h0).1
   have bl : (0 : Int) < (r.length : Int) := by omega
   have bne : ¬ (0 : Int) = (r.length : Int) := by omega
   have HN := Lib.hid hn
   clear hn
   go_wp2
   go_quiet (fail)
   go_wp2
   have hR : RAt (w.drewN nq) rb d room r (.slice (some ⟨g, 0, none⟩) r.length pc) := h.far (drewN_grown w nq none) (by simp) (by simp)
   have hB : Below w.heap.size w (w.drewN nq) := ⟨rfl, rfl, rfl, Nat.le_refl _, fun _ _ => rfl⟩
   obtain ⟨W, hW⟩ : ∃ W, w.drewN nq = W := ⟨_, rfl⟩
   rw [hW] at hR hB ⊢
   clear hW h c0 c1 c2 hv
   have rt := reads_take hR (k := 0) (by omega)
   have rd := reads_drop hR (k := 1) (by omega)
   have hcap : r.length ≤ pc := by
    rcases hR.row.2 with ⟨e, hn0⟩ | ⟨g', cap', cur', e, _, _, hnc, _⟩
    ·omega
    ·obtain ⟨_, _, rfl⟩ := Value.slice.inj e
     exact hnc
   have q0 : (0 : Int) ≤ (pc : Int) := by omega
   have q1 : (1 : Int) ≤ (r.length : Int) := by omega
   have hr2f : 0 + (r.length - 1) = r2.length ∧ flat (r.take 0) ++ flat (r.drop 1) = flat r2 := ⟨by omega, HG.out⟩
   have HR2 := Lib.hid hr2f
   obtain ⟨Y1, hY1⟩ : ∃ Y, sliced (some ⟨g, 0, none⟩) 0 0 pc 2 = Y := ⟨_, rfl⟩
   obtain ⟨Y2, hY2⟩ : ∃ Y, sliced (some ⟨g, 0, none⟩) 1 r.length pc 2 = Y := ⟨_, rfl⟩
   have rt' := rt
   have rd' := rd
   rw [show sliced (some ⟨g, 0, none⟩) 0 (0 : Nat) pc 2 = Y1 from hY1] at rt'
   rw [show sliced (some ⟨g, 0, none⟩) (1 : Nat) r.length pc 2 = Y2 from hY2] at rd'
   have HT := Lib.hid rt'
   have HD := Lib.hid rd'
   clear rt' rd'
   have HY1 := Lib.hid hY1
   have HY2 := Lib.hid hY2
   clear hY1 hY2
   have HL := Lib.hid hlt
   have hroom2 : r2.length ≤ 4094 := by omega
   clear rt rd hr2f hfull hlt k00 k01 k00' bne HN h0
   refine wp_region_R (R := fun j => fun W' => j < 19 → (fun W' : World => W'.cell? ⟨rb, 2, none⟩ = some (.slice (some ⟨g, 0, none⟩) r.length pc)) W') (by kernel_rfl) ?_
   change wpAnyR Tryz.prog .any _ _ _ 20 (Array.replicate 20 false) _ _
   have hS0 : (fun W' : World => W'.cell? ⟨rb, 2, none⟩ = some (.slice (some ⟨g, 0, none⟩) r.length pc)) W.drew := hR.c2
   refine wpAnyR_take (fun W' : World => W'.cell? ⟨rb, 2, none⟩ = some (.slice (some ⟨g, 0, none⟩) r.length pc)) (i := 0) (v := .pointer (some ⟨rb, 0, none⟩)) (fun j => decide (19 ≤ j)) rfl (by kernel_rfl) (by kernel_rfl) (by kernel_rfl) (by kernel_rfl) rfl (by kernel_rfl) (fun _ _ _ h => h) (fun j w hb hR => hR (blk_lt hb (by omega))) (fun w hS _ => hS) (.inl ⟨by rfl, fun w hS => ?d0⟩) hS0 ?_
   case d0 => go_simp
   try simp only [Act.put, List.getElem_toArray, List.getElem_cons_zero, List.getElem_cons_succ, List.setIfInBounds_toArray, List.set_cons_zero, List.set_cons_succ]
   refine wpAnyR_take (fun W' : World => W'.cell? ⟨rb, 2, none⟩ = some (.slice (some ⟨g, 0, none⟩) r.length pc)) (i := 2) (v := .pointer (some ⟨rb, 0, none⟩)) (fun j => decide (19 ≤ j)) rfl (by kernel_rfl) (by kernel_rfl) (by kernel_rfl) (by kernel_rfl) rfl (by kernel_rfl) (fun _ _ _ h => h) (fun j w hb hR => hR (blk_lt hb (by omega))) (fun w hS _ => hS) (.inl ⟨by rfl, fun w hS => ?d2⟩) hS0 ?_
   case d2 => go_simp
   try simp only [Act.put, List.getElem_toArray, List.getElem_cons_zero, List.getElem_cons_succ, List.setIfInBounds_toArray, List.set_cons_zero, List.set_cons_succ]
   refine wpAnyR_take (fun W' : World => W'.cell? ⟨rb, 2, none⟩ = some (.slice (some ⟨g, 0, none⟩) r.length pc)) (i := 3) (v := .pointer (some ⟨rb, 0, none⟩)) (fun j => decide (19 ≤ j)) rfl (by kernel_rfl) (by kernel_rfl) (by kernel_rfl) (by kernel_rfl) rfl (by kernel_rfl) (fun _ _ _ h => h) (fun j w hb hR => hR (blk_lt hb (by omega))) (fun w hS _ => hS) (.inl ⟨by rfl, fun w hS => ?d3⟩) hS0 ?_
   case d3 => go_simp
   try simp only [Act.put, List.getElem_toArray, List.getElem_cons_zero, List.getElem_cons_succ, List.setIfInBounds_toArray, List.set_cons_zero, List.set_cons_succ]
   refine wpAnyR_take (fun W' : World => W'.cell? ⟨rb, 2, none⟩ = some (.slice (some ⟨g, 0, none⟩) r.length pc)) (i := 4) (v := .pointer (some ⟨rb, 2, none⟩)) (fun j => decide (19 ≤ j)) rfl (by kernel_rfl) (by kernel_rfl) (by kernel_rfl) (by kernel_rfl) rfl (by kernel_rfl) (fun _ _ _ h => h) (fun j w hb hR => hR (blk_lt hb (by omega))) (fun w hS _ => hS) (.inl ⟨by rfl, fun w hS => ?d4⟩) hS0 ?_
   case d4 => go_simp
   try simp only [Act.put, List.getElem_toArray, List.getElem_cons_zero, List.getElem_cons_succ, List.setIfInBounds_toArray, List.set_cons_zero, List.set_cons_succ]
   refine wpAnyR_take (fun W' : World => W'.cell? ⟨rb, 2, none⟩ = some (.slice (some ⟨g, 0, none⟩) r.length pc)) (i := 5) (v := .slice (some ⟨g, 0, none⟩) r.length pc) (fun j => decide (19 ≤ j)) rfl (by kernel_rfl) (by kernel_rfl) (by kernel_rfl) (by kernel_rfl) rfl (by kernel_rfl) (fun _ _ _ h => h) (fun j w hb hR => hR (blk_lt hb (by omega))) (fun w hS _ => hS) (.inl ⟨by rfl, fun w hS => ?d5⟩) hS0 ?_
   case d5 => go_simp
   try simp only [Act.put, List.getElem_toArray, List.getElem_cons_zero, List.getElem_cons_succ, List.setIfInBounds_toArray, List.set_cons_zero, List.set_cons_succ]
   refine wpAnyR_take (fun W' : World => W'.cell? ⟨rb, 2, none⟩ = some (.slice (some ⟨g, 0, none⟩) r.length pc)) (i := 6) (v := .int .i64 0) (fun j => decide (19 ≤ j)) rfl (by kernel_rfl) (by kernel_rfl) (by kernel_rfl) (by kernel_rfl) rfl (by kernel_rfl) (fun _ _ _ h => h) (fun j w hb hR => hR (blk_lt hb (by omega))) (fun w hS _ => hS) (.inl ⟨by rfl, fun w hS => ?d6⟩) hS0 ?_
   case d6 => go_simp
   try simp only [Act.put, List.getElem_toArray, List.getElem_cons_zero, List.getElem_cons_succ, List.setIfInBounds_toArray, List.set_cons_zero, List.set_cons_succ]
   refine wpAnyR_take (fun W' : World => W'.cell? ⟨rb, 2, none⟩ = some (.slice (some ⟨g, 0, none⟩) r.length pc)) (i := 7) (v := Y1) (fun j => decide (19 ≤ j)) rfl (by kernel_rfl) (by kernel_rfl) (by kernel_rfl) (by kernel_rfl) rfl (by kernel_rfl) (fun _ _ _ h => h) (fun j w hb hR => hR (blk_lt hb (by omega))) (fun w hS _ => hS) (.inl ⟨by rfl, fun w hS => ?d7⟩) hS0 ?_
   case d7 =>
    rw [← HY1.out]
    go_simp
   try simp only [Act.put, List.getElem_toArray, List.getElem_cons_zero, List.getElem_cons_succ, List.setIfInBounds_toArray, List.set_cons_zero, List.set_cons_succ]
   refine wpAnyR_take (fun W' : World => W'.cell? ⟨rb, 2, none⟩ = some (.slice (some ⟨g, 0, none⟩) r.length pc)) (i := 9) (v := .pointer (some ⟨rb, 0, none⟩)) (fun j => decide (19 ≤ j)) rfl (by kernel_rfl) (by kernel_rfl) (by kernel_rfl) (by kernel_rfl) rfl (by kernel_rfl) (fun _ _ _ h => h) (fun j w hb hR => hR (blk_lt hb (by omega))) (fun w hS _ => hS) (.inl ⟨by rfl, fun w hS => ?d9⟩) hS0 ?_
   case d9 => go_simp
   try simp only [Act.put, List.getElem_toArray, List.getElem_cons_zero, List.getElem_cons_succ, List.setIfInBounds_toArray, List.set_cons_zero, List.set_cons_succ]
   refine wpAnyR_take (fun W' : World => W'.cell? ⟨rb, 2, none⟩ = some (.slice (some ⟨g, 0, none⟩) r.length pc)) (i := 10) (v := .pointer (some ⟨rb, 0, none⟩)) (fun j => decide (19 ≤ j)) rfl (by kernel_rfl) (by kernel_rfl) (by kernel_rfl) (by kernel_rfl) rfl (by kernel_rfl) (fun _ _ _ h => h) (fun j w hb hR => hR (blk_lt hb (by omega))) (fun w hS _ => hS) (.inl ⟨by rfl, fun w hS => ?d10⟩) hS0 ?_
   case d10 => go_simp
   try simp only [Act.put, List.getElem_toArray, List.getElem_cons_zero, List.getElem_cons_succ, List.setIfInBounds_toArray, List.set_cons_zero, List.set_cons_succ]
   refine wpAnyR_take (fun W' : World => W'.cell? ⟨rb, 2, none⟩ = some (.slice (some ⟨g, 0, none⟩) r.length pc)) (i := 11) (v := .pointer (some ⟨rb, 2, none⟩)) (fun j => decide (19 ≤ j)) rfl (by kernel_rfl) (by kernel_rfl) (by kernel_rfl) (by kernel_rfl) rfl (by kernel_rfl) (fun _ _ _ h => h) (fun j w hb hR => hR (blk_lt hb (by omega))) (fun w hS _ => hS) (.inl ⟨by rfl, fun w hS => ?d11⟩) hS0 ?_
   case d11 => go_simp
   try simp only [Act.put, List.getElem_toArray, List.getElem_cons_zero, List.getElem_cons_succ, List.setIfInBounds_toArray, List.set_cons_zero, List.set_cons_succ]
   refine wpAnyR_take (fun W' : World => W'.cell? ⟨rb, 2, none⟩ = some (.slice (some ⟨g, 0, none⟩) r.length pc)) (i := 12) (v := .slice (some ⟨g, 0, none⟩) r.length pc) (fun j => decide (19 ≤ j)) rfl (by kernel_rfl) (by kernel_rfl) (by kernel_rfl) (by kernel_rfl) rfl (by kernel_rfl) (fun _ _ _ h => h) (fun j w hb hR => hR (blk_lt hb (by omega))) (fun w hS _ => hS) (.inl ⟨by rfl, fun w hS => ?d12⟩) hS0 ?_
   case d12 => go_simp
   try simp only [Act.put, List.getElem_toArray, List.getElem_cons_zero, List.getElem_cons_succ, List.setIfInBounds_toArray, List.set_cons_zero, List.set_cons_succ]
   refine wpAnyR_take (fun W' : World => W'.cell? ⟨rb, 2, none⟩ = some (.slice (some ⟨g, 0, none⟩) r.length pc)) (i := 13) (v := .int .i64 0) (fun j => decide (19 ≤ j)) rfl (by kernel_rfl) (by kernel_rfl) (by kernel_rfl) (by kernel_rfl) rfl (by kernel_rfl) (fun _ _ _ h => h) (fun j w hb hR => hR (blk_lt hb (by omega))) (fun w hS _ => hS) (.inl ⟨by rfl, fun w hS => ?d13⟩) hS0 ?_
   case d13 => go_simp
   try simp only [Act.put, List.getElem_toArray, List.getElem_cons_zero, List.getElem_cons_succ, List.setIfInBounds_toArray, List.set_cons_zero, List.set_cons_succ]
   refine wpAnyR_take (fun W' : World => W'.cell? ⟨rb, 2, none⟩ = some (.slice (some ⟨g, 0, none⟩) r.length pc)) (i := 14) (v := .int .i64 (1)) (fun j => decide (19 ≤ j)) rfl (by kernel_rfl) (by kernel_rfl) (by kernel_rfl) (by kernel_rfl) rfl (by kernel_rfl) (fun _ _ _ h => h) (fun j w hb hR => hR (blk_lt hb (by omega))) (fun w hS _ => hS) (.inl ⟨by rfl, fun w hS => ?d14⟩) hS0 ?_
   case d14 =>
    go_simp
    rfl
   try simp only [Act.put, List.getElem_toArray, List.getElem_cons_zero, List.getElem_cons_succ, List.setIfInBounds_toArray, List.set_cons_zero, List.set_cons_succ]
   refine wpAnyR_take (fun W' : World => W'.cell? ⟨rb, 2, none⟩ = some (.slice (some ⟨g, 0, none⟩) r.length pc)) (i := 15) (v := Y2) (fun j => decide (19 ≤ j)) rfl (by kernel_rfl) (by kernel_rfl) (by kernel_rfl) (by kernel_rfl) rfl (by kernel_rfl) (fun _ _ _ h => h) (fun j w hb hR => hR (blk_lt hb (by omega))) (fun w hS _ => hS) (.inl ⟨by rfl, fun w hS => ?d15⟩) hS0 ?_
   case d15 =>
    rw [← HY2.out]
    go_simp
   try simp only [Act.put, List.getElem_toArray, List.getElem_cons_zero, List.getElem_cons_succ, List.setIfInBounds_toArray, List.set_cons_zero, List.set_cons_succ]
   have hrl : rb < W.heap.size := (Array.getElem?_eq_some_iff.1 hR.blk).1
   have hcS : ∀ w', Below W.heap.size W w' → w'.cell? ⟨rb, 2, none⟩ = some (.slice (some ⟨g, 0, none⟩) r.length pc) := fun w' hb => (hb.cell (p := ⟨rb, 2, none⟩) hrl).trans hR.c2
   have hE1 : Below W.heap.size W (W.drew.alloc (.cells #[] 98)) := (Below.refl _ W).drew.alloc (Nat.le_refl _) _
   refine wpAnyR_ready (rs := [1]) (by kernel_rfl) (by simp) ?_
   refine AllR.value rfl (by rfl) (v := .slice (some ⟨W.heap.size, 0, none⟩) 0 0) (w' := W.drew.alloc (.cells #[] 98)) ?d1 (fun _ => hcS _ hE1) ?e1 AllR.nil
   case d1 => go_simp
   case e1 =>
    try simp only [Act.put, List.getElem_toArray, List.getElem_cons_zero, List.getElem_cons_succ, List.setIfInBounds_toArray, List.set_cons_zero, List.set_cons_succ]
    refine wpAnyR_ready (rs := [8]) (by kernel_rfl) (by simp) ?_
    refine AllR.appendS rfl (by rfl) rfl (b0 := W.heap.size) (n := 0) (m := 0) (xs := []) (news := flat (r.take 0)) (v := .slice (some ⟨W.heap.size, 0, none⟩) 0 0) (y := Y1) (by rfl) (World.ownsRow_lit W.drew #[] 0 (Nat.le_refl _) (Nat.zero_le _) rfl) (by rfl) (HT.out.below hE1) (flat_cell _) (by omega) hE1.size (fun va w1 own1 g1 _ => ?_) AllR.nil
    rw [Nat.zero_add, List.nil_append] at own1
    have hB1 : Below W.heap.size W w1 := hE1.grown g1 hE1.size (fun j e => by simp [Value.ownBlock] at e; omega)
    obtain ⟨pa, qa, rfl⟩ : ∃ p c, va = .slice p 0 c := by
     rcases own1.2 with ⟨e, hn0⟩ | ⟨g', cap', cur', e, _⟩
     ·exact ⟨none, 0, by rw [e, hn0]⟩
     ·exact ⟨_, _, e⟩
    refine ⟨fun _ => hcS _ hB1, ?_⟩
    try simp only [Act.put, List.getElem_toArray, List.getElem_cons_zero, List.getElem_cons_succ, List.setIfInBounds_toArray, List.set_cons_zero, List.set_cons_succ]
    refine wpAnyR_ready (rs := [16]) (by kernel_rfl) (by simp) ?_
    refine AllR.appendS rfl (by rfl) rfl (b0 := W.heap.size) (n := 0) (m := r.length - 1) (xs := flat (r.take 0)) (news := flat (r.drop 1)) (v := .slice pa 0 qa) (y := Y2) (by rfl) own1 (by rfl) (HD.out.below hB1) (flat_cell _) (by omega) hB1.size (fun vb w2 own2 g2 _ => ?_) AllR.nil
    have hB2 : Below W.heap.size W w2 := hB1.grown g2 hB1.size (fun j e => row_lo own1 e)
    rw [HR2.out.1, HR2.out.2] at own2
    obtain ⟨pd, qd, rfl⟩ : ∃ p c, vb = .slice p r2.length c := by
     rcases own2.2 with ⟨e, hn0⟩ | ⟨g', cap', cur', e, _⟩
     ·exact ⟨none, 0, by rw [e, hn0]⟩
     ·exact ⟨_, _, e⟩
    have hput := hR.put hB2 own2 (by omega)
    have c3 := hcS _ hB2
    have f3 : w2.frozen? ⟨rb, 2, none⟩ = false := (hB2.frozen (p := ⟨rb, 2, none⟩) hrl).trans hR.f2
    refine ⟨fun _ => c3, ?_⟩
    try simp only [Act.put, List.getElem_toArray, List.getElem_cons_zero, List.getElem_cons_succ, List.setIfInBounds_toArray, List.set_cons_zero, List.set_cons_succ]
    refine wpAnyR_ready (rs := [17]) (by kernel_rfl) (by simp) ?_
    refine AllR.value rfl (by rfl) (v := .pointer (some ⟨rb, 0, none⟩)) (w' := w2) ?d17 (fun _ => c3) ?e17 AllR.nil
    case d17 =>
     clear hput
     go_simp
    case e17 =>
     try simp only [Act.put, List.getElem_toArray, List.getElem_cons_zero, List.getElem_cons_succ, List.setIfInBounds_toArray, List.set_cons_zero, List.set_cons_succ]
     refine wpAnyR_ready (rs := [18]) (by kernel_rfl) (by simp) ?_
     refine AllR.value rfl (by rfl) (v := .pointer (some ⟨rb, 2, none⟩)) (w' := w2) ?d18 (fun _ => c3) ?e18 AllR.nil
     case d18 =>
      clear hput
      go_simp
     case e18 =>
      try simp only [Act.put, List.getElem_toArray, List.getElem_cons_zero, List.getElem_cons_succ, List.setIfInBounds_toArray, List.set_cons_zero, List.set_cons_succ]
      refine wpAnyR_ready (rs := [19]) (by kernel_rfl) (by simp) ?_
      refine AllR.skip rfl (by rfl) (w' := w2.setCell ⟨rb, 2, none⟩ (.slice pd r2.length qd)) ?d19 (fun h => absurd h (by omega)) ?e19 AllR.nil
      case d19 =>
       clear hput
       go_simp
      case e19 =>
       refine wpAnyR_done (by kernel_rfl) ?_
       try simp only [Act.put, List.getElem_toArray, List.getElem_cons_zero, List.getElem_cons_succ, List.setIfInBounds_toArray, List.set_cons_zero, List.set_cons_succ]
       obtain ⟨hR3, hg3⟩ := hput
       obtain ⟨W3, hW3⟩ : ∃ W3, w2.setCell ⟨rb, 2, none⟩ (.slice pd r2.length qd) = W3 := ⟨_, rfl⟩
       rw [hW3] at hR3 hg3 ⊢
       clear hW3 hcS hE1 own1 g1 own2 g2 c3 f3 HT HD hB1 hB2 hS0
       go_wp2
       have c2W := hR3.c2
       go_loop [10] (fun x => ∃ k : Nat, k ≤ r2.length ∧ x = .int .i64 k ∧ ∀ (j : Nat) (q : Int × Int), j < k → r2[j]? = some q → q.1 < i) (fun x => r2.length - (RowKit.intOf x).toNat)
       case atStart => exact ⟨0, by omega, rfl, fun j q hj => by omega⟩
       case round =>
        obtain ⟨k, hk, rfl, hpre⟩ := hrel
        have HPre := Lib.hid hpre
        clear hpre
        by_cases hgo : ∃ q, r2[k]? = some q ∧ q.1 < i
        ·obtain ⟨q, hq, hqi⟩ := hgo
         have hkl := (List.getElem?_eq_some_iff.1 hq).1
         obtain ⟨g, cap, e, k0, k1⟩ := hR3.item hq
         obtain ⟨rfl, e9, rfl⟩ := Value.slice.inj e; clear e9
         have b0 : (0 : Int) ≤ (k : Int) := by omega
         have b1 : (k : Int) < (r2.length : Int) := by omega
         have HQ := Lib.hid hq
         clear hq e
         go_wp2
         go_round
         case rel =>
          refine ⟨k + 1, by omega, int_congr (by omega), fun j q' hj hq' => ?_⟩
          by_cases hjk : j = k
          ·subst hjk
           have := HQ.out
           rw [hq'] at this
           cases this
           exact hqi
          ·exact HPre.out j q' (by omega) hq'
         case measure => simp [RowKit.intOf]; omega
        ·have hins := ins_places (x := s) (fun j p hj hp => HPre.out j p hj hp) (fun p hp hlt => hgo ⟨p, hp, hlt⟩) hk
         have HI := Lib.hid hins
         have rt := reads_take hR3 hk
         have rd := reads_drop hR3 hk
         have hcap : r2.length ≤ qd := by
          rcases hR3.row.2 with ⟨e, hn0⟩ | ⟨g, cap, cur, e, _, _, hnc, _⟩
          ·omega
          ·obtain ⟨_, _, rfl⟩ := Value.slice.inj e
           exact hnc
         have b0 : (0 : Int) ≤ (k : Int) := by omega
         have b1 : (k : Int) ≤ (r2.length : Int) := by omega
         have b2 : (k : Int) ≤ (qd : Int) := by omega
         have HT := Lib.hid rt
         have HD := Lib.hid rd
         clear hins rt rd
         by_cases hkl : k < r2.length
         ·have hq : r2[k]? = some r2[k] := by simp [hkl]
          have hge : ¬ r2[k].1 < i := fun hlt => hgo ⟨_, hq, hlt⟩
          obtain ⟨g9, cap9, e, k0, k1⟩ := hR3.item hq
          obtain ⟨rfl, e9, rfl⟩ := Value.slice.inj e
          generalize r2[k] = q at hq hge k0 k1
          have b3 : (k : Int) < (r2.length : Int) := by omega
          have hgo' := Lib.hid hgo
          clear hgo hq e e9
          go_wp2
          refine wp_region_R (R := fun j => fun W' => j < 23 → (fun W' : World => W'.cell? ⟨rb, 2, none⟩ = some (.slice (some ⟨g9, 0, none⟩) r2.length qd)) W') (by kernel_rfl) ?_
          change wpAnyR Tryz.prog .any _ _ _ 24 (Array.replicate 24 false) _ _
          have hS0 : (fun W' : World => W'.cell? ⟨rb, 2, none⟩ = some (.slice (some ⟨g9, 0, none⟩) r2.length qd)) W3.drew := hR3.c2
          refine wpAnyR_take (fun W' : World => W'.cell? ⟨rb, 2, none⟩ = some (.slice (some ⟨g9, 0, none⟩) r2.length qd)) (i := 0) (v := .pointer (some ⟨rb, 0, none⟩)) (fun j => decide (23 ≤ j)) rfl (by kernel_rfl) (by kernel_rfl) (by kernel_rfl) (by kernel_rfl) rfl (by kernel_rfl) (fun _ _ _ h => h) (fun j w hb hR => hR (blk_lt hb (by omega))) (fun w hS _ => hS) (.inl ⟨by rfl, fun w hS => ?x0⟩) hS0 ?_
          case x0 => go_simp
          try simp only [Act.put, List.getElem_toArray, List.getElem_cons_zero, List.getElem_cons_succ, List.setIfInBounds_toArray, List.set_cons_zero, List.set_cons_succ]
          refine wpAnyR_take (fun W' : World => W'.cell? ⟨rb, 2, none⟩ = some (.slice (some ⟨g9, 0, none⟩) r2.length qd)) (i := 2) (v := .pointer (some ⟨rb, 0, none⟩)) (fun j => decide (23 ≤ j)) rfl (by kernel_rfl) (by kernel_rfl) (by kernel_rfl) (by kernel_rfl) rfl (by kernel_rfl) (fun _ _ _ h => h) (fun j w hb hR => hR (blk_lt hb (by omega))) (fun w hS _ => hS) (.inl ⟨by rfl, fun w hS => ?x2⟩) hS0 ?_
          case x2 => go_simp
          try simp only [Act.put, List.getElem_toArray, List.getElem_cons_zero, List.getElem_cons_succ, List.setIfInBounds_toArray, List.set_cons_zero, List.set_cons_succ]
          refine wpAnyR_take (fun W' : World => W'.cell? ⟨rb, 2, none⟩ = some (.slice (some ⟨g9, 0, none⟩) r2.length qd)) (i := 3) (v := .pointer (some ⟨rb, 0, none⟩)) (fun j => decide (23 ≤ j)) rfl (by kernel_rfl) (by kernel_rfl) (by kernel_rfl) (by kernel_rfl) rfl (by kernel_rfl) (fun _ _ _ h => h) (fun j w hb hR => hR (blk_lt hb (by omega))) (fun w hS _ => hS) (.inl ⟨by rfl, fun w hS => ?x3⟩) hS0 ?_
          case x3 => go_simp
          try simp only [Act.put, List.getElem_toArray, List.getElem_cons_zero, List.getElem_cons_succ, List.setIfInBounds_toArray, List.set_cons_zero, List.set_cons_succ]
          refine wpAnyR_take (fun W' : World => W'.cell? ⟨rb, 2, none⟩ = some (.slice (some ⟨g9, 0, none⟩) r2.length qd)) (i := 4) (v := .pointer (some ⟨rb, 2, none⟩)) (fun j => decide (23 ≤ j)) rfl (by kernel_rfl) (by kernel_rfl) (by kernel_rfl) (by kernel_rfl) rfl (by kernel_rfl) (fun _ _ _ h => h) (fun j w hb hR => hR (blk_lt hb (by omega))) (fun w hS _ => hS) (.inl ⟨by rfl, fun w hS => ?x4⟩) hS0 ?_
          case x4 => go_simp
          try simp only [Act.put, List.getElem_toArray, List.getElem_cons_zero, List.getElem_cons_succ, List.setIfInBounds_toArray, List.set_cons_zero, List.set_cons_succ]
          refine wpAnyR_take (fun W' : World => W'.cell? ⟨rb, 2, none⟩ = some (.slice (some ⟨g9, 0, none⟩) r2.length qd)) (i := 5) (v := .slice (some ⟨g9, 0, none⟩) r2.length qd) (fun j => decide (23 ≤ j)) rfl (by kernel_rfl) (by kernel_rfl) (by kernel_rfl) (by kernel_rfl) rfl (by kernel_rfl) (fun _ _ _ h => h) (fun j w hb hR => hR (blk_lt hb (by omega))) (fun w hS _ => hS) (.inl ⟨by rfl, fun w hS => ?x5⟩) hS0 ?_
          case x5 => go_simp
          try simp only [Act.put, List.getElem_toArray, List.getElem_cons_zero, List.getElem_cons_succ, List.setIfInBounds_toArray, List.set_cons_zero, List.set_cons_succ]
          refine wpAnyR_take (fun W' : World => W'.cell? ⟨rb, 2, none⟩ = some (.slice (some ⟨g9, 0, none⟩) r2.length qd)) (i := 6) (v := .int .i64 (k : Int)) (fun j => decide (23 ≤ j)) rfl (by kernel_rfl) (by kernel_rfl) (by kernel_rfl) (by kernel_rfl) rfl (by kernel_rfl) (fun _ _ _ h => h) (fun j w hb hR => hR (blk_lt hb (by omega))) (fun w hS _ => hS) (.inl ⟨by rfl, fun w hS => ?x6⟩) hS0 ?_
          case x6 => go_simp
          try simp only [Act.put, List.getElem_toArray, List.getElem_cons_zero, List.getElem_cons_succ, List.setIfInBounds_toArray, List.set_cons_zero, List.set_cons_succ]
          refine wpAnyR_take (fun W' : World => W'.cell? ⟨rb, 2, none⟩ = some (.slice (some ⟨g9, 0, none⟩) r2.length qd)) (i := 7) (v := sliced (some ⟨g9, 0, none⟩) 0 k qd 2) (fun j => decide (23 ≤ j)) rfl (by kernel_rfl) (by kernel_rfl) (by kernel_rfl) (by kernel_rfl) rfl (by kernel_rfl) (fun _ _ _ h => h) (fun j w hb hR => hR (blk_lt hb (by omega))) (fun w hS _ => hS) (.inl ⟨by rfl, fun w hS => ?x7⟩) hS0 ?_
          case x7 => go_simp
          try simp only [Act.put, List.getElem_toArray, List.getElem_cons_zero, List.getElem_cons_succ, List.setIfInBounds_toArray, List.set_cons_zero, List.set_cons_succ]
          refine wpAnyR_take (fun W' : World => W'.cell? ⟨rb, 2, none⟩ = some (.slice (some ⟨g9, 0, none⟩) r2.length qd)) (i := 9) (v := .int .i64 i) (fun j => decide (23 ≤ j)) rfl (by kernel_rfl) (by kernel_rfl) (by kernel_rfl) (by kernel_rfl) rfl (by kernel_rfl) (fun _ _ _ h => h) (fun j w hb hR => hR (blk_lt hb (by omega))) (fun w hS _ => hS) (.inl ⟨by rfl, fun w hS => ?x9⟩) hS0 ?_
          case x9 => go_simp
          try simp only [Act.put, List.getElem_toArray, List.getElem_cons_zero, List.getElem_cons_succ, List.setIfInBounds_toArray, List.set_cons_zero, List.set_cons_succ]
          refine wpAnyR_take (fun W' : World => W'.cell? ⟨rb, 2, none⟩ = some (.slice (some ⟨g9, 0, none⟩) r2.length qd)) (i := 10) (v := .int .i64 s) (fun j => decide (23 ≤ j)) rfl (by kernel_rfl) (by kernel_rfl) (by kernel_rfl) (by kernel_rfl) rfl (by kernel_rfl) (fun _ _ _ h => h) (fun j w hb hR => hR (blk_lt hb (by omega))) (fun w hS _ => hS) (.inl ⟨by rfl, fun w hS => ?x10⟩) hS0 ?_
          case x10 => go_simp
          try simp only [Act.put, List.getElem_toArray, List.getElem_cons_zero, List.getElem_cons_succ, List.setIfInBounds_toArray, List.set_cons_zero, List.set_cons_succ]
          refine wpAnyR_take (fun W' : World => W'.cell? ⟨rb, 2, none⟩ = some (.slice (some ⟨g9, 0, none⟩) r2.length qd)) (i := 11) (v := .agg #[.int .i64 i, .int .i64 s]) (fun j => decide (23 ≤ j)) rfl (by kernel_rfl) (by kernel_rfl) (by kernel_rfl) (by kernel_rfl) rfl (by kernel_rfl) (fun _ _ _ h => h) (fun j w hb hR => hR (blk_lt hb (by omega))) (fun w hS _ => hS) (.inl ⟨by rfl, fun w hS => ?x11⟩) hS0 ?_
          case x11 => go_simp
          try simp only [Act.put, List.getElem_toArray, List.getElem_cons_zero, List.getElem_cons_succ, List.setIfInBounds_toArray, List.set_cons_zero, List.set_cons_succ]
          refine wpAnyR_take (fun W' : World => W'.cell? ⟨rb, 2, none⟩ = some (.slice (some ⟨g9, 0, none⟩) r2.length qd)) (i := 14) (v := .pointer (some ⟨rb, 0, none⟩)) (fun j => decide (23 ≤ j)) rfl (by kernel_rfl) (by kernel_rfl) (by kernel_rfl) (by kernel_rfl) rfl (by kernel_rfl) (fun _ _ _ h => h) (fun j w hb hR => hR (blk_lt hb (by omega))) (fun w hS _ => hS) (.inl ⟨by rfl, fun w hS => ?x14⟩) hS0 ?_
          case x14 => go_simp
          try simp only [Act.put, List.getElem_toArray, List.getElem_cons_zero, List.getElem_cons_succ, List.setIfInBounds_toArray, List.set_cons_zero, List.set_cons_succ]
          refine wpAnyR_take (fun W' : World => W'.cell? ⟨rb, 2, none⟩ = some (.slice (some ⟨g9, 0, none⟩) r2.length qd)) (i := 15) (v := .pointer (some ⟨rb, 0, none⟩)) (fun j => decide (23 ≤ j)) rfl (by kernel_rfl) (by kernel_rfl) (by kernel_rfl) (by kernel_rfl) rfl (by kernel_rfl) (fun _ _ _ h => h) (fun j w hb hR => hR (blk_lt hb (by omega))) (fun w hS _ => hS) (.inl ⟨by rfl, fun w hS => ?x15⟩) hS0 ?_
          case x15 => go_simp
          try simp only [Act.put, List.getElem_toArray, List.getElem_cons_zero, List.getElem_cons_succ, List.setIfInBounds_toArray, List.set_cons_zero, List.set_cons_succ]
          refine wpAnyR_take (fun W' : World => W'.cell? ⟨rb, 2, none⟩ = some (.slice (some ⟨g9, 0, none⟩) r2.length qd)) (i := 16) (v := .pointer (some ⟨rb, 2, none⟩)) (fun j => decide (23 ≤ j)) rfl (by kernel_rfl) (by kernel_rfl) (by kernel_rfl) (by kernel_rfl) rfl (by kernel_rfl) (fun _ _ _ h => h) (fun j w hb hR => hR (blk_lt hb (by omega))) (fun w hS _ => hS) (.inl ⟨by rfl, fun w hS => ?x16⟩) hS0 ?_
          case x16 => go_simp
          try simp only [Act.put, List.getElem_toArray, List.getElem_cons_zero, List.getElem_cons_succ, List.setIfInBounds_toArray, List.set_cons_zero, List.set_cons_succ]
          refine wpAnyR_take (fun W' : World => W'.cell? ⟨rb, 2, none⟩ = some (.slice (some ⟨g9, 0, none⟩) r2.length qd)) (i := 17) (v := .slice (some ⟨g9, 0, none⟩) r2.length qd) (fun j => decide (23 ≤ j)) rfl (by kernel_rfl) (by kernel_rfl) (by kernel_rfl) (by kernel_rfl) rfl (by kernel_rfl) (fun _ _ _ h => h) (fun j w hb hR => hR (blk_lt hb (by omega))) (fun w hS _ => hS) (.inl ⟨by rfl, fun w hS => ?x17⟩) hS0 ?_
          case x17 => go_simp
          try simp only [Act.put, List.getElem_toArray, List.getElem_cons_zero, List.getElem_cons_succ, List.setIfInBounds_toArray, List.set_cons_zero, List.set_cons_succ]
          refine wpAnyR_take (fun W' : World => W'.cell? ⟨rb, 2, none⟩ = some (.slice (some ⟨g9, 0, none⟩) r2.length qd)) (i := 18) (v := .int .i64 (k : Int)) (fun j => decide (23 ≤ j)) rfl (by kernel_rfl) (by kernel_rfl) (by kernel_rfl) (by kernel_rfl) rfl (by kernel_rfl) (fun _ _ _ h => h) (fun j w hb hR => hR (blk_lt hb (by omega))) (fun w hS _ => hS) (.inl ⟨by rfl, fun w hS => ?x18⟩) hS0 ?_
          case x18 => go_simp
          try simp only [Act.put, List.getElem_toArray, List.getElem_cons_zero, List.getElem_cons_succ, List.setIfInBounds_toArray, List.set_cons_zero, List.set_cons_succ]
          refine wpAnyR_take (fun W' : World => W'.cell? ⟨rb, 2, none⟩ = some (.slice (some ⟨g9, 0, none⟩) r2.length qd)) (i := 19) (v := sliced (some ⟨g9, 0, none⟩) k r2.length qd 2) (fun j => decide (23 ≤ j)) rfl (by kernel_rfl) (by kernel_rfl) (by kernel_rfl) (by kernel_rfl) rfl (by kernel_rfl) (fun _ _ _ h => h) (fun j w hb hR => hR (blk_lt hb (by omega))) (fun w hS _ => hS) (.inl ⟨by rfl, fun w hS => ?x19⟩) hS0 ?_
          case x19 => go_simp
          try simp only [Act.put, List.getElem_toArray, List.getElem_cons_zero, List.getElem_cons_succ, List.setIfInBounds_toArray, List.set_cons_zero, List.set_cons_succ]
          have hrl : rb < W3.heap.size := (Array.getElem?_eq_some_iff.1 hR3.blk).1
          have hcS : ∀ w', Below W3.heap.size W3 w' → w'.cell? ⟨rb, 2, none⟩ = some (.slice (some ⟨g9, 0, none⟩) r2.length qd) := fun w' hb => (hb.cell (p := ⟨rb, 2, none⟩) hrl).trans hR3.c2
          refine wpAnyR_ready (rs := [1, 12]) (by kernel_rfl) (by simp) ?_
          have hE1 : Below W3.heap.size W3 (W3.drew.alloc (.cells #[] 98)) := (Below.refl _ W3).drew.alloc (Nat.le_refl _) _
          have hT1 : Below W3.heap.size W3 (W3.drew.alloc (.cells #[.int .i64 i, .int .i64 s] 98)) := (Below.refl _ W3).drew.alloc (Nat.le_refl _) _
          refine AllR.value rfl (by rfl) (v := .slice (some ⟨W3.heap.size, 0, none⟩) 0 0) (w' := W3.drew.alloc (.cells #[] 98)) ?x1 (fun _ => hcS _ hE1) ?n1 (AllR.value rfl (by rfl) (v := .slice (some ⟨W3.heap.size, 0, none⟩) 1 1) (w' := W3.drew.alloc (.cells #[.int .i64 i, .int .i64 s] 98)) ?x12 (fun _ => hcS _ hT1) ?n12 AllR.nil)
          case x1 => go_simp
          case x12 => go_simp
          case n1 =>
           try simp only [Act.put, List.getElem_toArray, List.getElem_cons_zero, List.getElem_cons_succ, List.setIfInBounds_toArray, List.set_cons_zero, List.set_cons_succ]
           refine wpAnyR_ready (rs := [8, 12]) (by kernel_rfl) (by simp) ?_
           refine AllR.appendS rfl (by rfl) rfl (b0 := W3.heap.size) (n := 0) (m := k) (xs := []) (news := flat (r2.take k)) (v := .slice (some ⟨W3.heap.size, 0, none⟩) 0 0) (y := sliced (some ⟨g9, 0, none⟩) 0 k qd 2) (by rfl) (World.ownsRow_lit W3.drew #[] 0 (Nat.le_refl _) (Nat.zero_le _) rfl) (by rfl) (HT.out.below hE1) (flat_cell _) (by omega) hE1.size (fun va w1 own1 g1 _ => ?_) ?m12
           rw [Nat.zero_add, List.nil_append] at own1
           have hB1 : Below W3.heap.size W3 w1 := hE1.grown g1 hE1.size (fun j e => by simp [Value.ownBlock] at e; omega)
           obtain ⟨pa, qa, rfl⟩ : ∃ p c, va = .slice p k c := by
            rcases own1.2 with ⟨e, hn0⟩ | ⟨g', cap', cur', e, _⟩
            ·exact ⟨none, 0, by rw [e, hn0]⟩
            ·exact ⟨_, _, e⟩
           refine ⟨fun _ => hcS _ hB1, ?_⟩
           try simp only [Act.put, List.getElem_toArray, List.getElem_cons_zero, List.getElem_cons_succ, List.setIfInBounds_toArray, List.set_cons_zero, List.set_cons_succ]
           refine wpAnyR_ready (rs := [12]) (by kernel_rfl) (by simp) ?_
           have hB1t : Below W3.heap.size W3 (w1.alloc (.cells #[.int .i64 i, .int .i64 s] 98)) := hB1.alloc hB1.size _
           refine AllR.value rfl (by rfl) (v := .slice (some ⟨w1.heap.size, 0, none⟩) 1 1) (w' := w1.alloc (.cells #[.int .i64 i, .int .i64 s] 98)) ?y12 (fun _ => hcS _ hB1t) ?z12 AllR.nil
           case y12 => go_simp
           case z12 =>
            try simp only [Act.put, List.getElem_toArray, List.getElem_cons_zero, List.getElem_cons_succ, List.setIfInBounds_toArray, List.set_cons_zero, List.set_cons_succ]
            refine wpAnyR_ready (rs := [13]) (by kernel_rfl) (by simp) ?_
            refine AllR.appendS rfl (by rfl) rfl (b0 := W3.heap.size) (n := k) (m := 1) (xs := flat (r2.take k)) (news := flat [(i, s)]) (v := .slice pa k qa) (by rfl) ((Far.none w1).row (World.grownBy_alloc _ _ none) own1) (by rfl) (.inr ⟨⟨w1.heap.size, 0, none⟩, 1, rfl, rfl, cells_two w1 _ _ _⟩) (flat_cell _) (by omega) hB1t.size (fun vb w2 own2 g2 _ => ?_) AllR.nil
            have hB2 : Below W3.heap.size W3 w2 := hB1t.grown g2 hB1t.size (fun j e => row_lo own1 e)
            obtain ⟨pb, qb, rfl⟩ : ∃ p c, vb = .slice p (k + 1) c := by
             rcases own2.2 with ⟨e, hn0⟩ | ⟨g', cap', cur', e, _⟩
             ·omega
             ·exact ⟨_, _, e⟩
            refine ⟨fun _ => hcS _ hB2, ?_⟩
            try simp only [Act.put, List.getElem_toArray, List.getElem_cons_zero, List.getElem_cons_succ, List.setIfInBounds_toArray, List.set_cons_zero, List.set_cons_succ]
            refine wpAnyR_ready (rs := [20]) (by kernel_rfl) (by simp) ?_
            refine AllR.appendS rfl (by rfl) rfl (b0 := W3.heap.size) (n := k + 1) (m := r2.length - k) (xs := flat (r2.take k) ++ flat [(i, s)]) (news := flat (r2.drop k)) (v := .slice pb (k + 1) qb) (y := sliced (some ⟨g9, 0, none⟩) k r2.length qd 2) (by rfl) own2 (by rfl) (HD.out.below hB2) (flat_cell _) (by omega) hB2.size (fun vc w3 own3 g3 _ => ?_) AllR.nil
            have hB3 : Below W3.heap.size W3 w3 := hB2.grown g3 hB2.size (fun j e => row_lo own2 e)
            have hlen3 : k + 1 + (r2.length - k) = (ins i s r2).length := by rw [length_ins]; omega
            have hfl3 : flat (r2.take k) ++ flat [(i, s)] ++ flat (r2.drop k) = flat (ins i s r2) := by rw [HI.out, flat_append, List.append_assoc]; rfl
            rw [hlen3, hfl3] at own3
            obtain ⟨pc3, qc3, rfl⟩ : ∃ p c, vc = .slice p (ins i s r2).length c := by
             rcases own3.2 with ⟨e, hn0⟩ | ⟨g', cap', cur', e, _⟩
             ·exact ⟨none, 0, by rw [e, hn0]⟩
             ·exact ⟨_, _, e⟩
            have hput := hR3.put hB3 own3 (by rw [length_ins]; omega)
            have c3 := hcS _ hB3
            have f3 : w3.frozen? ⟨rb, 2, none⟩ = false := (hB3.frozen (p := ⟨rb, 2, none⟩) hrl).trans hR3.f2
            refine ⟨fun _ => c3, ?_⟩
            try simp only [Act.put, List.getElem_toArray, List.getElem_cons_zero, List.getElem_cons_succ, List.setIfInBounds_toArray, List.set_cons_zero, List.set_cons_succ]
            refine wpAnyR_ready (rs := [21]) (by kernel_rfl) (by simp) ?_
            refine AllR.value rfl (by rfl) (v := .pointer (some ⟨rb, 0, none⟩)) (w' := w3) ?x21 (fun _ => c3) ?q21 AllR.nil
            case x21 =>
             clear hput
             go_simp
            case q21 =>
             try simp only [Act.put, List.getElem_toArray, List.getElem_cons_zero, List.getElem_cons_succ, List.setIfInBounds_toArray, List.set_cons_zero, List.set_cons_succ]
             refine wpAnyR_ready (rs := [22]) (by kernel_rfl) (by simp) ?_
             refine AllR.value rfl (by rfl) (v := .pointer (some ⟨rb, 2, none⟩)) (w' := w3) ?x22 (fun _ => c3) ?q22 AllR.nil
             case x22 =>
              clear hput
              go_simp
             case q22 =>
              try simp only [Act.put, List.getElem_toArray, List.getElem_cons_zero, List.getElem_cons_succ, List.setIfInBounds_toArray, List.set_cons_zero, List.set_cons_succ]
              refine wpAnyR_ready (rs := [23]) (by kernel_rfl) (by simp) ?_
              refine AllR.skip rfl (by rfl) (w' := w3.setCell ⟨rb, 2, none⟩ (.slice pc3 (ins i s r2).length qc3)) ?x23 (fun h => absurd h (by omega)) ?q23 AllR.nil
              case x23 =>
               clear hput
               go_simp
              case q23 =>
               refine wpAnyR_done (by kernel_rfl) ?_
               try simp only [Act.put, List.getElem_toArray, List.getElem_cons_zero, List.getElem_cons_succ, List.setIfInBounds_toArray, List.set_cons_zero, List.set_cons_succ]
               have HP := Lib.hid hput
               clear hput
               go_wp2
               all_goals go_ret2
               all_goals exact ⟨rfl, _, HP.out.1, ((below_grown hB (some rb)).trans hg3).trans HP.out.2⟩
           case m12 =>
            have hET : Below W3.heap.size W3 ((W3.drew.alloc (.cells #[] 98)).alloc (.cells #[.int .i64 i, .int .i64 s] 98)) := hE1.alloc hE1.size _
            refine AllR.value rfl (by rfl) (v := .slice (some ⟨W3.heap.size + 1, 0, none⟩) 1 1) (w' := (W3.drew.alloc (.cells #[] 98)).alloc (.cells #[.int .i64 i, .int .i64 s] 98)) ?y12 (fun _ => hcS _ hET) ?z12 AllR.nil
            case y12 => go_simp
            case z12 =>
             try simp only [Act.put, List.getElem_toArray, List.getElem_cons_zero, List.getElem_cons_succ, List.setIfInBounds_toArray, List.set_cons_zero, List.set_cons_succ]
             refine wpAnyR_ready (rs := [8]) (by kernel_rfl) (by simp) ?_
             have hct := cells_two (W3.drew.alloc (.cells #[] 98)) (.int .i64 i) (.int .i64 s) 98
             rw [show ((W3.drew.alloc (.cells #[] 98))).heap.size = W3.heap.size + 1 by simp] at hct
             refine AllR.appendS rfl (by rfl) rfl (b0 := W3.heap.size) (n := 0) (m := k) (xs := []) (news := flat (r2.take k)) (v := .slice (some ⟨W3.heap.size, 0, none⟩) 0 0) (y := sliced (some ⟨g9, 0, none⟩) 0 k qd 2) (by rfl) ((Far.none _).row (World.grownBy_alloc (W3.drew.alloc (.cells #[] 98)) (.cells #[.int .i64 i, .int .i64 s] 98) none) (World.ownsRow_lit W3.drew #[] 0 (Nat.le_refl _) (Nat.zero_le _) rfl)) (by rfl) (HT.out.below hET) (flat_cell _) (by omega) hET.size (fun va w1 own1 g1 _ => ?_) AllR.nil
             rw [Nat.zero_add, List.nil_append] at own1
             have hB1 : Below W3.heap.size W3 w1 := hET.grown g1 hET.size (fun j e => by simp [Value.ownBlock] at e; omega)
             obtain ⟨pa, qa, rfl⟩ : ∃ p c, va = .slice p k c := by
              rcases own1.2 with ⟨e, hn0⟩ | ⟨g', cap', cur', e, _⟩
              ·exact ⟨none, 0, by rw [e, hn0]⟩
              ·exact ⟨_, _, e⟩
             refine ⟨fun _ => hcS _ hB1, ?_⟩
             try simp only [Act.put, List.getElem_toArray, List.getElem_cons_zero, List.getElem_cons_succ, List.setIfInBounds_toArray, List.set_cons_zero, List.set_cons_succ]
             refine wpAnyR_ready (rs := [13]) (by kernel_rfl) (by simp) ?_
             refine AllR.appendS rfl (by rfl) rfl (b0 := W3.heap.size) (n := k) (m := 1) (xs := flat (r2.take k)) (news := flat [(i, s)]) (v := .slice pa k qa) (by rfl) own1 (by rfl) (.inr ⟨⟨W3.heap.size + 1, 0, none⟩, 1, rfl, rfl, fun j u hj => g1.cell (hct j u hj) (by rw [Value.ownBlock]; intro e; have := Option.some.inj e; revert this; cases j <;> simp [Addr.add])⟩) (flat_cell _) (by omega) hB1.size (fun vb w2 own2 g2 _ => ?_) AllR.nil
             have hB2 : Below W3.heap.size W3 w2 := hB1.grown g2 hB1.size (fun j e => row_lo own1 e)
             obtain ⟨pb, qb, rfl⟩ : ∃ p c, vb = .slice p (k + 1) c := by
              rcases own2.2 with ⟨e, hn0⟩ | ⟨g', cap', cur', e, _⟩
              ·omega
              ·exact ⟨_, _, e⟩
             refine ⟨fun _ => hcS _ hB2, ?_⟩
             try simp only [Act.put, List.getElem_toArray, List.getElem_cons_zero, List.getElem_cons_succ, List.setIfInBounds_toArray, List.set_cons_zero, List.set_cons_succ]
             refine wpAnyR_ready (rs := [20]) (by kernel_rfl) (by simp) ?_
             refine AllR.appendS rfl (by rfl) rfl (b0 := W3.heap.size) (n := k + 1) (m := r2.length - k) (xs := flat (r2.take k) ++ flat [(i, s)]) (news := flat (r2.drop k)) (v := .slice pb (k + 1) qb) (y := sliced (some ⟨g9, 0, none⟩) k r2.length qd 2) (by rfl) own2 (by rfl) (HD.out.below hB2) (flat_cell _) (by omega) hB2.size (fun vc w3 own3 g3 _ => ?_) AllR.nil
             have hB3 : Below W3.heap.size W3 w3 := hB2.grown g3 hB2.size (fun j e => row_lo own2 e)
             have hlen3 : k + 1 + (r2.length - k) = (ins i s r2).length := by rw [length_ins]; omega
             have hfl3 : flat (r2.take k) ++ flat [(i, s)] ++ flat (r2.drop k) = flat (ins i s r2) := by rw [HI.out, flat_append, List.append_assoc]; rfl
             rw [hlen3, hfl3] at own3
             obtain ⟨pc3, qc3, rfl⟩ : ∃ p c, vc = .slice p (ins i s r2).length c := by
              rcases own3.2 with ⟨e, hn0⟩ | ⟨g', cap', cur', e, _⟩
              ·exact ⟨none, 0, by rw [e, hn0]⟩
              ·exact ⟨_, _, e⟩
             have hput := hR3.put hB3 own3 (by rw [length_ins]; omega)
             have c3 := hcS _ hB3
             have f3 : w3.frozen? ⟨rb, 2, none⟩ = false := (hB3.frozen (p := ⟨rb, 2, none⟩) hrl).trans hR3.f2
             refine ⟨fun _ => c3, ?_⟩
             try simp only [Act.put, List.getElem_toArray, List.getElem_cons_zero, List.getElem_cons_succ, List.setIfInBounds_toArray, List.set_cons_zero, List.set_cons_succ]
             refine wpAnyR_ready (rs := [21]) (by kernel_rfl) (by simp) ?_
             refine AllR.value rfl (by rfl) (v := .pointer (some ⟨rb, 0, none⟩)) (w' := w3) ?x21 (fun _ => c3) ?q21 AllR.nil
             case x21 =>
              clear hput
              go_simp
             case q21 =>
              try simp only [Act.put, List.getElem_toArray, List.getElem_cons_zero, List.getElem_cons_succ, List.setIfInBounds_toArray, List.set_cons_zero, List.set_cons_succ]
              refine wpAnyR_ready (rs := [22]) (by kernel_rfl) (by simp) ?_
              refine AllR.value rfl (by rfl) (v := .pointer (some ⟨rb, 2, none⟩)) (w' := w3) ?x22 (fun _ => c3) ?q22 AllR.nil
              case x22 =>
               clear hput
               go_simp
              case q22 =>
               try simp only [Act.put, List.getElem_toArray, List.getElem_cons_zero, List.getElem_cons_succ, List.setIfInBounds_toArray, List.set_cons_zero, List.set_cons_succ]
               refine wpAnyR_ready (rs := [23]) (by kernel_rfl) (by simp) ?_
               refine AllR.skip rfl (by rfl) (w' := w3.setCell ⟨rb, 2, none⟩ (.slice pc3 (ins i s r2).length qc3)) ?x23 (fun h => absurd h (by omega)) ?q23 AllR.nil
               case x23 =>
                clear hput
                go_simp
               case q23 =>
                refine wpAnyR_done (by kernel_rfl) ?_
                try simp only [Act.put, List.getElem_toArray, List.getElem_cons_zero, List.getElem_cons_succ, List.setIfInBounds_toArray, List.set_cons_zero, List.set_cons_succ]
                have HP := Lib.hid hput
                clear hput
                go_wp2
                all_goals go_ret2
                all_goals exact ⟨rfl, _, HP.out.1, ((below_grown hB (some rb)).trans hg3).trans HP.out.2⟩
          case n12 =>
           try simp only [Act.put, List.getElem_toArray, List.getElem_cons_zero, List.getElem_cons_succ, List.setIfInBounds_toArray, List.set_cons_zero, List.set_cons_succ]
           refine wpAnyR_ready (rs := [1]) (by kernel_rfl) (by simp) ?_
           have hTE : Below W3.heap.size W3 ((W3.drew.alloc (.cells #[.int .i64 i, .int .i64 s] 98)).alloc (.cells #[] 98)) := hT1.alloc hT1.size _
           refine AllR.value rfl (by rfl) (v := .slice (some ⟨W3.heap.size + 1, 0, none⟩) 0 0) (w' := (W3.drew.alloc (.cells #[.int .i64 i, .int .i64 s] 98)).alloc (.cells #[] 98)) ?y1 (fun _ => hcS _ hTE) ?z1 AllR.nil
           case y1 => go_simp
           case z1 =>
            try simp only [Act.put, List.getElem_toArray, List.getElem_cons_zero, List.getElem_cons_succ, List.setIfInBounds_toArray, List.set_cons_zero, List.set_cons_succ]
            refine wpAnyR_ready (rs := [8]) (by kernel_rfl) (by simp) ?_
            have hct := cells_two W3.drew (.int .i64 i) (.int .i64 s) 98
            have hct2 : ∀ j u, [Value.int .i64 i, .int .i64 s][j]? = some u → ((W3.drew.alloc (.cells #[.int .i64 i, .int .i64 s] 98)).alloc (.cells #[] 98)).cell? ((⟨W3.heap.size, 0, none⟩ : Addr).add j) = some u := fun j u hj => cell_kept (hct j u hj) (World.grownBy_alloc (W3.drew.alloc (.cells #[.int .i64 i, .int .i64 s] 98)) (.cells #[] 98) none) (fun r e => by cases e)
            refine AllR.appendS rfl (by rfl) rfl (b0 := W3.heap.size) (n := 0) (m := k) (xs := []) (news := flat (r2.take k)) (v := .slice (some ⟨W3.heap.size + 1, 0, none⟩) 0 0) (y := sliced (some ⟨g9, 0, none⟩) 0 k qd 2) (by rfl) (by have := World.ownsRow_lit (W3.drew.alloc (.cells #[.int .i64 i, .int .i64 s] 98)) #[] (base := W3.heap.size) (e := 98) (size := 2) 0 (by simp) (Nat.zero_le _) rfl; simpa using this) (by rfl) (HT.out.below hTE) (flat_cell _) (by omega) hTE.size (fun va w1 own1 g1 _ => ?_) AllR.nil
            rw [Nat.zero_add, List.nil_append] at own1
            have hB1 : Below W3.heap.size W3 w1 := hTE.grown g1 hTE.size (fun j e => by simp [Value.ownBlock] at e; omega)
            obtain ⟨pa, qa, rfl⟩ : ∃ p c, va = .slice p k c := by
             rcases own1.2 with ⟨e, hn0⟩ | ⟨g', cap', cur', e, _⟩
             ·exact ⟨none, 0, by rw [e, hn0]⟩
             ·exact ⟨_, _, e⟩
            refine ⟨fun _ => hcS _ hB1, ?_⟩
            try simp only [Act.put, List.getElem_toArray, List.getElem_cons_zero, List.getElem_cons_succ, List.setIfInBounds_toArray, List.set_cons_zero, List.set_cons_succ]
            refine wpAnyR_ready (rs := [13]) (by kernel_rfl) (by simp) ?_
            refine AllR.appendS rfl (by rfl) rfl (b0 := W3.heap.size) (n := k) (m := 1) (xs := flat (r2.take k)) (news := flat [(i, s)]) (v := .slice pa k qa) (by rfl) own1 (by rfl) (.inr ⟨⟨W3.heap.size, 0, none⟩, 1, rfl, rfl, fun j u hj => g1.cell (hct2 j u hj) (by rw [Value.ownBlock]; intro e; have := Option.some.inj e; revert this; cases j <;> simp [Addr.add])⟩) (flat_cell _) (by omega) hB1.size (fun vb w2 own2 g2 _ => ?_) AllR.nil
            have hB2 : Below W3.heap.size W3 w2 := hB1.grown g2 hB1.size (fun j e => row_lo own1 e)
            obtain ⟨pb, qb, rfl⟩ : ∃ p c, vb = .slice p (k + 1) c := by
             rcases own2.2 with ⟨e, hn0⟩ | ⟨g', cap', cur', e, _⟩
             ·omega
             ·exact ⟨_, _, e⟩
            refine ⟨fun _ => hcS _ hB2, ?_⟩
            try simp only [Act.put, List.getElem_toArray, List.getElem_cons_zero, List.getElem_cons_succ, List.setIfInBounds_toArray, List.set_cons_zero, List.set_cons_succ]
            refine wpAnyR_ready (rs := [20]) (by kernel_rfl) (by simp) ?_
            refine AllR.appendS rfl (by rfl) rfl (b0 := W3.heap.size) (n := k + 1) (m := r2.length - k) (xs := flat (r2.take k) ++ flat [(i, s)]) (news := flat (r2.drop k)) (v := .slice pb (k + 1) qb) (y := sliced (some ⟨g9, 0, none⟩) k r2.length qd 2) (by rfl) own2 (by rfl) (HD.out.below hB2) (flat_cell _) (by omega) hB2.size (fun vc w3 own3 g3 _ => ?_) AllR.nil
            have hB3 : Below W3.heap.size W3 w3 := hB2.grown g3 hB2.size (fun j e => row_lo own2 e)
            have hlen3 : k + 1 + (r2.length - k) = (ins i s r2).length := by rw [length_ins]; omega
            have hfl3 : flat (r2.take k) ++ flat [(i, s)] ++ flat (r2.drop k) = flat (ins i s r2) := by rw [HI.out, flat_append, List.append_assoc]; rfl
            rw [hlen3, hfl3] at own3
            obtain ⟨pc3, qc3, rfl⟩ : ∃ p c, vc = .slice p (ins i s r2).length c := by
             rcases own3.2 with ⟨e, hn0⟩ | ⟨g', cap', cur', e, _⟩
             ·exact ⟨none, 0, by rw [e, hn0]⟩
             ·exact ⟨_, _, e⟩
            have hput := hR3.put hB3 own3 (by rw [length_ins]; omega)
            have c3 := hcS _ hB3
            have f3 : w3.frozen? ⟨rb, 2, none⟩ = false := (hB3.frozen (p := ⟨rb, 2, none⟩) hrl).trans hR3.f2
            refine ⟨fun _ => c3, ?_⟩
            try simp only [Act.put, List.getElem_toArray, List.getElem_cons_zero, List.getElem_cons_succ, List.setIfInBounds_toArray, List.set_cons_zero, List.set_cons_succ]
            refine wpAnyR_ready (rs := [21]) (by kernel_rfl) (by simp) ?_
            refine AllR.value rfl (by rfl) (v := .pointer (some ⟨rb, 0, none⟩)) (w' := w3) ?x21 (fun _ => c3) ?q21 AllR.nil
            case x21 =>
             clear hput
             go_simp
            case q21 =>
             try simp only [Act.put, List.getElem_toArray, List.getElem_cons_zero, List.getElem_cons_succ, List.setIfInBounds_toArray, List.set_cons_zero, List.set_cons_succ]
             refine wpAnyR_ready (rs := [22]) (by kernel_rfl) (by simp) ?_
             refine AllR.value rfl (by rfl) (v := .pointer (some ⟨rb, 2, none⟩)) (w' := w3) ?x22 (fun _ => c3) ?q22 AllR.nil
             case x22 =>
              clear hput
              go_simp
             case q22 =>
              try simp only [Act.put, List.getElem_toArray, List.getElem_cons_zero, List.getElem_cons_succ, List.setIfInBounds_toArray, List.set_cons_zero, List.set_cons_succ]
              refine wpAnyR_ready (rs := [23]) (by kernel_rfl) (by simp) ?_
              refine AllR.skip rfl (by rfl) (w' := w3.setCell ⟨rb, 2, none⟩ (.slice pc3 (ins i s r2).length qc3)) ?x23 (fun h => absurd h (by omega)) ?q23 AllR.nil
              case x23 =>
               clear hput
               go_simp
              case q23 =>
               refine wpAnyR_done (by kernel_rfl) ?_
               try simp only [Act.put, List.getElem_toArray, List.getElem_cons_zero, List.getElem_cons_succ, List.setIfInBounds_toArray, List.set_cons_zero, List.set_cons_succ]
               have HP := Lib.hid hput
               clear hput
               go_wp2
               all_goals go_ret2
               all_goals exact ⟨rfl, _, HP.out.1, ((below_grown hB (some rb)).trans hg3).trans HP.out.2⟩
         ·have hnk : ¬ (k : Int) < (r2.length : Int) := by omega
          clear hgo
          go_wp2
          refine wp_region_R (R := fun j => fun W' => j < 23 → (fun W' : World => W'.cell? ⟨rb, 2, none⟩ = some (.slice pd r2.length qd)) W') (by kernel_rfl) ?_
          change wpAnyR Tryz.prog .any _ _ _ 24 (Array.replicate 24 false) _ _
          have hS0 : (fun W' : World => W'.cell? ⟨rb, 2, none⟩ = some (.slice pd r2.length qd)) W3.drew := hR3.c2
          refine wpAnyR_take (fun W' : World => W'.cell? ⟨rb, 2, none⟩ = some (.slice pd r2.length qd)) (i := 0) (v := .pointer (some ⟨rb, 0, none⟩)) (fun j => decide (23 ≤ j)) rfl (by kernel_rfl) (by kernel_rfl) (by kernel_rfl) (by kernel_rfl) rfl (by kernel_rfl) (fun _ _ _ h => h) (fun j w hb hR => hR (blk_lt hb (by omega))) (fun w hS _ => hS) (.inl ⟨by rfl, fun w hS => ?x0⟩) hS0 ?_
          case x0 => go_simp
          try simp only [Act.put, List.getElem_toArray, List.getElem_cons_zero, List.getElem_cons_succ, List.setIfInBounds_toArray, List.set_cons_zero, List.set_cons_succ]
          refine wpAnyR_take (fun W' : World => W'.cell? ⟨rb, 2, none⟩ = some (.slice pd r2.length qd)) (i := 2) (v := .pointer (some ⟨rb, 0, none⟩)) (fun j => decide (23 ≤ j)) rfl (by kernel_rfl) (by kernel_rfl) (by kernel_rfl) (by kernel_rfl) rfl (by kernel_rfl) (fun _ _ _ h => h) (fun j w hb hR => hR (blk_lt hb (by omega))) (fun w hS _ => hS) (.inl ⟨by rfl, fun w hS => ?x2⟩) hS0 ?_
          case x2 => go_simp
          try simp only [Act.put, List.getElem_toArray, List.getElem_cons_zero, List.getElem_cons_succ, List.setIfInBounds_toArray, List.set_cons_zero, List.set_cons_succ]
          refine wpAnyR_take (fun W' : World => W'.cell? ⟨rb, 2, none⟩ = some (.slice pd r2.length qd)) (i := 3) (v := .pointer (some ⟨rb, 0, none⟩)) (fun j => decide (23 ≤ j)) rfl (by kernel_rfl) (by kernel_rfl) (by kernel_rfl) (by kernel_rfl) rfl (by kernel_rfl) (fun _ _ _ h => h) (fun j w hb hR => hR (blk_lt hb (by omega))) (fun w hS _ => hS) (.inl ⟨by rfl, fun w hS => ?x3⟩) hS0 ?_
          case x3 => go_simp
          try simp only [Act.put, List.getElem_toArray, List.getElem_cons_zero, List.getElem_cons_succ, List.setIfInBounds_toArray, List.set_cons_zero, List.set_cons_succ]
          refine wpAnyR_take (fun W' : World => W'.cell? ⟨rb, 2, none⟩ = some (.slice pd r2.length qd)) (i := 4) (v := .pointer (some ⟨rb, 2, none⟩)) (fun j => decide (23 ≤ j)) rfl (by kernel_rfl) (by kernel_rfl) (by kernel_rfl) (by kernel_rfl) rfl (by kernel_rfl) (fun _ _ _ h => h) (fun j w hb hR => hR (blk_lt hb (by omega))) (fun w hS _ => hS) (.inl ⟨by rfl, fun w hS => ?x4⟩) hS0 ?_
          case x4 => go_simp
          try simp only [Act.put, List.getElem_toArray, List.getElem_cons_zero, List.getElem_cons_succ, List.setIfInBounds_toArray, List.set_cons_zero, List.set_cons_succ]
          refine wpAnyR_take (fun W' : World => W'.cell? ⟨rb, 2, none⟩ = some (.slice pd r2.length qd)) (i := 5) (v := .slice pd r2.length qd) (fun j => decide (23 ≤ j)) rfl (by kernel_rfl) (by kernel_rfl) (by kernel_rfl) (by kernel_rfl) rfl (by kernel_rfl) (fun _ _ _ h => h) (fun j w hb hR => hR (blk_lt hb (by omega))) (fun w hS _ => hS) (.inl ⟨by rfl, fun w hS => ?x5⟩) hS0 ?_
          case x5 => go_simp
          try simp only [Act.put, List.getElem_toArray, List.getElem_cons_zero, List.getElem_cons_succ, List.setIfInBounds_toArray, List.set_cons_zero, List.set_cons_succ]
          refine wpAnyR_take (fun W' : World => W'.cell? ⟨rb, 2, none⟩ = some (.slice pd r2.length qd)) (i := 6) (v := .int .i64 (k : Int)) (fun j => decide (23 ≤ j)) rfl (by kernel_rfl) (by kernel_rfl) (by kernel_rfl) (by kernel_rfl) rfl (by kernel_rfl) (fun _ _ _ h => h) (fun j w hb hR => hR (blk_lt hb (by omega))) (fun w hS _ => hS) (.inl ⟨by rfl, fun w hS => ?x6⟩) hS0 ?_
          case x6 => go_simp
          try simp only [Act.put, List.getElem_toArray, List.getElem_cons_zero, List.getElem_cons_succ, List.setIfInBounds_toArray, List.set_cons_zero, List.set_cons_succ]
          refine wpAnyR_take (fun W' : World => W'.cell? ⟨rb, 2, none⟩ = some (.slice pd r2.length qd)) (i := 7) (v := sliced pd 0 k qd 2) (fun j => decide (23 ≤ j)) rfl (by kernel_rfl) (by kernel_rfl) (by kernel_rfl) (by kernel_rfl) rfl (by kernel_rfl) (fun _ _ _ h => h) (fun j w hb hR => hR (blk_lt hb (by omega))) (fun w hS _ => hS) (.inl ⟨by rfl, fun w hS => ?x7⟩) hS0 ?_
          case x7 => go_simp
          try simp only [Act.put, List.getElem_toArray, List.getElem_cons_zero, List.getElem_cons_succ, List.setIfInBounds_toArray, List.set_cons_zero, List.set_cons_succ]
          refine wpAnyR_take (fun W' : World => W'.cell? ⟨rb, 2, none⟩ = some (.slice pd r2.length qd)) (i := 9) (v := .int .i64 i) (fun j => decide (23 ≤ j)) rfl (by kernel_rfl) (by kernel_rfl) (by kernel_rfl) (by kernel_rfl) rfl (by kernel_rfl) (fun _ _ _ h => h) (fun j w hb hR => hR (blk_lt hb (by omega))) (fun w hS _ => hS) (.inl ⟨by rfl, fun w hS => ?x9⟩) hS0 ?_
          case x9 => go_simp
          try simp only [Act.put, List.getElem_toArray, List.getElem_cons_zero, List.getElem_cons_succ, List.setIfInBounds_toArray, List.set_cons_zero, List.set_cons_succ]
          refine wpAnyR_take (fun W' : World => W'.cell? ⟨rb, 2, none⟩ = some (.slice pd r2.length qd)) (i := 10) (v := .int .i64 s) (fun j => decide (23 ≤ j)) rfl (by kernel_rfl) (by kernel_rfl) (by kernel_rfl) (by kernel_rfl) rfl (by kernel_rfl) (fun _ _ _ h => h) (fun j w hb hR => hR (blk_lt hb (by omega))) (fun w hS _ => hS) (.inl ⟨by rfl, fun w hS => ?x10⟩) hS0 ?_
          case x10 => go_simp
          try simp only [Act.put, List.getElem_toArray, List.getElem_cons_zero, List.getElem_cons_succ, List.setIfInBounds_toArray, List.set_cons_zero, List.set_cons_succ]
          refine wpAnyR_take (fun W' : World => W'.cell? ⟨rb, 2, none⟩ = some (.slice pd r2.length qd)) (i := 11) (v := .agg #[.int .i64 i, .int .i64 s]) (fun j => decide (23 ≤ j)) rfl (by kernel_rfl) (by kernel_rfl) (by kernel_rfl) (by kernel_rfl) rfl (by kernel_rfl) (fun _ _ _ h => h) (fun j w hb hR => hR (blk_lt hb (by omega))) (fun w hS _ => hS) (.inl ⟨by rfl, fun w hS => ?x11⟩) hS0 ?_
          case x11 => go_simp
          try simp only [Act.put, List.getElem_toArray, List.getElem_cons_zero, List.getElem_cons_succ, List.setIfInBounds_toArray, List.set_cons_zero, List.set_cons_succ]
          refine wpAnyR_take (fun W' : World => W'.cell? ⟨rb, 2, none⟩ = some (.slice pd r2.length qd)) (i := 14) (v := .pointer (some ⟨rb, 0, none⟩)) (fun j => decide (23 ≤ j)) rfl (by kernel_rfl) (by kernel_rfl) (by kernel_rfl) (by kernel_rfl) rfl (by kernel_rfl) (fun _ _ _ h => h) (fun j w hb hR => hR (blk_lt hb (by omega))) (fun w hS _ => hS) (.inl ⟨by rfl, fun w hS => ?x14⟩) hS0 ?_
          case x14 => go_simp
          try simp only [Act.put, List.getElem_toArray, List.getElem_cons_zero, List.getElem_cons_succ, List.setIfInBounds_toArray, List.set_cons_zero, List.set_cons_succ]
          refine wpAnyR_take (fun W' : World => W'.cell? ⟨rb, 2, none⟩ = some (.slice pd r2.length qd)) (i := 15) (v := .pointer (some ⟨rb, 0, none⟩)) (fun j => decide (23 ≤ j)) rfl (by kernel_rfl) (by kernel_rfl) (by kernel_rfl) (by kernel_rfl) rfl (by kernel_rfl) (fun _ _ _ h => h) (fun j w hb hR => hR (blk_lt hb (by omega))) (fun w hS _ => hS) (.inl ⟨by rfl, fun w hS => ?x15⟩) hS0 ?_
          case x15 => go_simp
          try simp only [Act.put, List.getElem_toArray, List.getElem_cons_zero, List.getElem_cons_succ, List.setIfInBounds_toArray, List.set_cons_zero, List.set_cons_succ]
          refine wpAnyR_take (fun W' : World => W'.cell? ⟨rb, 2, none⟩ = some (.slice pd r2.length qd)) (i := 16) (v := .pointer (some ⟨rb, 2, none⟩)) (fun j => decide (23 ≤ j)) rfl (by kernel_rfl) (by kernel_rfl) (by kernel_rfl) (by kernel_rfl) rfl (by kernel_rfl) (fun _ _ _ h => h) (fun j w hb hR => hR (blk_lt hb (by omega))) (fun w hS _ => hS) (.inl ⟨by rfl, fun w hS => ?x16⟩) hS0 ?_
          case x16 => go_simp
          try simp only [Act.put, List.getElem_toArray, List.getElem_cons_zero, List.getElem_cons_succ, List.setIfInBounds_toArray, List.set_cons_zero, List.set_cons_succ]
          refine wpAnyR_take (fun W' : World => W'.cell? ⟨rb, 2, none⟩ = some (.slice pd r2.length qd)) (i := 17) (v := .slice pd r2.length qd) (fun j => decide (23 ≤ j)) rfl (by kernel_rfl) (by kernel_rfl) (by kernel_rfl) (by kernel_rfl) rfl (by kernel_rfl) (fun _ _ _ h => h) (fun j w hb hR => hR (blk_lt hb (by omega))) (fun w hS _ => hS) (.inl ⟨by rfl, fun w hS => ?x17⟩) hS0 ?_
          case x17 => go_simp
          try simp only [Act.put, List.getElem_toArray, List.getElem_cons_zero, List.getElem_cons_succ, List.setIfInBounds_toArray, List.set_cons_zero, List.set_cons_succ]
          refine wpAnyR_take (fun W' : World => W'.cell? ⟨rb, 2, none⟩ = some (.slice pd r2.length qd)) (i := 18) (v := .int .i64 (k : Int)) (fun j => decide (23 ≤ j)) rfl (by kernel_rfl) (by kernel_rfl) (by kernel_rfl) (by kernel_rfl) rfl (by kernel_rfl) (fun _ _ _ h => h) (fun j w hb hR => hR (blk_lt hb (by omega))) (fun w hS _ => hS) (.inl ⟨by rfl, fun w hS => ?x18⟩) hS0 ?_
          case x18 => go_simp
          try simp only [Act.put, List.getElem_toArray, List.getElem_cons_zero, List.getElem_cons_succ, List.setIfInBounds_toArray, List.set_cons_zero, List.set_cons_succ]
          refine wpAnyR_take (fun W' : World => W'.cell? ⟨rb, 2, none⟩ = some (.slice pd r2.length qd)) (i := 19) (v := sliced pd k r2.length qd 2) (fun j => decide (23 ≤ j)) rfl (by kernel_rfl) (by kernel_rfl) (by kernel_rfl) (by kernel_rfl) rfl (by kernel_rfl) (fun _ _ _ h => h) (fun j w hb hR => hR (blk_lt hb (by omega))) (fun w hS _ => hS) (.inl ⟨by rfl, fun w hS => ?x19⟩) hS0 ?_
          case x19 => go_simp
          try simp only [Act.put, List.getElem_toArray, List.getElem_cons_zero, List.getElem_cons_succ, List.setIfInBounds_toArray, List.set_cons_zero, List.set_cons_succ]
          have hrl : rb < W3.heap.size := (Array.getElem?_eq_some_iff.1 hR3.blk).1
          have hcS : ∀ w', Below W3.heap.size W3 w' → w'.cell? ⟨rb, 2, none⟩ = some (.slice pd r2.length qd) := fun w' hb => (hb.cell (p := ⟨rb, 2, none⟩) hrl).trans hR3.c2
          refine wpAnyR_ready (rs := [1, 12]) (by kernel_rfl) (by simp) ?_
          have hE1 : Below W3.heap.size W3 (W3.drew.alloc (.cells #[] 98)) := (Below.refl _ W3).drew.alloc (Nat.le_refl _) _
          have hT1 : Below W3.heap.size W3 (W3.drew.alloc (.cells #[.int .i64 i, .int .i64 s] 98)) := (Below.refl _ W3).drew.alloc (Nat.le_refl _) _
          refine AllR.value rfl (by rfl) (v := .slice (some ⟨W3.heap.size, 0, none⟩) 0 0) (w' := W3.drew.alloc (.cells #[] 98)) ?x1 (fun _ => hcS _ hE1) ?n1 (AllR.value rfl (by rfl) (v := .slice (some ⟨W3.heap.size, 0, none⟩) 1 1) (w' := W3.drew.alloc (.cells #[.int .i64 i, .int .i64 s] 98)) ?x12 (fun _ => hcS _ hT1) ?n12 AllR.nil)
          case x1 => go_simp
          case x12 => go_simp
          case n1 =>
           try simp only [Act.put, List.getElem_toArray, List.getElem_cons_zero, List.getElem_cons_succ, List.setIfInBounds_toArray, List.set_cons_zero, List.set_cons_succ]
           refine wpAnyR_ready (rs := [8, 12]) (by kernel_rfl) (by simp) ?_
           refine AllR.appendS rfl (by rfl) rfl (b0 := W3.heap.size) (n := 0) (m := k) (xs := []) (news := flat (r2.take k)) (v := .slice (some ⟨W3.heap.size, 0, none⟩) 0 0) (y := sliced pd 0 k qd 2) (by rfl) (World.ownsRow_lit W3.drew #[] 0 (Nat.le_refl _) (Nat.zero_le _) rfl) (by rfl) (HT.out.below hE1) (flat_cell _) (by omega) hE1.size (fun va w1 own1 g1 _ => ?_) ?m12
           rw [Nat.zero_add, List.nil_append] at own1
           have hB1 : Below W3.heap.size W3 w1 := hE1.grown g1 hE1.size (fun j e => by simp [Value.ownBlock] at e; omega)
           obtain ⟨pa, qa, rfl⟩ : ∃ p c, va = .slice p k c := by
            rcases own1.2 with ⟨e, hn0⟩ | ⟨g', cap', cur', e, _⟩
            ·exact ⟨none, 0, by rw [e, hn0]⟩
            ·exact ⟨_, _, e⟩
           refine ⟨fun _ => hcS _ hB1, ?_⟩
           try simp only [Act.put, List.getElem_toArray, List.getElem_cons_zero, List.getElem_cons_succ, List.setIfInBounds_toArray, List.set_cons_zero, List.set_cons_succ]
           refine wpAnyR_ready (rs := [12]) (by kernel_rfl) (by simp) ?_
           have hB1t : Below W3.heap.size W3 (w1.alloc (.cells #[.int .i64 i, .int .i64 s] 98)) := hB1.alloc hB1.size _
           refine AllR.value rfl (by rfl) (v := .slice (some ⟨w1.heap.size, 0, none⟩) 1 1) (w' := w1.alloc (.cells #[.int .i64 i, .int .i64 s] 98)) ?y12 (fun _ => hcS _ hB1t) ?z12 AllR.nil
           case y12 => go_simp
           case z12 =>
            try simp only [Act.put, List.getElem_toArray, List.getElem_cons_zero, List.getElem_cons_succ, List.setIfInBounds_toArray, List.set_cons_zero, List.set_cons_succ]
            refine wpAnyR_ready (rs := [13]) (by kernel_rfl) (by simp) ?_
            refine AllR.appendS rfl (by rfl) rfl (b0 := W3.heap.size) (n := k) (m := 1) (xs := flat (r2.take k)) (news := flat [(i, s)]) (v := .slice pa k qa) (by rfl) ((Far.none w1).row (World.grownBy_alloc _ _ none) own1) (by rfl) (.inr ⟨⟨w1.heap.size, 0, none⟩, 1, rfl, rfl, cells_two w1 _ _ _⟩) (flat_cell _) (by omega) hB1t.size (fun vb w2 own2 g2 _ => ?_) AllR.nil
            have hB2 : Below W3.heap.size W3 w2 := hB1t.grown g2 hB1t.size (fun j e => row_lo own1 e)
            obtain ⟨pb, qb, rfl⟩ : ∃ p c, vb = .slice p (k + 1) c := by
             rcases own2.2 with ⟨e, hn0⟩ | ⟨g', cap', cur', e, _⟩
             ·omega
             ·exact ⟨_, _, e⟩
            refine ⟨fun _ => hcS _ hB2, ?_⟩
            try simp only [Act.put, List.getElem_toArray, List.getElem_cons_zero, List.getElem_cons_succ, List.setIfInBounds_toArray, List.set_cons_zero, List.set_cons_succ]
            refine wpAnyR_ready (rs := [20]) (by kernel_rfl) (by simp) ?_
            refine AllR.appendS rfl (by rfl) rfl (b0 := W3.heap.size) (n := k + 1) (m := r2.length - k) (xs := flat (r2.take k) ++ flat [(i, s)]) (news := flat (r2.drop k)) (v := .slice pb (k + 1) qb) (y := sliced pd k r2.length qd 2) (by rfl) own2 (by rfl) (HD.out.below hB2) (flat_cell _) (by omega) hB2.size (fun vc w3 own3 g3 _ => ?_) AllR.nil
            have hB3 : Below W3.heap.size W3 w3 := hB2.grown g3 hB2.size (fun j e => row_lo own2 e)
            have hlen3 : k + 1 + (r2.length - k) = (ins i s r2).length := by rw [length_ins]; omega
            have hfl3 : flat (r2.take k) ++ flat [(i, s)] ++ flat (r2.drop k) = flat (ins i s r2) := by rw [HI.out, flat_append, List.append_assoc]; rfl
            rw [hlen3, hfl3] at own3
            obtain ⟨pc3, qc3, rfl⟩ : ∃ p c, vc = .slice p (ins i s r2).length c := by
             rcases own3.2 with ⟨e, hn0⟩ | ⟨g', cap', cur', e, _⟩
             ·exact ⟨none, 0, by rw [e, hn0]⟩
             ·exact ⟨_, _, e⟩
            have hput := hR3.put hB3 own3 (by rw [length_ins]; omega)
            have c3 := hcS _ hB3
            have f3 : w3.frozen? ⟨rb, 2, none⟩ = false := (hB3.frozen (p := ⟨rb, 2, none⟩) hrl).trans hR3.f2
            refine ⟨fun _ => c3, ?_⟩
            try simp only [Act.put, List.getElem_toArray, List.getElem_cons_zero, List.getElem_cons_succ, List.setIfInBounds_toArray, List.set_cons_zero, List.set_cons_succ]
            refine wpAnyR_ready (rs := [21]) (by kernel_rfl) (by simp) ?_
            refine AllR.value rfl (by rfl) (v := .pointer (some ⟨rb, 0, none⟩)) (w' := w3) ?x21 (fun _ => c3) ?q21 AllR.nil
            case x21 =>
             clear hput
             go_simp
            case q21 =>
             try simp only [Act.put, List.getElem_toArray, List.getElem_cons_zero, List.getElem_cons_succ, List.setIfInBounds_toArray, List.set_cons_zero, List.set_cons_succ]
             refine wpAnyR_ready (rs := [22]) (by kernel_rfl) (by simp) ?_
             refine AllR.value rfl (by rfl) (v := .pointer (some ⟨rb, 2, none⟩)) (w' := w3) ?x22 (fun _ => c3) ?q22 AllR.nil
             case x22 =>
              clear hput
              go_simp
             case q22 =>
              try simp only [Act.put, List.getElem_toArray, List.getElem_cons_zero, List.getElem_cons_succ, List.setIfInBounds_toArray, List.set_cons_zero, List.set_cons_succ]
              refine wpAnyR_ready (rs := [23]) (by kernel_rfl) (by simp) ?_
              refine AllR.skip rfl (by rfl) (w' := w3.setCell ⟨rb, 2, none⟩ (.slice pc3 (ins i s r2).length qc3)) ?x23 (fun h => absurd h (by omega)) ?q23 AllR.nil
              case x23 =>
               clear hput
               go_simp
              case q23 =>
               refine wpAnyR_done (by kernel_rfl) ?_
               try simp only [Act.put, List.getElem_toArray, List.getElem_cons_zero, List.getElem_cons_succ, List.setIfInBounds_toArray, List.set_cons_zero, List.set_cons_succ]
               have HP := Lib.hid hput
               clear hput
               go_wp2
               all_goals go_ret2
               all_goals exact ⟨rfl, _, HP.out.1, ((below_grown hB (some rb)).trans hg3).trans HP.out.2⟩
           case m12 =>
            have hET : Below W3.heap.size W3 ((W3.drew.alloc (.cells #[] 98)).alloc (.cells #[.int .i64 i, .int .i64 s] 98)) := hE1.alloc hE1.size _
            refine AllR.value rfl (by rfl) (v := .slice (some ⟨W3.heap.size + 1, 0, none⟩) 1 1) (w' := (W3.drew.alloc (.cells #[] 98)).alloc (.cells #[.int .i64 i, .int .i64 s] 98)) ?y12 (fun _ => hcS _ hET) ?z12 AllR.nil
            case y12 => go_simp
            case z12 =>
             try simp only [Act.put, List.getElem_toArray, List.getElem_cons_zero, List.getElem_cons_succ, List.setIfInBounds_toArray, List.set_cons_zero, List.set_cons_succ]
             refine wpAnyR_ready (rs := [8]) (by kernel_rfl) (by simp) ?_
             have hct := cells_two (W3.drew.alloc (.cells #[] 98)) (.int .i64 i) (.int .i64 s) 98
             rw [show ((W3.drew.alloc (.cells #[] 98))).heap.size = W3.heap.size + 1 by simp] at hct
             refine AllR.appendS rfl (by rfl) rfl (b0 := W3.heap.size) (n := 0) (m := k) (xs := []) (news := flat (r2.take k)) (v := .slice (some ⟨W3.heap.size, 0, none⟩) 0 0) (y := sliced pd 0 k qd 2) (by rfl) ((Far.none _).row (World.grownBy_alloc (W3.drew.alloc (.cells #[] 98)) (.cells #[.int .i64 i, .int .i64 s] 98) none) (World.ownsRow_lit W3.drew #[] 0 (Nat.le_refl _) (Nat.zero_le _) rfl)) (by rfl) (HT.out.below hET) (flat_cell _) (by omega) hET.size (fun va w1 own1 g1 _ => ?_) AllR.nil
             rw [Nat.zero_add, List.nil_append] at own1
             have hB1 : Below W3.heap.size W3 w1 := hET.grown g1 hET.size (fun j e => by simp [Value.ownBlock] at e; omega)
             obtain ⟨pa, qa, rfl⟩ : ∃ p c, va = .slice p k c := by
              rcases own1.2 with ⟨e, hn0⟩ | ⟨g', cap', cur', e, _⟩
              ·exact ⟨none, 0, by rw [e, hn0]⟩
              ·exact ⟨_, _, e⟩
             refine ⟨fun _ => hcS _ hB1, ?_⟩
             try simp only [Act.put, List.getElem_toArray, List.getElem_cons_zero, List.getElem_cons_succ, List.setIfInBounds_toArray, List.set_cons_zero, List.set_cons_succ]
             refine wpAnyR_ready (rs := [13]) (by kernel_rfl) (by simp) ?_
             refine AllR.appendS rfl (by rfl) rfl (b0 := W3.heap.size) (n := k) (m := 1) (xs := flat (r2.take k)) (news := flat [(i, s)]) (v := .slice pa k qa) (by rfl) own1 (by rfl) (.inr ⟨⟨W3.heap.size + 1, 0, none⟩, 1, rfl, rfl, fun j u hj => g1.cell (hct j u hj) (by rw [Value.ownBlock]; intro e; have := Option.some.inj e; revert this; cases j <;> simp [Addr.add])⟩) (flat_cell _) (by omega) hB1.size (fun vb w2 own2 g2 _ => ?_) AllR.nil
             have hB2 : Below W3.heap.size W3 w2 := hB1.grown g2 hB1.size (fun j e => row_lo own1 e)
             obtain ⟨pb, qb, rfl⟩ : ∃ p c, vb = .slice p (k + 1) c := by
              rcases own2.2 with ⟨e, hn0⟩ | ⟨g', cap', cur', e, _⟩
              ·omega
              ·exact ⟨_, _, e⟩
             refine ⟨fun _ => hcS _ hB2, ?_⟩
             try simp only [Act.put, List.getElem_toArray, List.getElem_cons_zero, List.getElem_cons_succ, List.setIfInBounds_toArray, List.set_cons_zero, List.set_cons_succ]
             refine wpAnyR_ready (rs := [20]) (by kernel_rfl) (by simp) ?_
             refine AllR.appendS rfl (by rfl) rfl (b0 := W3.heap.size) (n := k + 1) (m := r2.length - k) (xs := flat (r2.take k) ++ flat [(i, s)]) (news := flat (r2.drop k)) (v := .slice pb (k + 1) qb) (y := sliced pd k r2.length qd 2) (by rfl) own2 (by rfl) (HD.out.below hB2) (flat_cell _) (by omega) hB2.size (fun vc w3 own3 g3 _ => ?_) AllR.nil
             have hB3 : Below W3.heap.size W3 w3 := hB2.grown g3 hB2.size (fun j e => row_lo own2 e)
             have hlen3 : k + 1 + (r2.length - k) = (ins i s r2).length := by rw [length_ins]; omega
             have hfl3 : flat (r2.take k) ++ flat [(i, s)] ++ flat (r2.drop k) = flat (ins i s r2) := by rw [HI.out, flat_append, List.append_assoc]; rfl
             rw [hlen3, hfl3] at own3
             obtain ⟨pc3, qc3, rfl⟩ : ∃ p c, vc = .slice p (ins i s r2).length c := by
              rcases own3.2 with ⟨e, hn0⟩ | ⟨g', cap', cur', e, _⟩
              ·exact ⟨none, 0, by rw [e, hn0]⟩
              ·exact ⟨_, _, e⟩
             have hput := hR3.put hB3 own3 (by rw [length_ins]; omega)
             have c3 := hcS _ hB3
             have f3 : w3.frozen? ⟨rb, 2, none⟩ = false := (hB3.frozen (p := ⟨rb, 2, none⟩) hrl).trans hR3.f2
             refine ⟨fun _ => c3, ?_⟩
             try simp only [Act.put, List.getElem_toArray, List.getElem_cons_zero, List.getElem_cons_succ, List.setIfInBounds_toArray, List.set_cons_zero, List.set_cons_succ]
             refine wpAnyR_ready (rs := [21]) (by kernel_rfl) (by simp) ?_
             refine AllR.value rfl (by rfl) (v := .pointer (some ⟨rb, 0, none⟩)) (w' := w3) ?x21 (fun _ => c3) ?q21 AllR.nil
             case x21 =>
              clear hput
              go_simp
             case q21 =>
              try simp only [Act.put, List.getElem_toArray, List.getElem_cons_zero, List.getElem_cons_succ, List.setIfInBounds_toArray, List.set_cons_zero, List.set_cons_succ]
              refine wpAnyR_ready (rs := [22]) (by kernel_rfl) (by simp) ?_
              refine AllR.value rfl (by rfl) (v := .pointer (some ⟨rb, 2, none⟩)) (w' := w3) ?x22 (fun _ => c3) ?q22 AllR.nil
              case x22 =>
               clear hput
               go_simp
              case q22 =>
               try simp only [Act.put, List.getElem_toArray, List.getElem_cons_zero, List.getElem_cons_succ, List.setIfInBounds_toArray, List.set_cons_zero, List.set_cons_succ]
               refine wpAnyR_ready (rs := [23]) (by kernel_rfl) (by simp) ?_
               refine AllR.skip rfl (by rfl) (w' := w3.setCell ⟨rb, 2, none⟩ (.slice pc3 (ins i s r2).length qc3)) ?x23 (fun h => absurd h (by omega)) ?q23 AllR.nil
               case x23 =>
                clear hput
                go_simp
               case q23 =>
                refine wpAnyR_done (by kernel_rfl) ?_
                try simp only [Act.put, List.getElem_toArray, List.getElem_cons_zero, List.getElem_cons_succ, List.setIfInBounds_toArray, List.set_cons_zero, List.set_cons_succ]
                have HP := Lib.hid hput
                clear hput
                go_wp2
                all_goals go_ret2
                all_goals exact ⟨rfl, _, HP.out.1, ((below_grown hB (some rb)).trans hg3).trans HP.out.2⟩
          case n12 =>
           try simp only [Act.put, List.getElem_toArray, List.getElem_cons_zero, List.getElem_cons_succ, List.setIfInBounds_toArray, List.set_cons_zero, List.set_cons_succ]
           refine wpAnyR_ready (rs := [1]) (by kernel_rfl) (by simp) ?_
           have hTE : Below W3.heap.size W3 ((W3.drew.alloc (.cells #[.int .i64 i, .int .i64 s] 98)).alloc (.cells #[] 98)) := hT1.alloc hT1.size _
           refine AllR.value rfl (by rfl) (v := .slice (some ⟨W3.heap.size + 1, 0, none⟩) 0 0) (w' := (W3.drew.alloc (.cells #[.int .i64 i, .int .i64 s] 98)).alloc (.cells #[] 98)) ?y1 (fun _ => hcS _ hTE) ?z1 AllR.nil
           case y1 => go_simp
           case z1 =>
            try simp only [Act.put, List.getElem_toArray, List.getElem_cons_zero, List.getElem_cons_succ, List.setIfInBounds_toArray, List.set_cons_zero, List.set_cons_succ]
            refine wpAnyR_ready (rs := [8]) (by kernel_rfl) (by simp) ?_
            have hct := cells_two W3.drew (.int .i64 i) (.int .i64 s) 98
            have hct2 : ∀ j u, [Value.int .i64 i, .int .i64 s][j]? = some u → ((W3.drew.alloc (.cells #[.int .i64 i, .int .i64 s] 98)).alloc (.cells #[] 98)).cell? ((⟨W3.heap.size, 0, none⟩ : Addr).add j) = some u := fun j u hj => cell_kept (hct j u hj) (World.grownBy_alloc (W3.drew.alloc (.cells #[.int .i64 i, .int .i64 s] 98)) (.cells #[] 98) none) (fun r e => by cases e)
            refine AllR.appendS rfl (by rfl) rfl (b0 := W3.heap.size) (n := 0) (m := k) (xs := []) (news := flat (r2.take k)) (v := .slice (some ⟨W3.heap.size + 1, 0, none⟩) 0 0) (y := sliced pd 0 k qd 2) (by rfl) (by have := World.ownsRow_lit (W3.drew.alloc (.cells #[.int .i64 i, .int .i64 s] 98)) #[] (base := W3.heap.size) (e := 98) (size := 2) 0 (by simp) (Nat.zero_le _) rfl; simpa using this) (by rfl) (HT.out.below hTE) (flat_cell _) (by omega) hTE.size (fun va w1 own1 g1 _ => ?_) AllR.nil
            rw [Nat.zero_add, List.nil_append] at own1
            have hB1 : Below W3.heap.size W3 w1 := hTE.grown g1 hTE.size (fun j e => by simp [Value.ownBlock] at e; omega)
            obtain ⟨pa, qa, rfl⟩ : ∃ p c, va = .slice p k c := by
             rcases own1.2 with ⟨e, hn0⟩ | ⟨g', cap', cur', e, _⟩
             ·exact ⟨none, 0, by rw [e, hn0]⟩
             ·exact ⟨_, _, e⟩
            refine ⟨fun _ => hcS _ hB1, ?_⟩
            try simp only [Act.put, List.getElem_toArray, List.getElem_cons_zero, List.getElem_cons_succ, List.setIfInBounds_toArray, List.set_cons_zero, List.set_cons_succ]
            refine wpAnyR_ready (rs := [13]) (by kernel_rfl) (by simp) ?_
            refine AllR.appendS rfl (by rfl) rfl (b0 := W3.heap.size) (n := k) (m := 1) (xs := flat (r2.take k)) (news := flat [(i, s)]) (v := .slice pa k qa) (by rfl) own1 (by rfl) (.inr ⟨⟨W3.heap.size, 0, none⟩, 1, rfl, rfl, fun j u hj => g1.cell (hct2 j u hj) (by rw [Value.ownBlock]; intro e; have := Option.some.inj e; revert this; cases j <;> simp [Addr.add])⟩) (flat_cell _) (by omega) hB1.size (fun vb w2 own2 g2 _ => ?_) AllR.nil
            have hB2 : Below W3.heap.size W3 w2 := hB1.grown g2 hB1.size (fun j e => row_lo own1 e)
            obtain ⟨pb, qb, rfl⟩ : ∃ p c, vb = .slice p (k + 1) c := by
             rcases own2.2 with ⟨e, hn0⟩ | ⟨g', cap', cur', e, _⟩
             ·omega
             ·exact ⟨_, _, e⟩
            refine ⟨fun _ => hcS _ hB2, ?_⟩
            try simp only [Act.put, List.getElem_toArray, List.getElem_cons_zero, List.getElem_cons_succ, List.setIfInBounds_toArray, List.set_cons_zero, List.set_cons_succ]
            refine wpAnyR_ready (rs := [20]) (by kernel_rfl) (by simp) ?_
            refine AllR.appendS rfl (by rfl) rfl (b0 := W3.heap.size) (n := k + 1) (m := r2.length - k) (xs := flat (r2.take k) ++ flat [(i, s)]) (news := flat (r2.drop k)) (v := .slice pb (k + 1) qb) (y := sliced pd k r2.length qd 2) (by rfl) own2 (by rfl) (HD.out.below hB2) (flat_cell _) (by omega) hB2.size (fun vc w3 own3 g3 _ => ?_) AllR.nil
            have hB3 : Below W3.heap.size W3 w3 := hB2.grown g3 hB2.size (fun j e => row_lo own2 e)
            have hlen3 : k + 1 + (r2.length - k) = (ins i s r2).length := by rw [length_ins]; omega
            have hfl3 : flat (r2.take k) ++ flat [(i, s)] ++ flat (r2.drop k) = flat (ins i s r2) := by rw [HI.out, flat_append, List.append_assoc]; rfl
            rw [hlen3, hfl3] at own3
            obtain ⟨pc3, qc3, rfl⟩ : ∃ p c, vc = .slice p (ins i s r2).length c := by
             rcases own3.2 with ⟨e, hn0⟩ | ⟨g', cap', cur', e, _⟩
             ·exact ⟨none, 0, by rw [e, hn0]⟩
             ·exact ⟨_, _, e⟩
            have hput := hR3.put hB3 own3 (by rw [length_ins]; omega)
            have c3 := hcS _ hB3
            have f3 : w3.frozen? ⟨rb, 2, none⟩ = false := (hB3.frozen (p := ⟨rb, 2, none⟩) hrl).trans hR3.f2
            refine ⟨fun _ => c3, ?_⟩
            try simp only [Act.put, List.getElem_toArray, List.getElem_cons_zero, List.getElem_cons_succ, List.setIfInBounds_toArray, List.set_cons_zero, List.set_cons_succ]
            refine wpAnyR_ready (rs := [21]) (by kernel_rfl) (by simp) ?_
            refine AllR.value rfl (by rfl) (v := .pointer (some ⟨rb, 0, none⟩)) (w' := w3) ?x21 (fun _ => c3) ?q21 AllR.nil
            case x21 =>
             clear hput
             go_simp
            case q21 =>
             try simp only [Act.put, List.getElem_toArray, List.getElem_cons_zero, List.getElem_cons_succ, List.setIfInBounds_toArray, List.set_cons_zero, List.set_cons_succ]
             refine wpAnyR_ready (rs := [22]) (by kernel_rfl) (by simp) ?_
             refine AllR.value rfl (by rfl) (v := .pointer (some ⟨rb, 2, none⟩)) (w' := w3) ?x22 (fun _ => c3) ?q22 AllR.nil
             case x22 =>
              clear hput
              go_simp
             case q22 =>
              try simp only [Act.put, List.getElem_toArray, List.getElem_cons_zero, List.getElem_cons_succ, List.setIfInBounds_toArray, List.set_cons_zero, List.set_cons_succ]
              refine wpAnyR_ready (rs := [23]) (by kernel_rfl) (by simp) ?_
              refine AllR.skip rfl (by rfl) (w' := w3.setCell ⟨rb, 2, none⟩ (.slice pc3 (ins i s r2).length qc3)) ?x23 (fun h => absurd h (by omega)) ?q23 AllR.nil
              case x23 =>
               clear hput
               go_simp
              case q23 =>
               refine wpAnyR_done (by kernel_rfl) ?_
               try simp only [Act.put, List.getElem_toArray, List.getElem_cons_zero, List.getElem_cons_succ, List.setIfInBounds_toArray, List.set_cons_zero, List.set_cons_succ]
               have HP := Lib.hid hput
               clear hput
               go_wp2
               all_goals go_ret2
               all_goals exact ⟨rfl, _, HP.out.1, ((below_grown hB (some rb)).trans hg3).trans HP.out.2⟩
end Go.St
/- The document's store, walked: Offer where it is full. -/
namespace Go.St
open Go Go.Proofs Go.RowKit Go.Maps Go.Shelf Go.Ev
set_option maxRecDepth 100000 in
set_option maxHeartbeats 4000000 in
theorem roffer_drop1 {w : World} {rb : Nat} {d room i s : Int} {r : List (Int × Int)} {v : Value} (h : RAt w rb d room r v) (hd : 1 ≤ d) (hi0 : 0 ≤ i) (hs0 : 0 ≤ s) (hm : i % d = 0) (hn : has i r = false) (hlt : (r.length : Int) = room) (hf : r.length ≤ 4095) {p0 : Int × Int} (h0 : r[0]? = some p0) (hp0 : p0.1 = 0) {r2 : List (Int × Int)} (hr2l : r2.length + 1 = r.length) (hr2n : r2 ≠ []) (hr2g : flat (r.take 1) ++ flat (r.drop 2) = flat r2) :
  Calls Tryz.prog 19 #[.pointer (some ⟨rb, 0, none⟩), .int .i64 i, .int .i64 s] w (ROfferE w rb d room (true, ins i s r2)) := by
 have HG := Lib.hid hr2g
 clear hr2g
 have hv := rvalid_ok rb d w h.c0 hd
 have c0 := h.c0
 have c1 := h.c1
 have c2 := h.c2
 have hd0 : ¬ d = 0 := by omega
 have hi1 : ¬ i < 0 := by omega
 have hs1 : ¬ s < 0 := by omega
 obtain ⟨ps, pc, hsl⟩ := h.slice
 obtain ⟨pp, qq, rfl⟩ : ∃ p c, v = .slice p r.length c := ⟨ps, pc, hsl⟩
 cases hsl
 go_enter Tryz.func19, Tryz.ntmps19
 go_wp2_with (go_at_call 38; refine hv.mono ?_; rintro e w' ⟨rfl, rfl⟩)
 go_loop [8] (fun x => ∃ j : Nat, j ≤ r.length ∧ x = .int .i64 j) (fun x => r.length - (RowKit.intOf x).toNat)
 case atStart => exact ⟨0, by omega, rfl⟩
 case round =>
  obtain ⟨j, hj, rfl⟩ := hrel
  by_cases hjl : j < r.length
  ·have hp : r[j]? = some r[j] := by simp [hjl]
   generalize r[j] = p at hp
   obtain ⟨g, cap, e, k0, k1⟩ := h.item hp
   have e0 := Value.slice.inj e
   obtain ⟨rfl, _, rfl⟩ := e0
   have hne : ¬ p.1 = i := fun e => by
    rw [has_places.2 ⟨j, p, hp, e⟩] at hn; cases hn
   have b0 : (0 : Int) ≤ (j : Int) := by omega
   have b1 : (j : Int) < (r.length : Int) := by omega
   clear hp h hn e
   go_wp2
   go_round
   case rel => exact ⟨j + 1, by omega, int_congr (by omega)⟩
   case measure => simp [RowKit.intOf]; omega
  ·have hje : j = r.length := by omega
   subst hje
   have hfull : (r.length : Int) = room := hlt
   obtain ⟨g, cap, e, k00, k01⟩ := h.item h0
   obtain ⟨rfl, e9, rfl⟩ := Value.slice.inj e
   clear e e9
   have k00' : w.cell? ⟨g, 0, none⟩ = some (.int .i64 p0.1) := k00
   have hl1 := (List.getElem?_eq_some_iff.1 h0).1
   have bl : (0 : Int) < (r.length : Int) := by omega
   have hl2 : 2 ≤ r.length := by have := List.length_pos_iff.2 hr2n; omega
   have bne : ¬ (1 : Int) = (r.length : Int) := by omega
   have HN := Lib.hid hn
   clear hn
   go_wp2
   go_quiet (fail)
   go_wp2
   have hR : RAt (w.drewN nq) rb d room r (.slice (some ⟨g, 0, none⟩) r.length pc) := h.far (drewN_grown w nq none) (by simp) (by simp)
   have hB : Below w.heap.size w (w.drewN nq) := ⟨rfl, rfl, rfl, Nat.le_refl _, fun _ _ => rfl⟩
   obtain ⟨W, hW⟩ : ∃ W, w.drewN nq = W := ⟨_, rfl⟩
   rw [hW] at hR hB ⊢
   clear hW h c0 c1 c2 hv
   have rt := reads_take hR (k := 1) (by omega)
   have rd := reads_drop hR (k := 2) (by omega)
   have hcap : r.length ≤ pc := by
    rcases hR.row.2 with ⟨e, hn0⟩ | ⟨g', cap', cur', e, _, _, hnc, _⟩
    ·omega
    ·obtain ⟨_, _, rfl⟩ := Value.slice.inj e
     exact hnc
   have q0 : (1 : Int) ≤ (pc : Int) := by omega
   have q1 : (2 : Int) ≤ (r.length : Int) := by omega
   have hr2f : 1 + (r.length - 2) = r2.length ∧ flat (r.take 1) ++ flat (r.drop 2) = flat r2 := ⟨by omega, HG.out⟩
   have HR2 := Lib.hid hr2f
   obtain ⟨Y1, hY1⟩ : ∃ Y, sliced (some ⟨g, 0, none⟩) 0 1 pc 2 = Y := ⟨_, rfl⟩
   obtain ⟨Y2, hY2⟩ : ∃ Y, sliced (some ⟨g, 0, none⟩) 2 r.length pc 2 = Y := ⟨_, rfl⟩
   have rt' := rt
   have rd' := rd
   rw [show sliced (some ⟨g, 0, none⟩) 0 (1 : Nat) pc 2 = Y1 from hY1] at rt'
   rw [show sliced (some ⟨g, 0, none⟩) (2 : Nat) r.length pc 2 = Y2 from hY2] at rd'
   have HT := Lib.hid rt'
   have HD := Lib.hid rd'
   clear rt' rd'
   have HY1 := Lib.hid hY1
   have HY2 := Lib.hid hY2
   clear hY1 hY2
   have HL := Lib.hid hlt
   have hroom2 : r2.length ≤ 4094 := by omega
   clear rt rd hr2f hfull hlt k00 k01 k00' bne HN h0
   refine wp_region_R (R := fun j => fun W' => j < 19 → (fun W' : World => W'.cell? ⟨rb, 2, none⟩ = some (.slice (some ⟨g, 0, none⟩) r.length pc)) W') (by kernel_rfl) ?_
   change wpAnyR Tryz.prog .any _ _ _ 20 (Array.replicate 20 false) _ _
   have hS0 : (fun W' : World => W'.cell? ⟨rb, 2, none⟩ = some (.slice (some ⟨g, 0, none⟩) r.length pc)) W.drew := hR.c2
   refine wpAnyR_take (fun W' : World => W'.cell? ⟨rb, 2, none⟩ = some (.slice (some ⟨g, 0, none⟩) r.length pc)) (i := 0) (v := .pointer (some ⟨rb, 0, none⟩)) (fun j => decide (19 ≤ j)) rfl (by kernel_rfl) (by kernel_rfl) (by kernel_rfl) (by kernel_rfl) rfl (by kernel_rfl) (fun _ _ _ h => h) (fun j w hb hR => hR (blk_lt hb (by omega))) (fun w hS _ => hS) (.inl ⟨by rfl, fun w hS => ?d0⟩) hS0 ?_
   case d0 => go_simp
   try simp only [Act.put, List.getElem_toArray, List.getElem_cons_zero, List.getElem_cons_succ, List.setIfInBounds_toArray, List.set_cons_zero, List.set_cons_succ]
   refine wpAnyR_take (fun W' : World => W'.cell? ⟨rb, 2, none⟩ = some (.slice (some ⟨g, 0, none⟩) r.length pc)) (i := 2) (v := .pointer (some ⟨rb, 0, none⟩)) (fun j => decide (19 ≤ j)) rfl (by kernel_rfl) (by kernel_rfl) (by kernel_rfl) (by kernel_rfl) rfl (by kernel_rfl) (fun _ _ _ h => h) (fun j w hb hR => hR (blk_lt hb (by omega))) (fun w hS _ => hS) (.inl ⟨by rfl, fun w hS => ?d2⟩) hS0 ?_
   case d2 => go_simp
   try simp only [Act.put, List.getElem_toArray, List.getElem_cons_zero, List.getElem_cons_succ, List.setIfInBounds_toArray, List.set_cons_zero, List.set_cons_succ]
   refine wpAnyR_take (fun W' : World => W'.cell? ⟨rb, 2, none⟩ = some (.slice (some ⟨g, 0, none⟩) r.length pc)) (i := 3) (v := .pointer (some ⟨rb, 0, none⟩)) (fun j => decide (19 ≤ j)) rfl (by kernel_rfl) (by kernel_rfl) (by kernel_rfl) (by kernel_rfl) rfl (by kernel_rfl) (fun _ _ _ h => h) (fun j w hb hR => hR (blk_lt hb (by omega))) (fun w hS _ => hS) (.inl ⟨by rfl, fun w hS => ?d3⟩) hS0 ?_
   case d3 => go_simp
   try simp only [Act.put, List.getElem_toArray, List.getElem_cons_zero, List.getElem_cons_succ, List.setIfInBounds_toArray, List.set_cons_zero, List.set_cons_succ]
   refine wpAnyR_take (fun W' : World => W'.cell? ⟨rb, 2, none⟩ = some (.slice (some ⟨g, 0, none⟩) r.length pc)) (i := 4) (v := .pointer (some ⟨rb, 2, none⟩)) (fun j => decide (19 ≤ j)) rfl (by kernel_rfl) (by kernel_rfl) (by kernel_rfl) (by kernel_rfl) rfl (by kernel_rfl) (fun _ _ _ h => h) (fun j w hb hR => hR (blk_lt hb (by omega))) (fun w hS _ => hS) (.inl ⟨by rfl, fun w hS => ?d4⟩) hS0 ?_
   case d4 => go_simp
   try simp only [Act.put, List.getElem_toArray, List.getElem_cons_zero, List.getElem_cons_succ, List.setIfInBounds_toArray, List.set_cons_zero, List.set_cons_succ]
   refine wpAnyR_take (fun W' : World => W'.cell? ⟨rb, 2, none⟩ = some (.slice (some ⟨g, 0, none⟩) r.length pc)) (i := 5) (v := .slice (some ⟨g, 0, none⟩) r.length pc) (fun j => decide (19 ≤ j)) rfl (by kernel_rfl) (by kernel_rfl) (by kernel_rfl) (by kernel_rfl) rfl (by kernel_rfl) (fun _ _ _ h => h) (fun j w hb hR => hR (blk_lt hb (by omega))) (fun w hS _ => hS) (.inl ⟨by rfl, fun w hS => ?d5⟩) hS0 ?_
   case d5 => go_simp
   try simp only [Act.put, List.getElem_toArray, List.getElem_cons_zero, List.getElem_cons_succ, List.setIfInBounds_toArray, List.set_cons_zero, List.set_cons_succ]
   refine wpAnyR_take (fun W' : World => W'.cell? ⟨rb, 2, none⟩ = some (.slice (some ⟨g, 0, none⟩) r.length pc)) (i := 6) (v := .int .i64 1) (fun j => decide (19 ≤ j)) rfl (by kernel_rfl) (by kernel_rfl) (by kernel_rfl) (by kernel_rfl) rfl (by kernel_rfl) (fun _ _ _ h => h) (fun j w hb hR => hR (blk_lt hb (by omega))) (fun w hS _ => hS) (.inl ⟨by rfl, fun w hS => ?d6⟩) hS0 ?_
   case d6 => go_simp
   try simp only [Act.put, List.getElem_toArray, List.getElem_cons_zero, List.getElem_cons_succ, List.setIfInBounds_toArray, List.set_cons_zero, List.set_cons_succ]
   refine wpAnyR_take (fun W' : World => W'.cell? ⟨rb, 2, none⟩ = some (.slice (some ⟨g, 0, none⟩) r.length pc)) (i := 7) (v := Y1) (fun j => decide (19 ≤ j)) rfl (by kernel_rfl) (by kernel_rfl) (by kernel_rfl) (by kernel_rfl) rfl (by kernel_rfl) (fun _ _ _ h => h) (fun j w hb hR => hR (blk_lt hb (by omega))) (fun w hS _ => hS) (.inl ⟨by rfl, fun w hS => ?d7⟩) hS0 ?_
   case d7 =>
    rw [← HY1.out]
    go_simp
   try simp only [Act.put, List.getElem_toArray, List.getElem_cons_zero, List.getElem_cons_succ, List.setIfInBounds_toArray, List.set_cons_zero, List.set_cons_succ]
   refine wpAnyR_take (fun W' : World => W'.cell? ⟨rb, 2, none⟩ = some (.slice (some ⟨g, 0, none⟩) r.length pc)) (i := 9) (v := .pointer (some ⟨rb, 0, none⟩)) (fun j => decide (19 ≤ j)) rfl (by kernel_rfl) (by kernel_rfl) (by kernel_rfl) (by kernel_rfl) rfl (by kernel_rfl) (fun _ _ _ h => h) (fun j w hb hR => hR (blk_lt hb (by omega))) (fun w hS _ => hS) (.inl ⟨by rfl, fun w hS => ?d9⟩) hS0 ?_
   case d9 => go_simp
   try simp only [Act.put, List.getElem_toArray, List.getElem_cons_zero, List.getElem_cons_succ, List.setIfInBounds_toArray, List.set_cons_zero, List.set_cons_succ]
   refine wpAnyR_take (fun W' : World => W'.cell? ⟨rb, 2, none⟩ = some (.slice (some ⟨g, 0, none⟩) r.length pc)) (i := 10) (v := .pointer (some ⟨rb, 0, none⟩)) (fun j => decide (19 ≤ j)) rfl (by kernel_rfl) (by kernel_rfl) (by kernel_rfl) (by kernel_rfl) rfl (by kernel_rfl) (fun _ _ _ h => h) (fun j w hb hR => hR (blk_lt hb (by omega))) (fun w hS _ => hS) (.inl ⟨by rfl, fun w hS => ?d10⟩) hS0 ?_
   case d10 => go_simp
   try simp only [Act.put, List.getElem_toArray, List.getElem_cons_zero, List.getElem_cons_succ, List.setIfInBounds_toArray, List.set_cons_zero, List.set_cons_succ]
   refine wpAnyR_take (fun W' : World => W'.cell? ⟨rb, 2, none⟩ = some (.slice (some ⟨g, 0, none⟩) r.length pc)) (i := 11) (v := .pointer (some ⟨rb, 2, none⟩)) (fun j => decide (19 ≤ j)) rfl (by kernel_rfl) (by kernel_rfl) (by kernel_rfl) (by kernel_rfl) rfl (by kernel_rfl) (fun _ _ _ h => h) (fun j w hb hR => hR (blk_lt hb (by omega))) (fun w hS _ => hS) (.inl ⟨by rfl, fun w hS => ?d11⟩) hS0 ?_
   case d11 => go_simp
   try simp only [Act.put, List.getElem_toArray, List.getElem_cons_zero, List.getElem_cons_succ, List.setIfInBounds_toArray, List.set_cons_zero, List.set_cons_succ]
   refine wpAnyR_take (fun W' : World => W'.cell? ⟨rb, 2, none⟩ = some (.slice (some ⟨g, 0, none⟩) r.length pc)) (i := 12) (v := .slice (some ⟨g, 0, none⟩) r.length pc) (fun j => decide (19 ≤ j)) rfl (by kernel_rfl) (by kernel_rfl) (by kernel_rfl) (by kernel_rfl) rfl (by kernel_rfl) (fun _ _ _ h => h) (fun j w hb hR => hR (blk_lt hb (by omega))) (fun w hS _ => hS) (.inl ⟨by rfl, fun w hS => ?d12⟩) hS0 ?_
   case d12 => go_simp
   try simp only [Act.put, List.getElem_toArray, List.getElem_cons_zero, List.getElem_cons_succ, List.setIfInBounds_toArray, List.set_cons_zero, List.set_cons_succ]
   refine wpAnyR_take (fun W' : World => W'.cell? ⟨rb, 2, none⟩ = some (.slice (some ⟨g, 0, none⟩) r.length pc)) (i := 13) (v := .int .i64 1) (fun j => decide (19 ≤ j)) rfl (by kernel_rfl) (by kernel_rfl) (by kernel_rfl) (by kernel_rfl) rfl (by kernel_rfl) (fun _ _ _ h => h) (fun j w hb hR => hR (blk_lt hb (by omega))) (fun w hS _ => hS) (.inl ⟨by rfl, fun w hS => ?d13⟩) hS0 ?_
   case d13 => go_simp
   try simp only [Act.put, List.getElem_toArray, List.getElem_cons_zero, List.getElem_cons_succ, List.setIfInBounds_toArray, List.set_cons_zero, List.set_cons_succ]
   refine wpAnyR_take (fun W' : World => W'.cell? ⟨rb, 2, none⟩ = some (.slice (some ⟨g, 0, none⟩) r.length pc)) (i := 14) (v := .int .i64 (2)) (fun j => decide (19 ≤ j)) rfl (by kernel_rfl) (by kernel_rfl) (by kernel_rfl) (by kernel_rfl) rfl (by kernel_rfl) (fun _ _ _ h => h) (fun j w hb hR => hR (blk_lt hb (by omega))) (fun w hS _ => hS) (.inl ⟨by rfl, fun w hS => ?d14⟩) hS0 ?_
   case d14 =>
    go_simp
    rfl
   try simp only [Act.put, List.getElem_toArray, List.getElem_cons_zero, List.getElem_cons_succ, List.setIfInBounds_toArray, List.set_cons_zero, List.set_cons_succ]
   refine wpAnyR_take (fun W' : World => W'.cell? ⟨rb, 2, none⟩ = some (.slice (some ⟨g, 0, none⟩) r.length pc)) (i := 15) (v := Y2) (fun j => decide (19 ≤ j)) rfl (by kernel_rfl) (by kernel_rfl) (by kernel_rfl) (by kernel_rfl) rfl (by kernel_rfl) (fun _ _ _ h => h) (fun j w hb hR => hR (blk_lt hb (by omega))) (fun w hS _ => hS) (.inl ⟨by rfl, fun w hS => ?d15⟩) hS0 ?_
   case d15 =>
    rw [← HY2.out]
    go_simp
   try simp only [Act.put, List.getElem_toArray, List.getElem_cons_zero, List.getElem_cons_succ, List.setIfInBounds_toArray, List.set_cons_zero, List.set_cons_succ]
   have hrl : rb < W.heap.size := (Array.getElem?_eq_some_iff.1 hR.blk).1
   have hcS : ∀ w', Below W.heap.size W w' → w'.cell? ⟨rb, 2, none⟩ = some (.slice (some ⟨g, 0, none⟩) r.length pc) := fun w' hb => (hb.cell (p := ⟨rb, 2, none⟩) hrl).trans hR.c2
   have hE1 : Below W.heap.size W (W.drew.alloc (.cells #[] 98)) := (Below.refl _ W).drew.alloc (Nat.le_refl _) _
   refine wpAnyR_ready (rs := [1]) (by kernel_rfl) (by simp) ?_
   refine AllR.value rfl (by rfl) (v := .slice (some ⟨W.heap.size, 0, none⟩) 0 0) (w' := W.drew.alloc (.cells #[] 98)) ?d1 (fun _ => hcS _ hE1) ?e1 AllR.nil
   case d1 => go_simp
   case e1 =>
    try simp only [Act.put, List.getElem_toArray, List.getElem_cons_zero, List.getElem_cons_succ, List.setIfInBounds_toArray, List.set_cons_zero, List.set_cons_succ]
    refine wpAnyR_ready (rs := [8]) (by kernel_rfl) (by simp) ?_
    refine AllR.appendS rfl (by rfl) rfl (b0 := W.heap.size) (n := 0) (m := 1) (xs := []) (news := flat (r.take 1)) (v := .slice (some ⟨W.heap.size, 0, none⟩) 0 0) (y := Y1) (by rfl) (World.ownsRow_lit W.drew #[] 0 (Nat.le_refl _) (Nat.zero_le _) rfl) (by rfl) (HT.out.below hE1) (flat_cell _) (by omega) hE1.size (fun va w1 own1 g1 _ => ?_) AllR.nil
    rw [Nat.zero_add, List.nil_append] at own1
    have hB1 : Below W.heap.size W w1 := hE1.grown g1 hE1.size (fun j e => by simp [Value.ownBlock] at e; omega)
    obtain ⟨pa, qa, rfl⟩ : ∃ p c, va = .slice p 1 c := by
     rcases own1.2 with ⟨e, hn0⟩ | ⟨g', cap', cur', e, _⟩
     ·exact ⟨none, 0, by rw [e, hn0]⟩
     ·exact ⟨_, _, e⟩
    refine ⟨fun _ => hcS _ hB1, ?_⟩
    try simp only [Act.put, List.getElem_toArray, List.getElem_cons_zero, List.getElem_cons_succ, List.setIfInBounds_toArray, List.set_cons_zero, List.set_cons_succ]
    refine wpAnyR_ready (rs := [16]) (by kernel_rfl) (by simp) ?_
    refine AllR.appendS rfl (by rfl) rfl (b0 := W.heap.size) (n := 1) (m := r.length - 2) (xs := flat (r.take 1)) (news := flat (r.drop 2)) (v := .slice pa 1 qa) (y := Y2) (by rfl) own1 (by rfl) (HD.out.below hB1) (flat_cell _) (by omega) hB1.size (fun vb w2 own2 g2 _ => ?_) AllR.nil
    have hB2 : Below W.heap.size W w2 := hB1.grown g2 hB1.size (fun j e => row_lo own1 e)
    rw [HR2.out.1, HR2.out.2] at own2
    obtain ⟨pd, qd, rfl⟩ : ∃ p c, vb = .slice p r2.length c := by
     rcases own2.2 with ⟨e, hn0⟩ | ⟨g', cap', cur', e, _⟩
     ·exact ⟨none, 0, by rw [e, hn0]⟩
     ·exact ⟨_, _, e⟩
    have hput := hR.put hB2 own2 (by omega)
    have c3 := hcS _ hB2
    have f3 : w2.frozen? ⟨rb, 2, none⟩ = false := (hB2.frozen (p := ⟨rb, 2, none⟩) hrl).trans hR.f2
    refine ⟨fun _ => c3, ?_⟩
    try simp only [Act.put, List.getElem_toArray, List.getElem_cons_zero, List.getElem_cons_succ, List.setIfInBounds_toArray, List.set_cons_zero, List.set_cons_succ]
    refine wpAnyR_ready (rs := [17]) (by kernel_rfl) (by simp) ?_
    refine AllR.value rfl (by rfl) (v := .pointer (some ⟨rb, 0, none⟩)) (w' := w2) ?d17 (fun _ => c3) ?e17 AllR.nil
    case d17 =>
     clear hput
     go_simp
    case e17 =>
     try simp only [Act.put, List.getElem_toArray, List.getElem_cons_zero, List.getElem_cons_succ, List.setIfInBounds_toArray, List.set_cons_zero, List.set_cons_succ]
     refine wpAnyR_ready (rs := [18]) (by kernel_rfl) (by simp) ?_
     refine AllR.value rfl (by rfl) (v := .pointer (some ⟨rb, 2, none⟩)) (w' := w2) ?d18 (fun _ => c3) ?e18 AllR.nil
     case d18 =>
      clear hput
      go_simp
     case e18 =>
      try simp only [Act.put, List.getElem_toArray, List.getElem_cons_zero, List.getElem_cons_succ, List.setIfInBounds_toArray, List.set_cons_zero, List.set_cons_succ]
      refine wpAnyR_ready (rs := [19]) (by kernel_rfl) (by simp) ?_
      refine AllR.skip rfl (by rfl) (w' := w2.setCell ⟨rb, 2, none⟩ (.slice pd r2.length qd)) ?d19 (fun h => absurd h (by omega)) ?e19 AllR.nil
      case d19 =>
       clear hput
       go_simp
      case e19 =>
       refine wpAnyR_done (by kernel_rfl) ?_
       try simp only [Act.put, List.getElem_toArray, List.getElem_cons_zero, List.getElem_cons_succ, List.setIfInBounds_toArray, List.set_cons_zero, List.set_cons_succ]
       obtain ⟨hR3, hg3⟩ := hput
       obtain ⟨W3, hW3⟩ : ∃ W3, w2.setCell ⟨rb, 2, none⟩ (.slice pd r2.length qd) = W3 := ⟨_, rfl⟩
       rw [hW3] at hR3 hg3 ⊢
       clear hW3 hcS hE1 own1 g1 own2 g2 c3 f3 HT HD hB1 hB2 hS0
       go_wp2
       have c2W := hR3.c2
       go_loop [10] (fun x => ∃ k : Nat, k ≤ r2.length ∧ x = .int .i64 k ∧ ∀ (j : Nat) (q : Int × Int), j < k → r2[j]? = some q → q.1 < i) (fun x => r2.length - (RowKit.intOf x).toNat)
       case atStart => exact ⟨0, by omega, rfl, fun j q hj => by omega⟩
       case round =>
        obtain ⟨k, hk, rfl, hpre⟩ := hrel
        have HPre := Lib.hid hpre
        clear hpre
        by_cases hgo : ∃ q, r2[k]? = some q ∧ q.1 < i
        ·obtain ⟨q, hq, hqi⟩ := hgo
         have hkl := (List.getElem?_eq_some_iff.1 hq).1
         obtain ⟨g, cap, e, k0, k1⟩ := hR3.item hq
         obtain ⟨rfl, e9, rfl⟩ := Value.slice.inj e; clear e9
         have b0 : (0 : Int) ≤ (k : Int) := by omega
         have b1 : (k : Int) < (r2.length : Int) := by omega
         have HQ := Lib.hid hq
         clear hq e
         go_wp2
         go_round
         case rel =>
          refine ⟨k + 1, by omega, int_congr (by omega), fun j q' hj hq' => ?_⟩
          by_cases hjk : j = k
          ·subst hjk
           have := HQ.out
           rw [hq'] at this
           cases this
           exact hqi
          ·exact HPre.out j q' (by omega) hq'
         case measure => simp [RowKit.intOf]; omega
        ·have hins := ins_places (x := s) (fun j p hj hp => HPre.out j p hj hp) (fun p hp hlt => hgo ⟨p, hp, hlt⟩) hk
         have HI := Lib.hid hins
         have rt := reads_take hR3 hk
         have rd := reads_drop hR3 hk
         have hcap : r2.length ≤ qd := by
          rcases hR3.row.2 with ⟨e, hn0⟩ | ⟨g, cap, cur, e, _, _, hnc, _⟩
          ·omega
          ·obtain ⟨_, _, rfl⟩ := Value.slice.inj e
           exact hnc
         have b0 : (0 : Int) ≤ (k : Int) := by omega
         have b1 : (k : Int) ≤ (r2.length : Int) := by omega
         have b2 : (k : Int) ≤ (qd : Int) := by omega
         have HT := Lib.hid rt
         have HD := Lib.hid rd
         clear hins rt rd
         by_cases hkl : k < r2.length
         ·have hq : r2[k]? = some r2[k] := by simp [hkl]
          have hge : ¬ r2[k].1 < i := fun hlt => hgo ⟨_, hq, hlt⟩
          obtain ⟨g9, cap9, e, k0, k1⟩ := hR3.item hq
          obtain ⟨rfl, e9, rfl⟩ := Value.slice.inj e
          generalize r2[k] = q at hq hge k0 k1
          have b3 : (k : Int) < (r2.length : Int) := by omega
          have hgo' := Lib.hid hgo
          clear hgo hq e e9
          go_wp2
          refine wp_region_R (R := fun j => fun W' => j < 23 → (fun W' : World => W'.cell? ⟨rb, 2, none⟩ = some (.slice (some ⟨g9, 0, none⟩) r2.length qd)) W') (by kernel_rfl) ?_
          change wpAnyR Tryz.prog .any _ _ _ 24 (Array.replicate 24 false) _ _
          have hS0 : (fun W' : World => W'.cell? ⟨rb, 2, none⟩ = some (.slice (some ⟨g9, 0, none⟩) r2.length qd)) W3.drew := hR3.c2
          refine wpAnyR_take (fun W' : World => W'.cell? ⟨rb, 2, none⟩ = some (.slice (some ⟨g9, 0, none⟩) r2.length qd)) (i := 0) (v := .pointer (some ⟨rb, 0, none⟩)) (fun j => decide (23 ≤ j)) rfl (by kernel_rfl) (by kernel_rfl) (by kernel_rfl) (by kernel_rfl) rfl (by kernel_rfl) (fun _ _ _ h => h) (fun j w hb hR => hR (blk_lt hb (by omega))) (fun w hS _ => hS) (.inl ⟨by rfl, fun w hS => ?x0⟩) hS0 ?_
          case x0 => go_simp
          try simp only [Act.put, List.getElem_toArray, List.getElem_cons_zero, List.getElem_cons_succ, List.setIfInBounds_toArray, List.set_cons_zero, List.set_cons_succ]
          refine wpAnyR_take (fun W' : World => W'.cell? ⟨rb, 2, none⟩ = some (.slice (some ⟨g9, 0, none⟩) r2.length qd)) (i := 2) (v := .pointer (some ⟨rb, 0, none⟩)) (fun j => decide (23 ≤ j)) rfl (by kernel_rfl) (by kernel_rfl) (by kernel_rfl) (by kernel_rfl) rfl (by kernel_rfl) (fun _ _ _ h => h) (fun j w hb hR => hR (blk_lt hb (by omega))) (fun w hS _ => hS) (.inl ⟨by rfl, fun w hS => ?x2⟩) hS0 ?_
          case x2 => go_simp
          try simp only [Act.put, List.getElem_toArray, List.getElem_cons_zero, List.getElem_cons_succ, List.setIfInBounds_toArray, List.set_cons_zero, List.set_cons_succ]
          refine wpAnyR_take (fun W' : World => W'.cell? ⟨rb, 2, none⟩ = some (.slice (some ⟨g9, 0, none⟩) r2.length qd)) (i := 3) (v := .pointer (some ⟨rb, 0, none⟩)) (fun j => decide (23 ≤ j)) rfl (by kernel_rfl) (by kernel_rfl) (by kernel_rfl) (by kernel_rfl) rfl (by kernel_rfl) (fun _ _ _ h => h) (fun j w hb hR => hR (blk_lt hb (by omega))) (fun w hS _ => hS) (.inl ⟨by rfl, fun w hS => ?x3⟩) hS0 ?_
          case x3 => go_simp
          try simp only [Act.put, List.getElem_toArray, List.getElem_cons_zero, List.getElem_cons_succ, List.setIfInBounds_toArray, List.set_cons_zero, List.set_cons_succ]
          refine wpAnyR_take (fun W' : World => W'.cell? ⟨rb, 2, none⟩ = some (.slice (some ⟨g9, 0, none⟩) r2.length qd)) (i := 4) (v := .pointer (some ⟨rb, 2, none⟩)) (fun j => decide (23 ≤ j)) rfl (by kernel_rfl) (by kernel_rfl) (by kernel_rfl) (by kernel_rfl) rfl (by kernel_rfl) (fun _ _ _ h => h) (fun j w hb hR => hR (blk_lt hb (by omega))) (fun w hS _ => hS) (.inl ⟨by rfl, fun w hS => ?x4⟩) hS0 ?_
          case x4 => go_simp
          try simp only [Act.put, List.getElem_toArray, List.getElem_cons_zero, List.getElem_cons_succ, List.setIfInBounds_toArray, List.set_cons_zero, List.set_cons_succ]
          refine wpAnyR_take (fun W' : World => W'.cell? ⟨rb, 2, none⟩ = some (.slice (some ⟨g9, 0, none⟩) r2.length qd)) (i := 5) (v := .slice (some ⟨g9, 0, none⟩) r2.length qd) (fun j => decide (23 ≤ j)) rfl (by kernel_rfl) (by kernel_rfl) (by kernel_rfl) (by kernel_rfl) rfl (by kernel_rfl) (fun _ _ _ h => h) (fun j w hb hR => hR (blk_lt hb (by omega))) (fun w hS _ => hS) (.inl ⟨by rfl, fun w hS => ?x5⟩) hS0 ?_
          case x5 => go_simp
          try simp only [Act.put, List.getElem_toArray, List.getElem_cons_zero, List.getElem_cons_succ, List.setIfInBounds_toArray, List.set_cons_zero, List.set_cons_succ]
          refine wpAnyR_take (fun W' : World => W'.cell? ⟨rb, 2, none⟩ = some (.slice (some ⟨g9, 0, none⟩) r2.length qd)) (i := 6) (v := .int .i64 (k : Int)) (fun j => decide (23 ≤ j)) rfl (by kernel_rfl) (by kernel_rfl) (by kernel_rfl) (by kernel_rfl) rfl (by kernel_rfl) (fun _ _ _ h => h) (fun j w hb hR => hR (blk_lt hb (by omega))) (fun w hS _ => hS) (.inl ⟨by rfl, fun w hS => ?x6⟩) hS0 ?_
          case x6 => go_simp
          try simp only [Act.put, List.getElem_toArray, List.getElem_cons_zero, List.getElem_cons_succ, List.setIfInBounds_toArray, List.set_cons_zero, List.set_cons_succ]
          refine wpAnyR_take (fun W' : World => W'.cell? ⟨rb, 2, none⟩ = some (.slice (some ⟨g9, 0, none⟩) r2.length qd)) (i := 7) (v := sliced (some ⟨g9, 0, none⟩) 0 k qd 2) (fun j => decide (23 ≤ j)) rfl (by kernel_rfl) (by kernel_rfl) (by kernel_rfl) (by kernel_rfl) rfl (by kernel_rfl) (fun _ _ _ h => h) (fun j w hb hR => hR (blk_lt hb (by omega))) (fun w hS _ => hS) (.inl ⟨by rfl, fun w hS => ?x7⟩) hS0 ?_
          case x7 => go_simp
          try simp only [Act.put, List.getElem_toArray, List.getElem_cons_zero, List.getElem_cons_succ, List.setIfInBounds_toArray, List.set_cons_zero, List.set_cons_succ]
          refine wpAnyR_take (fun W' : World => W'.cell? ⟨rb, 2, none⟩ = some (.slice (some ⟨g9, 0, none⟩) r2.length qd)) (i := 9) (v := .int .i64 i) (fun j => decide (23 ≤ j)) rfl (by kernel_rfl) (by kernel_rfl) (by kernel_rfl) (by kernel_rfl) rfl (by kernel_rfl) (fun _ _ _ h => h) (fun j w hb hR => hR (blk_lt hb (by omega))) (fun w hS _ => hS) (.inl ⟨by rfl, fun w hS => ?x9⟩) hS0 ?_
          case x9 => go_simp
          try simp only [Act.put, List.getElem_toArray, List.getElem_cons_zero, List.getElem_cons_succ, List.setIfInBounds_toArray, List.set_cons_zero, List.set_cons_succ]
          refine wpAnyR_take (fun W' : World => W'.cell? ⟨rb, 2, none⟩ = some (.slice (some ⟨g9, 0, none⟩) r2.length qd)) (i := 10) (v := .int .i64 s) (fun j => decide (23 ≤ j)) rfl (by kernel_rfl) (by kernel_rfl) (by kernel_rfl) (by kernel_rfl) rfl (by kernel_rfl) (fun _ _ _ h => h) (fun j w hb hR => hR (blk_lt hb (by omega))) (fun w hS _ => hS) (.inl ⟨by rfl, fun w hS => ?x10⟩) hS0 ?_
          case x10 => go_simp
          try simp only [Act.put, List.getElem_toArray, List.getElem_cons_zero, List.getElem_cons_succ, List.setIfInBounds_toArray, List.set_cons_zero, List.set_cons_succ]
          refine wpAnyR_take (fun W' : World => W'.cell? ⟨rb, 2, none⟩ = some (.slice (some ⟨g9, 0, none⟩) r2.length qd)) (i := 11) (v := .agg #[.int .i64 i, .int .i64 s]) (fun j => decide (23 ≤ j)) rfl (by kernel_rfl) (by kernel_rfl) (by kernel_rfl) (by kernel_rfl) rfl (by kernel_rfl) (fun _ _ _ h => h) (fun j w hb hR => hR (blk_lt hb (by omega))) (fun w hS _ => hS) (.inl ⟨by rfl, fun w hS => ?x11⟩) hS0 ?_
          case x11 => go_simp
          try simp only [Act.put, List.getElem_toArray, List.getElem_cons_zero, List.getElem_cons_succ, List.setIfInBounds_toArray, List.set_cons_zero, List.set_cons_succ]
          refine wpAnyR_take (fun W' : World => W'.cell? ⟨rb, 2, none⟩ = some (.slice (some ⟨g9, 0, none⟩) r2.length qd)) (i := 14) (v := .pointer (some ⟨rb, 0, none⟩)) (fun j => decide (23 ≤ j)) rfl (by kernel_rfl) (by kernel_rfl) (by kernel_rfl) (by kernel_rfl) rfl (by kernel_rfl) (fun _ _ _ h => h) (fun j w hb hR => hR (blk_lt hb (by omega))) (fun w hS _ => hS) (.inl ⟨by rfl, fun w hS => ?x14⟩) hS0 ?_
          case x14 => go_simp
          try simp only [Act.put, List.getElem_toArray, List.getElem_cons_zero, List.getElem_cons_succ, List.setIfInBounds_toArray, List.set_cons_zero, List.set_cons_succ]
          refine wpAnyR_take (fun W' : World => W'.cell? ⟨rb, 2, none⟩ = some (.slice (some ⟨g9, 0, none⟩) r2.length qd)) (i := 15) (v := .pointer (some ⟨rb, 0, none⟩)) (fun j => decide (23 ≤ j)) rfl (by kernel_rfl) (by kernel_rfl) (by kernel_rfl) (by kernel_rfl) rfl (by kernel_rfl) (fun _ _ _ h => h) (fun j w hb hR => hR (blk_lt hb (by omega))) (fun w hS _ => hS) (.inl ⟨by rfl, fun w hS => ?x15⟩) hS0 ?_
          case x15 => go_simp
          try simp only [Act.put, List.getElem_toArray, List.getElem_cons_zero, List.getElem_cons_succ, List.setIfInBounds_toArray, List.set_cons_zero, List.set_cons_succ]
          refine wpAnyR_take (fun W' : World => W'.cell? ⟨rb, 2, none⟩ = some (.slice (some ⟨g9, 0, none⟩) r2.length qd)) (i := 16) (v := .pointer (some ⟨rb, 2, none⟩)) (fun j => decide (23 ≤ j)) rfl (by kernel_rfl) (by kernel_rfl) (by kernel_rfl) (by kernel_rfl) rfl (by kernel_rfl) (fun _ _ _ h => h) (fun j w hb hR => hR (blk_lt hb (by omega))) (fun w hS _ => hS) (.inl ⟨by rfl, fun w hS => ?x16⟩) hS0 ?_
          case x16 => go_simp
          try simp only [Act.put, List.getElem_toArray, List.getElem_cons_zero, List.getElem_cons_succ, List.setIfInBounds_toArray, List.set_cons_zero, List.set_cons_succ]
          refine wpAnyR_take (fun W' : World => W'.cell? ⟨rb, 2, none⟩ = some (.slice (some ⟨g9, 0, none⟩) r2.length qd)) (i := 17) (v := .slice (some ⟨g9, 0, none⟩) r2.length qd) (fun j => decide (23 ≤ j)) rfl (by kernel_rfl) (by kernel_rfl) (by kernel_rfl) (by kernel_rfl) rfl (by kernel_rfl) (fun _ _ _ h => h) (fun j w hb hR => hR (blk_lt hb (by omega))) (fun w hS _ => hS) (.inl ⟨by rfl, fun w hS => ?x17⟩) hS0 ?_
          case x17 => go_simp
          try simp only [Act.put, List.getElem_toArray, List.getElem_cons_zero, List.getElem_cons_succ, List.setIfInBounds_toArray, List.set_cons_zero, List.set_cons_succ]
          refine wpAnyR_take (fun W' : World => W'.cell? ⟨rb, 2, none⟩ = some (.slice (some ⟨g9, 0, none⟩) r2.length qd)) (i := 18) (v := .int .i64 (k : Int)) (fun j => decide (23 ≤ j)) rfl (by kernel_rfl) (by kernel_rfl) (by kernel_rfl) (by kernel_rfl) rfl (by kernel_rfl) (fun _ _ _ h => h) (fun j w hb hR => hR (blk_lt hb (by omega))) (fun w hS _ => hS) (.inl ⟨by rfl, fun w hS => ?x18⟩) hS0 ?_
          case x18 => go_simp
          try simp only [Act.put, List.getElem_toArray, List.getElem_cons_zero, List.getElem_cons_succ, List.setIfInBounds_toArray, List.set_cons_zero, List.set_cons_succ]
          refine wpAnyR_take (fun W' : World => W'.cell? ⟨rb, 2, none⟩ = some (.slice (some ⟨g9, 0, none⟩) r2.length qd)) (i := 19) (v := sliced (some ⟨g9, 0, none⟩) k r2.length qd 2) (fun j => decide (23 ≤ j)) rfl (by kernel_rfl) (by kernel_rfl) (by kernel_rfl) (by kernel_rfl) rfl (by kernel_rfl) (fun _ _ _ h => h) (fun j w hb hR => hR (blk_lt hb (by omega))) (fun w hS _ => hS) (.inl ⟨by rfl, fun w hS => ?x19⟩) hS0 ?_
          case x19 => go_simp
          try simp only [Act.put, List.getElem_toArray, List.getElem_cons_zero, List.getElem_cons_succ, List.setIfInBounds_toArray, List.set_cons_zero, List.set_cons_succ]
          have hrl : rb < W3.heap.size := (Array.getElem?_eq_some_iff.1 hR3.blk).1
          have hcS : ∀ w', Below W3.heap.size W3 w' → w'.cell? ⟨rb, 2, none⟩ = some (.slice (some ⟨g9, 0, none⟩) r2.length qd) := fun w' hb => (hb.cell (p := ⟨rb, 2, none⟩) hrl).trans hR3.c2
          refine wpAnyR_ready (rs := [1, 12]) (by kernel_rfl) (by simp) ?_
          have hE1 : Below W3.heap.size W3 (W3.drew.alloc (.cells #[] 98)) := (Below.refl _ W3).drew.alloc (Nat.le_refl _) _
          have hT1 : Below W3.heap.size W3 (W3.drew.alloc (.cells #[.int .i64 i, .int .i64 s] 98)) := (Below.refl _ W3).drew.alloc (Nat.le_refl _) _
          refine AllR.value rfl (by rfl) (v := .slice (some ⟨W3.heap.size, 0, none⟩) 0 0) (w' := W3.drew.alloc (.cells #[] 98)) ?x1 (fun _ => hcS _ hE1) ?n1 (AllR.value rfl (by rfl) (v := .slice (some ⟨W3.heap.size, 0, none⟩) 1 1) (w' := W3.drew.alloc (.cells #[.int .i64 i, .int .i64 s] 98)) ?x12 (fun _ => hcS _ hT1) ?n12 AllR.nil)
          case x1 => go_simp
          case x12 => go_simp
          case n1 =>
           try simp only [Act.put, List.getElem_toArray, List.getElem_cons_zero, List.getElem_cons_succ, List.setIfInBounds_toArray, List.set_cons_zero, List.set_cons_succ]
           refine wpAnyR_ready (rs := [8, 12]) (by kernel_rfl) (by simp) ?_
           refine AllR.appendS rfl (by rfl) rfl (b0 := W3.heap.size) (n := 0) (m := k) (xs := []) (news := flat (r2.take k)) (v := .slice (some ⟨W3.heap.size, 0, none⟩) 0 0) (y := sliced (some ⟨g9, 0, none⟩) 0 k qd 2) (by rfl) (World.ownsRow_lit W3.drew #[] 0 (Nat.le_refl _) (Nat.zero_le _) rfl) (by rfl) (HT.out.below hE1) (flat_cell _) (by omega) hE1.size (fun va w1 own1 g1 _ => ?_) ?m12
           rw [Nat.zero_add, List.nil_append] at own1
           have hB1 : Below W3.heap.size W3 w1 := hE1.grown g1 hE1.size (fun j e => by simp [Value.ownBlock] at e; omega)
           obtain ⟨pa, qa, rfl⟩ : ∃ p c, va = .slice p k c := by
            rcases own1.2 with ⟨e, hn0⟩ | ⟨g', cap', cur', e, _⟩
            ·exact ⟨none, 0, by rw [e, hn0]⟩
            ·exact ⟨_, _, e⟩
           refine ⟨fun _ => hcS _ hB1, ?_⟩
           try simp only [Act.put, List.getElem_toArray, List.getElem_cons_zero, List.getElem_cons_succ, List.setIfInBounds_toArray, List.set_cons_zero, List.set_cons_succ]
           refine wpAnyR_ready (rs := [12]) (by kernel_rfl) (by simp) ?_
           have hB1t : Below W3.heap.size W3 (w1.alloc (.cells #[.int .i64 i, .int .i64 s] 98)) := hB1.alloc hB1.size _
           refine AllR.value rfl (by rfl) (v := .slice (some ⟨w1.heap.size, 0, none⟩) 1 1) (w' := w1.alloc (.cells #[.int .i64 i, .int .i64 s] 98)) ?y12 (fun _ => hcS _ hB1t) ?z12 AllR.nil
           case y12 => go_simp
           case z12 =>
            try simp only [Act.put, List.getElem_toArray, List.getElem_cons_zero, List.getElem_cons_succ, List.setIfInBounds_toArray, List.set_cons_zero, List.set_cons_succ]
            refine wpAnyR_ready (rs := [13]) (by kernel_rfl) (by simp) ?_
            refine AllR.appendS rfl (by rfl) rfl (b0 := W3.heap.size) (n := k) (m := 1) (xs := flat (r2.take k)) (news := flat [(i, s)]) (v := .slice pa k qa) (by rfl) ((Far.none w1).row (World.grownBy_alloc _ _ none) own1) (by rfl) (.inr ⟨⟨w1.heap.size, 0, none⟩, 1, rfl, rfl, cells_two w1 _ _ _⟩) (flat_cell _) (by omega) hB1t.size (fun vb w2 own2 g2 _ => ?_) AllR.nil
            have hB2 : Below W3.heap.size W3 w2 := hB1t.grown g2 hB1t.size (fun j e => row_lo own1 e)
            obtain ⟨pb, qb, rfl⟩ : ∃ p c, vb = .slice p (k + 1) c := by
             rcases own2.2 with ⟨e, hn0⟩ | ⟨g', cap', cur', e, _⟩
             ·omega
             ·exact ⟨_, _, e⟩
            refine ⟨fun _ => hcS _ hB2, ?_⟩
            try simp only [Act.put, List.getElem_toArray, List.getElem_cons_zero, List.getElem_cons_succ, List.setIfInBounds_toArray, List.set_cons_zero, List.set_cons_succ]
            refine wpAnyR_ready (rs := [20]) (by kernel_rfl) (by simp) ?_
            refine AllR.appendS rfl (by rfl) rfl (b0 := W3.heap.size) (n := k + 1) (m := r2.length - k) (xs := flat (r2.take k) ++ flat [(i, s)]) (news := flat (r2.drop k)) (v := .slice pb (k + 1) qb) (y := sliced (some ⟨g9, 0, none⟩) k r2.length qd 2) (by rfl) own2 (by rfl) (HD.out.below hB2) (flat_cell _) (by omega) hB2.size (fun vc w3 own3 g3 _ => ?_) AllR.nil
            have hB3 : Below W3.heap.size W3 w3 := hB2.grown g3 hB2.size (fun j e => row_lo own2 e)
            have hlen3 : k + 1 + (r2.length - k) = (ins i s r2).length := by rw [length_ins]; omega
            have hfl3 : flat (r2.take k) ++ flat [(i, s)] ++ flat (r2.drop k) = flat (ins i s r2) := by rw [HI.out, flat_append, List.append_assoc]; rfl
            rw [hlen3, hfl3] at own3
            obtain ⟨pc3, qc3, rfl⟩ : ∃ p c, vc = .slice p (ins i s r2).length c := by
             rcases own3.2 with ⟨e, hn0⟩ | ⟨g', cap', cur', e, _⟩
             ·exact ⟨none, 0, by rw [e, hn0]⟩
             ·exact ⟨_, _, e⟩
            have hput := hR3.put hB3 own3 (by rw [length_ins]; omega)
            have c3 := hcS _ hB3
            have f3 : w3.frozen? ⟨rb, 2, none⟩ = false := (hB3.frozen (p := ⟨rb, 2, none⟩) hrl).trans hR3.f2
            refine ⟨fun _ => c3, ?_⟩
            try simp only [Act.put, List.getElem_toArray, List.getElem_cons_zero, List.getElem_cons_succ, List.setIfInBounds_toArray, List.set_cons_zero, List.set_cons_succ]
            refine wpAnyR_ready (rs := [21]) (by kernel_rfl) (by simp) ?_
            refine AllR.value rfl (by rfl) (v := .pointer (some ⟨rb, 0, none⟩)) (w' := w3) ?x21 (fun _ => c3) ?q21 AllR.nil
            case x21 =>
             clear hput
             go_simp
            case q21 =>
             try simp only [Act.put, List.getElem_toArray, List.getElem_cons_zero, List.getElem_cons_succ, List.setIfInBounds_toArray, List.set_cons_zero, List.set_cons_succ]
             refine wpAnyR_ready (rs := [22]) (by kernel_rfl) (by simp) ?_
             refine AllR.value rfl (by rfl) (v := .pointer (some ⟨rb, 2, none⟩)) (w' := w3) ?x22 (fun _ => c3) ?q22 AllR.nil
             case x22 =>
              clear hput
              go_simp
             case q22 =>
              try simp only [Act.put, List.getElem_toArray, List.getElem_cons_zero, List.getElem_cons_succ, List.setIfInBounds_toArray, List.set_cons_zero, List.set_cons_succ]
              refine wpAnyR_ready (rs := [23]) (by kernel_rfl) (by simp) ?_
              refine AllR.skip rfl (by rfl) (w' := w3.setCell ⟨rb, 2, none⟩ (.slice pc3 (ins i s r2).length qc3)) ?x23 (fun h => absurd h (by omega)) ?q23 AllR.nil
              case x23 =>
               clear hput
               go_simp
              case q23 =>
               refine wpAnyR_done (by kernel_rfl) ?_
               try simp only [Act.put, List.getElem_toArray, List.getElem_cons_zero, List.getElem_cons_succ, List.setIfInBounds_toArray, List.set_cons_zero, List.set_cons_succ]
               have HP := Lib.hid hput
               clear hput
               go_wp2
               all_goals go_ret2
               all_goals exact ⟨rfl, _, HP.out.1, ((below_grown hB (some rb)).trans hg3).trans HP.out.2⟩
           case m12 =>
            have hET : Below W3.heap.size W3 ((W3.drew.alloc (.cells #[] 98)).alloc (.cells #[.int .i64 i, .int .i64 s] 98)) := hE1.alloc hE1.size _
            refine AllR.value rfl (by rfl) (v := .slice (some ⟨W3.heap.size + 1, 0, none⟩) 1 1) (w' := (W3.drew.alloc (.cells #[] 98)).alloc (.cells #[.int .i64 i, .int .i64 s] 98)) ?y12 (fun _ => hcS _ hET) ?z12 AllR.nil
            case y12 => go_simp
            case z12 =>
             try simp only [Act.put, List.getElem_toArray, List.getElem_cons_zero, List.getElem_cons_succ, List.setIfInBounds_toArray, List.set_cons_zero, List.set_cons_succ]
             refine wpAnyR_ready (rs := [8]) (by kernel_rfl) (by simp) ?_
             have hct := cells_two (W3.drew.alloc (.cells #[] 98)) (.int .i64 i) (.int .i64 s) 98
             rw [show ((W3.drew.alloc (.cells #[] 98))).heap.size = W3.heap.size + 1 by simp] at hct
             refine AllR.appendS rfl (by rfl) rfl (b0 := W3.heap.size) (n := 0) (m := k) (xs := []) (news := flat (r2.take k)) (v := .slice (some ⟨W3.heap.size, 0, none⟩) 0 0) (y := sliced (some ⟨g9, 0, none⟩) 0 k qd 2) (by rfl) ((Far.none _).row (World.grownBy_alloc (W3.drew.alloc (.cells #[] 98)) (.cells #[.int .i64 i, .int .i64 s] 98) none) (World.ownsRow_lit W3.drew #[] 0 (Nat.le_refl _) (Nat.zero_le _) rfl)) (by rfl) (HT.out.below hET) (flat_cell _) (by omega) hET.size (fun va w1 own1 g1 _ => ?_) AllR.nil
             rw [Nat.zero_add, List.nil_append] at own1
             have hB1 : Below W3.heap.size W3 w1 := hET.grown g1 hET.size (fun j e => by simp [Value.ownBlock] at e; omega)
             obtain ⟨pa, qa, rfl⟩ : ∃ p c, va = .slice p k c := by
              rcases own1.2 with ⟨e, hn0⟩ | ⟨g', cap', cur', e, _⟩
              ·exact ⟨none, 0, by rw [e, hn0]⟩
              ·exact ⟨_, _, e⟩
             refine ⟨fun _ => hcS _ hB1, ?_⟩
             try simp only [Act.put, List.getElem_toArray, List.getElem_cons_zero, List.getElem_cons_succ, List.setIfInBounds_toArray, List.set_cons_zero, List.set_cons_succ]
             refine wpAnyR_ready (rs := [13]) (by kernel_rfl) (by simp) ?_
             refine AllR.appendS rfl (by rfl) rfl (b0 := W3.heap.size) (n := k) (m := 1) (xs := flat (r2.take k)) (news := flat [(i, s)]) (v := .slice pa k qa) (by rfl) own1 (by rfl) (.inr ⟨⟨W3.heap.size + 1, 0, none⟩, 1, rfl, rfl, fun j u hj => g1.cell (hct j u hj) (by rw [Value.ownBlock]; intro e; have := Option.some.inj e; revert this; cases j <;> simp [Addr.add])⟩) (flat_cell _) (by omega) hB1.size (fun vb w2 own2 g2 _ => ?_) AllR.nil
             have hB2 : Below W3.heap.size W3 w2 := hB1.grown g2 hB1.size (fun j e => row_lo own1 e)
             obtain ⟨pb, qb, rfl⟩ : ∃ p c, vb = .slice p (k + 1) c := by
              rcases own2.2 with ⟨e, hn0⟩ | ⟨g', cap', cur', e, _⟩
              ·omega
              ·exact ⟨_, _, e⟩
             refine ⟨fun _ => hcS _ hB2, ?_⟩
             try simp only [Act.put, List.getElem_toArray, List.getElem_cons_zero, List.getElem_cons_succ, List.setIfInBounds_toArray, List.set_cons_zero, List.set_cons_succ]
             refine wpAnyR_ready (rs := [20]) (by kernel_rfl) (by simp) ?_
             refine AllR.appendS rfl (by rfl) rfl (b0 := W3.heap.size) (n := k + 1) (m := r2.length - k) (xs := flat (r2.take k) ++ flat [(i, s)]) (news := flat (r2.drop k)) (v := .slice pb (k + 1) qb) (y := sliced (some ⟨g9, 0, none⟩) k r2.length qd 2) (by rfl) own2 (by rfl) (HD.out.below hB2) (flat_cell _) (by omega) hB2.size (fun vc w3 own3 g3 _ => ?_) AllR.nil
             have hB3 : Below W3.heap.size W3 w3 := hB2.grown g3 hB2.size (fun j e => row_lo own2 e)
             have hlen3 : k + 1 + (r2.length - k) = (ins i s r2).length := by rw [length_ins]; omega
             have hfl3 : flat (r2.take k) ++ flat [(i, s)] ++ flat (r2.drop k) = flat (ins i s r2) := by rw [HI.out, flat_append, List.append_assoc]; rfl
             rw [hlen3, hfl3] at own3
             obtain ⟨pc3, qc3, rfl⟩ : ∃ p c, vc = .slice p (ins i s r2).length c := by
              rcases own3.2 with ⟨e, hn0⟩ | ⟨g', cap', cur', e, _⟩
              ·exact ⟨none, 0, by rw [e, hn0]⟩
              ·exact ⟨_, _, e⟩
             have hput := hR3.put hB3 own3 (by rw [length_ins]; omega)
             have c3 := hcS _ hB3
             have f3 : w3.frozen? ⟨rb, 2, none⟩ = false := (hB3.frozen (p := ⟨rb, 2, none⟩) hrl).trans hR3.f2
             refine ⟨fun _ => c3, ?_⟩
             try simp only [Act.put, List.getElem_toArray, List.getElem_cons_zero, List.getElem_cons_succ, List.setIfInBounds_toArray, List.set_cons_zero, List.set_cons_succ]
             refine wpAnyR_ready (rs := [21]) (by kernel_rfl) (by simp) ?_
             refine AllR.value rfl (by rfl) (v := .pointer (some ⟨rb, 0, none⟩)) (w' := w3) ?x21 (fun _ => c3) ?q21 AllR.nil
             case x21 =>
              clear hput
              go_simp
             case q21 =>
              try simp only [Act.put, List.getElem_toArray, List.getElem_cons_zero, List.getElem_cons_succ, List.setIfInBounds_toArray, List.set_cons_zero, List.set_cons_succ]
              refine wpAnyR_ready (rs := [22]) (by kernel_rfl) (by simp) ?_
              refine AllR.value rfl (by rfl) (v := .pointer (some ⟨rb, 2, none⟩)) (w' := w3) ?x22 (fun _ => c3) ?q22 AllR.nil
              case x22 =>
               clear hput
               go_simp
              case q22 =>
               try simp only [Act.put, List.getElem_toArray, List.getElem_cons_zero, List.getElem_cons_succ, List.setIfInBounds_toArray, List.set_cons_zero, List.set_cons_succ]
               refine wpAnyR_ready (rs := [23]) (by kernel_rfl) (by simp) ?_
               refine AllR.skip rfl (by rfl) (w' := w3.setCell ⟨rb, 2, none⟩ (.slice pc3 (ins i s r2).length qc3)) ?x23 (fun h => absurd h (by omega)) ?q23 AllR.nil
               case x23 =>
                clear hput
                go_simp
               case q23 =>
                refine wpAnyR_done (by kernel_rfl) ?_
                try simp only [Act.put, List.getElem_toArray, List.getElem_cons_zero, List.getElem_cons_succ, List.setIfInBounds_toArray, List.set_cons_zero, List.set_cons_succ]
                have HP := Lib.hid hput
                clear hput
                go_wp2
                all_goals go_ret2
                all_goals exact ⟨rfl, _, HP.out.1, ((below_grown hB (some rb)).trans hg3).trans HP.out.2⟩
          case n12 =>
           try simp only [Act.put, List.getElem_toArray, List.getElem_cons_zero, List.getElem_cons_succ, List.setIfInBounds_toArray, List.set_cons_zero, List.set_cons_succ]
           refine wpAnyR_ready (rs := [1]) (by kernel_rfl) (by simp) ?_
           have hTE : Below W3.heap.size W3 ((W3.drew.alloc (.cells #[.int .i64 i, .int .i64 s] 98)).alloc (.cells #[] 98)) := hT1.alloc hT1.size _
           refine AllR.value rfl (by rfl) (v := .slice (some ⟨W3.heap.size + 1, 0, none⟩) 0 0) (w' := (W3.drew.alloc (.cells #[.int .i64 i, .int .i64 s] 98)).alloc (.cells #[] 98)) ?y1 (fun _ => hcS _ hTE) ?z1 AllR.nil
           case y1 => go_simp
           case z1 =>
            try simp only [Act.put, List.getElem_toArray, List.getElem_cons_zero, List.getElem_cons_succ, List.setIfInBounds_toArray, List.set_cons_zero, List.set_cons_succ]
            refine wpAnyR_ready (rs := [8]) (by kernel_rfl) (by simp) ?_
            have hct := cells_two W3.drew (.int .i64 i) (.int .i64 s) 98
            have hct2 : ∀ j u, [Value.int .i64 i, .int .i64 s][j]? = some u → ((W3.drew.alloc (.cells #[.int .i64 i, .int .i64 s] 98)).alloc (.cells #[] 98)).cell? ((⟨W3.heap.size, 0, none⟩ : Addr).add j) = some u := fun j u hj => cell_kept (hct j u hj) (World.grownBy_alloc (W3.drew.alloc (.cells #[.int .i64 i, .int .i64 s] 98)) (.cells #[] 98) none) (fun r e => by cases e)
            refine AllR.appendS rfl (by rfl) rfl (b0 := W3.heap.size) (n := 0) (m := k) (xs := []) (news := flat (r2.take k)) (v := .slice (some ⟨W3.heap.size + 1, 0, none⟩) 0 0) (y := sliced (some ⟨g9, 0, none⟩) 0 k qd 2) (by rfl) (by have := World.ownsRow_lit (W3.drew.alloc (.cells #[.int .i64 i, .int .i64 s] 98)) #[] (base := W3.heap.size) (e := 98) (size := 2) 0 (by simp) (Nat.zero_le _) rfl; simpa using this) (by rfl) (HT.out.below hTE) (flat_cell _) (by omega) hTE.size (fun va w1 own1 g1 _ => ?_) AllR.nil
            rw [Nat.zero_add, List.nil_append] at own1
            have hB1 : Below W3.heap.size W3 w1 := hTE.grown g1 hTE.size (fun j e => by simp [Value.ownBlock] at e; omega)
            obtain ⟨pa, qa, rfl⟩ : ∃ p c, va = .slice p k c := by
             rcases own1.2 with ⟨e, hn0⟩ | ⟨g', cap', cur', e, _⟩
             ·exact ⟨none, 0, by rw [e, hn0]⟩
             ·exact ⟨_, _, e⟩
            refine ⟨fun _ => hcS _ hB1, ?_⟩
            try simp only [Act.put, List.getElem_toArray, List.getElem_cons_zero, List.getElem_cons_succ, List.setIfInBounds_toArray, List.set_cons_zero, List.set_cons_succ]
            refine wpAnyR_ready (rs := [13]) (by kernel_rfl) (by simp) ?_
            refine AllR.appendS rfl (by rfl) rfl (b0 := W3.heap.size) (n := k) (m := 1) (xs := flat (r2.take k)) (news := flat [(i, s)]) (v := .slice pa k qa) (by rfl) own1 (by rfl) (.inr ⟨⟨W3.heap.size, 0, none⟩, 1, rfl, rfl, fun j u hj => g1.cell (hct2 j u hj) (by rw [Value.ownBlock]; intro e; have := Option.some.inj e; revert this; cases j <;> simp [Addr.add])⟩) (flat_cell _) (by omega) hB1.size (fun vb w2 own2 g2 _ => ?_) AllR.nil
            have hB2 : Below W3.heap.size W3 w2 := hB1.grown g2 hB1.size (fun j e => row_lo own1 e)
            obtain ⟨pb, qb, rfl⟩ : ∃ p c, vb = .slice p (k + 1) c := by
             rcases own2.2 with ⟨e, hn0⟩ | ⟨g', cap', cur', e, _⟩
             ·omega
             ·exact ⟨_, _, e⟩
            refine ⟨fun _ => hcS _ hB2, ?_⟩
            try simp only [Act.put, List.getElem_toArray, List.getElem_cons_zero, List.getElem_cons_succ, List.setIfInBounds_toArray, List.set_cons_zero, List.set_cons_succ]
            refine wpAnyR_ready (rs := [20]) (by kernel_rfl) (by simp) ?_
            refine AllR.appendS rfl (by rfl) rfl (b0 := W3.heap.size) (n := k + 1) (m := r2.length - k) (xs := flat (r2.take k) ++ flat [(i, s)]) (news := flat (r2.drop k)) (v := .slice pb (k + 1) qb) (y := sliced (some ⟨g9, 0, none⟩) k r2.length qd 2) (by rfl) own2 (by rfl) (HD.out.below hB2) (flat_cell _) (by omega) hB2.size (fun vc w3 own3 g3 _ => ?_) AllR.nil
            have hB3 : Below W3.heap.size W3 w3 := hB2.grown g3 hB2.size (fun j e => row_lo own2 e)
            have hlen3 : k + 1 + (r2.length - k) = (ins i s r2).length := by rw [length_ins]; omega
            have hfl3 : flat (r2.take k) ++ flat [(i, s)] ++ flat (r2.drop k) = flat (ins i s r2) := by rw [HI.out, flat_append, List.append_assoc]; rfl
            rw [hlen3, hfl3] at own3
            obtain ⟨pc3, qc3, rfl⟩ : ∃ p c, vc = .slice p (ins i s r2).length c := by
             rcases own3.2 with ⟨e, hn0⟩ | ⟨g', cap', cur', e, _⟩
             ·exact ⟨none, 0, by rw [e, hn0]⟩
             ·exact ⟨_, _, e⟩
            have hput := hR3.put hB3 own3 (by rw [length_ins]; omega)
            have c3 := hcS _ hB3
            have f3 : w3.frozen? ⟨rb, 2, none⟩ = false := (hB3.frozen (p := ⟨rb, 2, none⟩) hrl).trans hR3.f2
            refine ⟨fun _ => c3, ?_⟩
            try simp only [Act.put, List.getElem_toArray, List.getElem_cons_zero, List.getElem_cons_succ, List.setIfInBounds_toArray, List.set_cons_zero, List.set_cons_succ]
            refine wpAnyR_ready (rs := [21]) (by kernel_rfl) (by simp) ?_
            refine AllR.value rfl (by rfl) (v := .pointer (some ⟨rb, 0, none⟩)) (w' := w3) ?x21 (fun _ => c3) ?q21 AllR.nil
            case x21 =>
             clear hput
             go_simp
            case q21 =>
             try simp only [Act.put, List.getElem_toArray, List.getElem_cons_zero, List.getElem_cons_succ, List.setIfInBounds_toArray, List.set_cons_zero, List.set_cons_succ]
             refine wpAnyR_ready (rs := [22]) (by kernel_rfl) (by simp) ?_
             refine AllR.value rfl (by rfl) (v := .pointer (some ⟨rb, 2, none⟩)) (w' := w3) ?x22 (fun _ => c3) ?q22 AllR.nil
             case x22 =>
              clear hput
              go_simp
             case q22 =>
              try simp only [Act.put, List.getElem_toArray, List.getElem_cons_zero, List.getElem_cons_succ, List.setIfInBounds_toArray, List.set_cons_zero, List.set_cons_succ]
              refine wpAnyR_ready (rs := [23]) (by kernel_rfl) (by simp) ?_
              refine AllR.skip rfl (by rfl) (w' := w3.setCell ⟨rb, 2, none⟩ (.slice pc3 (ins i s r2).length qc3)) ?x23 (fun h => absurd h (by omega)) ?q23 AllR.nil
              case x23 =>
               clear hput
               go_simp
              case q23 =>
               refine wpAnyR_done (by kernel_rfl) ?_
               try simp only [Act.put, List.getElem_toArray, List.getElem_cons_zero, List.getElem_cons_succ, List.setIfInBounds_toArray, List.set_cons_zero, List.set_cons_succ]
               have HP := Lib.hid hput
               clear hput
               go_wp2
               all_goals go_ret2
               all_goals exact ⟨rfl, _, HP.out.1, ((below_grown hB (some rb)).trans hg3).trans HP.out.2⟩
         ·have hnk : ¬ (k : Int) < (r2.length : Int) := by omega
          clear hgo
          go_wp2
          refine wp_region_R (R := fun j => fun W' => j < 23 → (fun W' : World => W'.cell? ⟨rb, 2, none⟩ = some (.slice pd r2.length qd)) W') (by kernel_rfl) ?_
          change wpAnyR Tryz.prog .any _ _ _ 24 (Array.replicate 24 false) _ _
          have hS0 : (fun W' : World => W'.cell? ⟨rb, 2, none⟩ = some (.slice pd r2.length qd)) W3.drew := hR3.c2
          refine wpAnyR_take (fun W' : World => W'.cell? ⟨rb, 2, none⟩ = some (.slice pd r2.length qd)) (i := 0) (v := .pointer (some ⟨rb, 0, none⟩)) (fun j => decide (23 ≤ j)) rfl (by kernel_rfl) (by kernel_rfl) (by kernel_rfl) (by kernel_rfl) rfl (by kernel_rfl) (fun _ _ _ h => h) (fun j w hb hR => hR (blk_lt hb (by omega))) (fun w hS _ => hS) (.inl ⟨by rfl, fun w hS => ?x0⟩) hS0 ?_
          case x0 => go_simp
          try simp only [Act.put, List.getElem_toArray, List.getElem_cons_zero, List.getElem_cons_succ, List.setIfInBounds_toArray, List.set_cons_zero, List.set_cons_succ]
          refine wpAnyR_take (fun W' : World => W'.cell? ⟨rb, 2, none⟩ = some (.slice pd r2.length qd)) (i := 2) (v := .pointer (some ⟨rb, 0, none⟩)) (fun j => decide (23 ≤ j)) rfl (by kernel_rfl) (by kernel_rfl) (by kernel_rfl) (by kernel_rfl) rfl (by kernel_rfl) (fun _ _ _ h => h) (fun j w hb hR => hR (blk_lt hb (by omega))) (fun w hS _ => hS) (.inl ⟨by rfl, fun w hS => ?x2⟩) hS0 ?_
          case x2 => go_simp
          try simp only [Act.put, List.getElem_toArray, List.getElem_cons_zero, List.getElem_cons_succ, List.setIfInBounds_toArray, List.set_cons_zero, List.set_cons_succ]
          refine wpAnyR_take (fun W' : World => W'.cell? ⟨rb, 2, none⟩ = some (.slice pd r2.length qd)) (i := 3) (v := .pointer (some ⟨rb, 0, none⟩)) (fun j => decide (23 ≤ j)) rfl (by kernel_rfl) (by kernel_rfl) (by kernel_rfl) (by kernel_rfl) rfl (by kernel_rfl) (fun _ _ _ h => h) (fun j w hb hR => hR (blk_lt hb (by omega))) (fun w hS _ => hS) (.inl ⟨by rfl, fun w hS => ?x3⟩) hS0 ?_
          case x3 => go_simp
          try simp only [Act.put, List.getElem_toArray, List.getElem_cons_zero, List.getElem_cons_succ, List.setIfInBounds_toArray, List.set_cons_zero, List.set_cons_succ]
          refine wpAnyR_take (fun W' : World => W'.cell? ⟨rb, 2, none⟩ = some (.slice pd r2.length qd)) (i := 4) (v := .pointer (some ⟨rb, 2, none⟩)) (fun j => decide (23 ≤ j)) rfl (by kernel_rfl) (by kernel_rfl) (by kernel_rfl) (by kernel_rfl) rfl (by kernel_rfl) (fun _ _ _ h => h) (fun j w hb hR => hR (blk_lt hb (by omega))) (fun w hS _ => hS) (.inl ⟨by rfl, fun w hS => ?x4⟩) hS0 ?_
          case x4 => go_simp
          try simp only [Act.put, List.getElem_toArray, List.getElem_cons_zero, List.getElem_cons_succ, List.setIfInBounds_toArray, List.set_cons_zero, List.set_cons_succ]
          refine wpAnyR_take (fun W' : World => W'.cell? ⟨rb, 2, none⟩ = some (.slice pd r2.length qd)) (i := 5) (v := .slice pd r2.length qd) (fun j => decide (23 ≤ j)) rfl (by kernel_rfl) (by kernel_rfl) (by kernel_rfl) (by kernel_rfl) rfl (by kernel_rfl) (fun _ _ _ h => h) (fun j w hb hR => hR (blk_lt hb (by omega))) (fun w hS _ => hS) (.inl ⟨by rfl, fun w hS => ?x5⟩) hS0 ?_
          case x5 => go_simp
          try simp only [Act.put, List.getElem_toArray, List.getElem_cons_zero, List.getElem_cons_succ, List.setIfInBounds_toArray, List.set_cons_zero, List.set_cons_succ]
          refine wpAnyR_take (fun W' : World => W'.cell? ⟨rb, 2, none⟩ = some (.slice pd r2.length qd)) (i := 6) (v := .int .i64 (k : Int)) (fun j => decide (23 ≤ j)) rfl (by kernel_rfl) (by kernel_rfl) (by kernel_rfl) (by kernel_rfl) rfl (by kernel_rfl) (fun _ _ _ h => h) (fun j w hb hR => hR (blk_lt hb (by omega))) (fun w hS _ => hS) (.inl ⟨by rfl, fun w hS => ?x6⟩) hS0 ?_
          case x6 => go_simp
          try simp only [Act.put, List.getElem_toArray, List.getElem_cons_zero, List.getElem_cons_succ, List.setIfInBounds_toArray, List.set_cons_zero, List.set_cons_succ]
          refine wpAnyR_take (fun W' : World => W'.cell? ⟨rb, 2, none⟩ = some (.slice pd r2.length qd)) (i := 7) (v := sliced pd 0 k qd 2) (fun j => decide (23 ≤ j)) rfl (by kernel_rfl) (by kernel_rfl) (by kernel_rfl) (by kernel_rfl) rfl (by kernel_rfl) (fun _ _ _ h => h) (fun j w hb hR => hR (blk_lt hb (by omega))) (fun w hS _ => hS) (.inl ⟨by rfl, fun w hS => ?x7⟩) hS0 ?_
          case x7 => go_simp
          try simp only [Act.put, List.getElem_toArray, List.getElem_cons_zero, List.getElem_cons_succ, List.setIfInBounds_toArray, List.set_cons_zero, List.set_cons_succ]
          refine wpAnyR_take (fun W' : World => W'.cell? ⟨rb, 2, none⟩ = some (.slice pd r2.length qd)) (i := 9) (v := .int .i64 i) (fun j => decide (23 ≤ j)) rfl (by kernel_rfl) (by kernel_rfl) (by kernel_rfl) (by kernel_rfl) rfl (by kernel_rfl) (fun _ _ _ h => h) (fun j w hb hR => hR (blk_lt hb (by omega))) (fun w hS _ => hS) (.inl ⟨by rfl, fun w hS => ?x9⟩) hS0 ?_
          case x9 => go_simp
          try simp only [Act.put, List.getElem_toArray, List.getElem_cons_zero, List.getElem_cons_succ, List.setIfInBounds_toArray, List.set_cons_zero, List.set_cons_succ]
          refine wpAnyR_take (fun W' : World => W'.cell? ⟨rb, 2, none⟩ = some (.slice pd r2.length qd)) (i := 10) (v := .int .i64 s) (fun j => decide (23 ≤ j)) rfl (by kernel_rfl) (by kernel_rfl) (by kernel_rfl) (by kernel_rfl) rfl (by kernel_rfl) (fun _ _ _ h => h) (fun j w hb hR => hR (blk_lt hb (by omega))) (fun w hS _ => hS) (.inl ⟨by rfl, fun w hS => ?x10⟩) hS0 ?_
          case x10 => go_simp
          try simp only [Act.put, List.getElem_toArray, List.getElem_cons_zero, List.getElem_cons_succ, List.setIfInBounds_toArray, List.set_cons_zero, List.set_cons_succ]
          refine wpAnyR_take (fun W' : World => W'.cell? ⟨rb, 2, none⟩ = some (.slice pd r2.length qd)) (i := 11) (v := .agg #[.int .i64 i, .int .i64 s]) (fun j => decide (23 ≤ j)) rfl (by kernel_rfl) (by kernel_rfl) (by kernel_rfl) (by kernel_rfl) rfl (by kernel_rfl) (fun _ _ _ h => h) (fun j w hb hR => hR (blk_lt hb (by omega))) (fun w hS _ => hS) (.inl ⟨by rfl, fun w hS => ?x11⟩) hS0 ?_
          case x11 => go_simp
          try simp only [Act.put, List.getElem_toArray, List.getElem_cons_zero, List.getElem_cons_succ, List.setIfInBounds_toArray, List.set_cons_zero, List.set_cons_succ]
          refine wpAnyR_take (fun W' : World => W'.cell? ⟨rb, 2, none⟩ = some (.slice pd r2.length qd)) (i := 14) (v := .pointer (some ⟨rb, 0, none⟩)) (fun j => decide (23 ≤ j)) rfl (by kernel_rfl) (by kernel_rfl) (by kernel_rfl) (by kernel_rfl) rfl (by kernel_rfl) (fun _ _ _ h => h) (fun j w hb hR => hR (blk_lt hb (by omega))) (fun w hS _ => hS) (.inl ⟨by rfl, fun w hS => ?x14⟩) hS0 ?_
          case x14 => go_simp
          try simp only [Act.put, List.getElem_toArray, List.getElem_cons_zero, List.getElem_cons_succ, List.setIfInBounds_toArray, List.set_cons_zero, List.set_cons_succ]
          refine wpAnyR_take (fun W' : World => W'.cell? ⟨rb, 2, none⟩ = some (.slice pd r2.length qd)) (i := 15) (v := .pointer (some ⟨rb, 0, none⟩)) (fun j => decide (23 ≤ j)) rfl (by kernel_rfl) (by kernel_rfl) (by kernel_rfl) (by kernel_rfl) rfl (by kernel_rfl) (fun _ _ _ h => h) (fun j w hb hR => hR (blk_lt hb (by omega))) (fun w hS _ => hS) (.inl ⟨by rfl, fun w hS => ?x15⟩) hS0 ?_
          case x15 => go_simp
          try simp only [Act.put, List.getElem_toArray, List.getElem_cons_zero, List.getElem_cons_succ, List.setIfInBounds_toArray, List.set_cons_zero, List.set_cons_succ]
          refine wpAnyR_take (fun W' : World => W'.cell? ⟨rb, 2, none⟩ = some (.slice pd r2.length qd)) (i := 16) (v := .pointer (some ⟨rb, 2, none⟩)) (fun j => decide (23 ≤ j)) rfl (by kernel_rfl) (by kernel_rfl) (by kernel_rfl) (by kernel_rfl) rfl (by kernel_rfl) (fun _ _ _ h => h) (fun j w hb hR => hR (blk_lt hb (by omega))) (fun w hS _ => hS) (.inl ⟨by rfl, fun w hS => ?x16⟩) hS0 ?_
          case x16 => go_simp
          try simp only [Act.put, List.getElem_toArray, List.getElem_cons_zero, List.getElem_cons_succ, List.setIfInBounds_toArray, List.set_cons_zero, List.set_cons_succ]
          refine wpAnyR_take (fun W' : World => W'.cell? ⟨rb, 2, none⟩ = some (.slice pd r2.length qd)) (i := 17) (v := .slice pd r2.length qd) (fun j => decide (23 ≤ j)) rfl (by kernel_rfl) (by kernel_rfl) (by kernel_rfl) (by kernel_rfl) rfl (by kernel_rfl) (fun _ _ _ h => h) (fun j w hb hR => hR (blk_lt hb (by omega))) (fun w hS _ => hS) (.inl ⟨by rfl, fun w hS => ?x17⟩) hS0 ?_
          case x17 => go_simp
          try simp only [Act.put, List.getElem_toArray, List.getElem_cons_zero, List.getElem_cons_succ, List.setIfInBounds_toArray, List.set_cons_zero, List.set_cons_succ]
          refine wpAnyR_take (fun W' : World => W'.cell? ⟨rb, 2, none⟩ = some (.slice pd r2.length qd)) (i := 18) (v := .int .i64 (k : Int)) (fun j => decide (23 ≤ j)) rfl (by kernel_rfl) (by kernel_rfl) (by kernel_rfl) (by kernel_rfl) rfl (by kernel_rfl) (fun _ _ _ h => h) (fun j w hb hR => hR (blk_lt hb (by omega))) (fun w hS _ => hS) (.inl ⟨by rfl, fun w hS => ?x18⟩) hS0 ?_
          case x18 => go_simp
          try simp only [Act.put, List.getElem_toArray, List.getElem_cons_zero, List.getElem_cons_succ, List.setIfInBounds_toArray, List.set_cons_zero, List.set_cons_succ]
          refine wpAnyR_take (fun W' : World => W'.cell? ⟨rb, 2, none⟩ = some (.slice pd r2.length qd)) (i := 19) (v := sliced pd k r2.length qd 2) (fun j => decide (23 ≤ j)) rfl (by kernel_rfl) (by kernel_rfl) (by kernel_rfl) (by kernel_rfl) rfl (by kernel_rfl) (fun _ _ _ h => h) (fun j w hb hR => hR (blk_lt hb (by omega))) (fun w hS _ => hS) (.inl ⟨by rfl, fun w hS => ?x19⟩) hS0 ?_
          case x19 => go_simp
          try simp only [Act.put, List.getElem_toArray, List.getElem_cons_zero, List.getElem_cons_succ, List.setIfInBounds_toArray, List.set_cons_zero, List.set_cons_succ]
          have hrl : rb < W3.heap.size := (Array.getElem?_eq_some_iff.1 hR3.blk).1
          have hcS : ∀ w', Below W3.heap.size W3 w' → w'.cell? ⟨rb, 2, none⟩ = some (.slice pd r2.length qd) := fun w' hb => (hb.cell (p := ⟨rb, 2, none⟩) hrl).trans hR3.c2
          refine wpAnyR_ready (rs := [1, 12]) (by kernel_rfl) (by simp) ?_
          have hE1 : Below W3.heap.size W3 (W3.drew.alloc (.cells #[] 98)) := (Below.refl _ W3).drew.alloc (Nat.le_refl _) _
          have hT1 : Below W3.heap.size W3 (W3.drew.alloc (.cells #[.int .i64 i, .int .i64 s] 98)) := (Below.refl _ W3).drew.alloc (Nat.le_refl _) _
          refine AllR.value rfl (by rfl) (v := .slice (some ⟨W3.heap.size, 0, none⟩) 0 0) (w' := W3.drew.alloc (.cells #[] 98)) ?x1 (fun _ => hcS _ hE1) ?n1 (AllR.value rfl (by rfl) (v := .slice (some ⟨W3.heap.size, 0, none⟩) 1 1) (w' := W3.drew.alloc (.cells #[.int .i64 i, .int .i64 s] 98)) ?x12 (fun _ => hcS _ hT1) ?n12 AllR.nil)
          case x1 => go_simp
          case x12 => go_simp
          case n1 =>
           try simp only [Act.put, List.getElem_toArray, List.getElem_cons_zero, List.getElem_cons_succ, List.setIfInBounds_toArray, List.set_cons_zero, List.set_cons_succ]
           refine wpAnyR_ready (rs := [8, 12]) (by kernel_rfl) (by simp) ?_
           refine AllR.appendS rfl (by rfl) rfl (b0 := W3.heap.size) (n := 0) (m := k) (xs := []) (news := flat (r2.take k)) (v := .slice (some ⟨W3.heap.size, 0, none⟩) 0 0) (y := sliced pd 0 k qd 2) (by rfl) (World.ownsRow_lit W3.drew #[] 0 (Nat.le_refl _) (Nat.zero_le _) rfl) (by rfl) (HT.out.below hE1) (flat_cell _) (by omega) hE1.size (fun va w1 own1 g1 _ => ?_) ?m12
           rw [Nat.zero_add, List.nil_append] at own1
           have hB1 : Below W3.heap.size W3 w1 := hE1.grown g1 hE1.size (fun j e => by simp [Value.ownBlock] at e; omega)
           obtain ⟨pa, qa, rfl⟩ : ∃ p c, va = .slice p k c := by
            rcases own1.2 with ⟨e, hn0⟩ | ⟨g', cap', cur', e, _⟩
            ·exact ⟨none, 0, by rw [e, hn0]⟩
            ·exact ⟨_, _, e⟩
           refine ⟨fun _ => hcS _ hB1, ?_⟩
           try simp only [Act.put, List.getElem_toArray, List.getElem_cons_zero, List.getElem_cons_succ, List.setIfInBounds_toArray, List.set_cons_zero, List.set_cons_succ]
           refine wpAnyR_ready (rs := [12]) (by kernel_rfl) (by simp) ?_
           have hB1t : Below W3.heap.size W3 (w1.alloc (.cells #[.int .i64 i, .int .i64 s] 98)) := hB1.alloc hB1.size _
           refine AllR.value rfl (by rfl) (v := .slice (some ⟨w1.heap.size, 0, none⟩) 1 1) (w' := w1.alloc (.cells #[.int .i64 i, .int .i64 s] 98)) ?y12 (fun _ => hcS _ hB1t) ?z12 AllR.nil
           case y12 => go_simp
           case z12 =>
            try simp only [Act.put, List.getElem_toArray, List.getElem_cons_zero, List.getElem_cons_succ, List.setIfInBounds_toArray, List.set_cons_zero, List.set_cons_succ]
            refine wpAnyR_ready (rs := [13]) (by kernel_rfl) (by simp) ?_
            refine AllR.appendS rfl (by rfl) rfl (b0 := W3.heap.size) (n := k) (m := 1) (xs := flat (r2.take k)) (news := flat [(i, s)]) (v := .slice pa k qa) (by rfl) ((Far.none w1).row (World.grownBy_alloc _ _ none) own1) (by rfl) (.inr ⟨⟨w1.heap.size, 0, none⟩, 1, rfl, rfl, cells_two w1 _ _ _⟩) (flat_cell _) (by omega) hB1t.size (fun vb w2 own2 g2 _ => ?_) AllR.nil
            have hB2 : Below W3.heap.size W3 w2 := hB1t.grown g2 hB1t.size (fun j e => row_lo own1 e)
            obtain ⟨pb, qb, rfl⟩ : ∃ p c, vb = .slice p (k + 1) c := by
             rcases own2.2 with ⟨e, hn0⟩ | ⟨g', cap', cur', e, _⟩
             ·omega
             ·exact ⟨_, _, e⟩
            refine ⟨fun _ => hcS _ hB2, ?_⟩
            try simp only [Act.put, List.getElem_toArray, List.getElem_cons_zero, List.getElem_cons_succ, List.setIfInBounds_toArray, List.set_cons_zero, List.set_cons_succ]
            refine wpAnyR_ready (rs := [20]) (by kernel_rfl) (by simp) ?_
            refine AllR.appendS rfl (by rfl) rfl (b0 := W3.heap.size) (n := k + 1) (m := r2.length - k) (xs := flat (r2.take k) ++ flat [(i, s)]) (news := flat (r2.drop k)) (v := .slice pb (k + 1) qb) (y := sliced pd k r2.length qd 2) (by rfl) own2 (by rfl) (HD.out.below hB2) (flat_cell _) (by omega) hB2.size (fun vc w3 own3 g3 _ => ?_) AllR.nil
            have hB3 : Below W3.heap.size W3 w3 := hB2.grown g3 hB2.size (fun j e => row_lo own2 e)
            have hlen3 : k + 1 + (r2.length - k) = (ins i s r2).length := by rw [length_ins]; omega
            have hfl3 : flat (r2.take k) ++ flat [(i, s)] ++ flat (r2.drop k) = flat (ins i s r2) := by rw [HI.out, flat_append, List.append_assoc]; rfl
            rw [hlen3, hfl3] at own3
            obtain ⟨pc3, qc3, rfl⟩ : ∃ p c, vc = .slice p (ins i s r2).length c := by
             rcases own3.2 with ⟨e, hn0⟩ | ⟨g', cap', cur', e, _⟩
             ·exact ⟨none, 0, by rw [e, hn0]⟩
             ·exact ⟨_, _, e⟩
            have hput := hR3.put hB3 own3 (by rw [length_ins]; omega)
            have c3 := hcS _ hB3
            have f3 : w3.frozen? ⟨rb, 2, none⟩ = false := (hB3.frozen (p := ⟨rb, 2, none⟩) hrl).trans hR3.f2
            refine ⟨fun _ => c3, ?_⟩
            try simp only [Act.put, List.getElem_toArray, List.getElem_cons_zero, List.getElem_cons_succ, List.setIfInBounds_toArray, List.set_cons_zero, List.set_cons_succ]
            refine wpAnyR_ready (rs := [21]) (by kernel_rfl) (by simp) ?_
            refine AllR.value rfl (by rfl) (v := .pointer (some ⟨rb, 0, none⟩)) (w' := w3) ?x21 (fun _ => c3) ?q21 AllR.nil
            case x21 =>
             clear hput
             go_simp
            case q21 =>
             try simp only [Act.put, List.getElem_toArray, List.getElem_cons_zero, List.getElem_cons_succ, List.setIfInBounds_toArray, List.set_cons_zero, List.set_cons_succ]
             refine wpAnyR_ready (rs := [22]) (by kernel_rfl) (by simp) ?_
             refine AllR.value rfl (by rfl) (v := .pointer (some ⟨rb, 2, none⟩)) (w' := w3) ?x22 (fun _ => c3) ?q22 AllR.nil
             case x22 =>
              clear hput
              go_simp
             case q22 =>
              try simp only [Act.put, List.getElem_toArray, List.getElem_cons_zero, List.getElem_cons_succ, List.setIfInBounds_toArray, List.set_cons_zero, List.set_cons_succ]
              refine wpAnyR_ready (rs := [23]) (by kernel_rfl) (by simp) ?_
              refine AllR.skip rfl (by rfl) (w' := w3.setCell ⟨rb, 2, none⟩ (.slice pc3 (ins i s r2).length qc3)) ?x23 (fun h => absurd h (by omega)) ?q23 AllR.nil
              case x23 =>
               clear hput
               go_simp
              case q23 =>
               refine wpAnyR_done (by kernel_rfl) ?_
               try simp only [Act.put, List.getElem_toArray, List.getElem_cons_zero, List.getElem_cons_succ, List.setIfInBounds_toArray, List.set_cons_zero, List.set_cons_succ]
               have HP := Lib.hid hput
               clear hput
               go_wp2
               all_goals go_ret2
               all_goals exact ⟨rfl, _, HP.out.1, ((below_grown hB (some rb)).trans hg3).trans HP.out.2⟩
           case m12 =>
            have hET : Below W3.heap.size W3 ((W3.drew.alloc (.cells #[] 98)).alloc (.cells #[.int .i64 i, .int .i64 s] 98)) := hE1.alloc hE1.size _
            refine AllR.value rfl (by rfl) (v := .slice (some ⟨W3.heap.size + 1, 0, none⟩) 1 1) (w' := (W3.drew.alloc (.cells #[] 98)).alloc (.cells #[.int .i64 i, .int .i64 s] 98)) ?y12 (fun _ => hcS _ hET) ?z12 AllR.nil
            case y12 => go_simp
            case z12 =>
             try simp only [Act.put, List.getElem_toArray, List.getElem_cons_zero, List.getElem_cons_succ, List.setIfInBounds_toArray, List.set_cons_zero, List.set_cons_succ]
             refine wpAnyR_ready (rs := [8]) (by kernel_rfl) (by simp) ?_
             have hct := cells_two (W3.drew.alloc (.cells #[] 98)) (.int .i64 i) (.int .i64 s) 98
             rw [show ((W3.drew.alloc (.cells #[] 98))).heap.size = W3.heap.size + 1 by simp] at hct
             refine AllR.appendS rfl (by rfl) rfl (b0 := W3.heap.size) (n := 0) (m := k) (xs := []) (news := flat (r2.take k)) (v := .slice (some ⟨W3.heap.size, 0, none⟩) 0 0) (y := sliced pd 0 k qd 2) (by rfl) ((Far.none _).row (World.grownBy_alloc (W3.drew.alloc (.cells #[] 98)) (.cells #[.int .i64 i, .int .i64 s] 98) none) (World.ownsRow_lit W3.drew #[] 0 (Nat.le_refl _) (Nat.zero_le _) rfl)) (by rfl) (HT.out.below hET) (flat_cell _) (by omega) hET.size (fun va w1 own1 g1 _ => ?_) AllR.nil
             rw [Nat.zero_add, List.nil_append] at own1
             have hB1 : Below W3.heap.size W3 w1 := hET.grown g1 hET.size (fun j e => by simp [Value.ownBlock] at e; omega)
             obtain ⟨pa, qa, rfl⟩ : ∃ p c, va = .slice p k c := by
              rcases own1.2 with ⟨e, hn0⟩ | ⟨g', cap', cur', e, _⟩
              ·exact ⟨none, 0, by rw [e, hn0]⟩
              ·exact ⟨_, _, e⟩
             refine ⟨fun _ => hcS _ hB1, ?_⟩
             try simp only [Act.put, List.getElem_toArray, List.getElem_cons_zero, List.getElem_cons_succ, List.setIfInBounds_toArray, List.set_cons_zero, List.set_cons_succ]
             refine wpAnyR_ready (rs := [13]) (by kernel_rfl) (by simp) ?_
             refine AllR.appendS rfl (by rfl) rfl (b0 := W3.heap.size) (n := k) (m := 1) (xs := flat (r2.take k)) (news := flat [(i, s)]) (v := .slice pa k qa) (by rfl) own1 (by rfl) (.inr ⟨⟨W3.heap.size + 1, 0, none⟩, 1, rfl, rfl, fun j u hj => g1.cell (hct j u hj) (by rw [Value.ownBlock]; intro e; have := Option.some.inj e; revert this; cases j <;> simp [Addr.add])⟩) (flat_cell _) (by omega) hB1.size (fun vb w2 own2 g2 _ => ?_) AllR.nil
             have hB2 : Below W3.heap.size W3 w2 := hB1.grown g2 hB1.size (fun j e => row_lo own1 e)
             obtain ⟨pb, qb, rfl⟩ : ∃ p c, vb = .slice p (k + 1) c := by
              rcases own2.2 with ⟨e, hn0⟩ | ⟨g', cap', cur', e, _⟩
              ·omega
              ·exact ⟨_, _, e⟩
             refine ⟨fun _ => hcS _ hB2, ?_⟩
             try simp only [Act.put, List.getElem_toArray, List.getElem_cons_zero, List.getElem_cons_succ, List.setIfInBounds_toArray, List.set_cons_zero, List.set_cons_succ]
             refine wpAnyR_ready (rs := [20]) (by kernel_rfl) (by simp) ?_
             refine AllR.appendS rfl (by rfl) rfl (b0 := W3.heap.size) (n := k + 1) (m := r2.length - k) (xs := flat (r2.take k) ++ flat [(i, s)]) (news := flat (r2.drop k)) (v := .slice pb (k + 1) qb) (y := sliced pd k r2.length qd 2) (by rfl) own2 (by rfl) (HD.out.below hB2) (flat_cell _) (by omega) hB2.size (fun vc w3 own3 g3 _ => ?_) AllR.nil
             have hB3 : Below W3.heap.size W3 w3 := hB2.grown g3 hB2.size (fun j e => row_lo own2 e)
             have hlen3 : k + 1 + (r2.length - k) = (ins i s r2).length := by rw [length_ins]; omega
             have hfl3 : flat (r2.take k) ++ flat [(i, s)] ++ flat (r2.drop k) = flat (ins i s r2) := by rw [HI.out, flat_append, List.append_assoc]; rfl
             rw [hlen3, hfl3] at own3
             obtain ⟨pc3, qc3, rfl⟩ : ∃ p c, vc = .slice p (ins i s r2).length c := by
              rcases own3.2 with ⟨e, hn0⟩ | ⟨g', cap', cur', e, _⟩
              ·exact ⟨none, 0, by rw [e, hn0]⟩
              ·exact ⟨_, _, e⟩
             have hput := hR3.put hB3 own3 (by rw [length_ins]; omega)
             have c3 := hcS _ hB3
             have f3 : w3.frozen? ⟨rb, 2, none⟩ = false := (hB3.frozen (p := ⟨rb, 2, none⟩) hrl).trans hR3.f2
             refine ⟨fun _ => c3, ?_⟩
             try simp only [Act.put, List.getElem_toArray, List.getElem_cons_zero, List.getElem_cons_succ, List.setIfInBounds_toArray, List.set_cons_zero, List.set_cons_succ]
             refine wpAnyR_ready (rs := [21]) (by kernel_rfl) (by simp) ?_
             refine AllR.value rfl (by rfl) (v := .pointer (some ⟨rb, 0, none⟩)) (w' := w3) ?x21 (fun _ => c3) ?q21 AllR.nil
             case x21 =>
              clear hput
              go_simp
             case q21 =>
              try simp only [Act.put, List.getElem_toArray, List.getElem_cons_zero, List.getElem_cons_succ, List.setIfInBounds_toArray, List.set_cons_zero, List.set_cons_succ]
              refine wpAnyR_ready (rs := [22]) (by kernel_rfl) (by simp) ?_
              refine AllR.value rfl (by rfl) (v := .pointer (some ⟨rb, 2, none⟩)) (w' := w3) ?x22 (fun _ => c3) ?q22 AllR.nil
              case x22 =>
               clear hput
               go_simp
              case q22 =>
               try simp only [Act.put, List.getElem_toArray, List.getElem_cons_zero, List.getElem_cons_succ, List.setIfInBounds_toArray, List.set_cons_zero, List.set_cons_succ]
               refine wpAnyR_ready (rs := [23]) (by kernel_rfl) (by simp) ?_
               refine AllR.skip rfl (by rfl) (w' := w3.setCell ⟨rb, 2, none⟩ (.slice pc3 (ins i s r2).length qc3)) ?x23 (fun h => absurd h (by omega)) ?q23 AllR.nil
               case x23 =>
                clear hput
                go_simp
               case q23 =>
                refine wpAnyR_done (by kernel_rfl) ?_
                try simp only [Act.put, List.getElem_toArray, List.getElem_cons_zero, List.getElem_cons_succ, List.setIfInBounds_toArray, List.set_cons_zero, List.set_cons_succ]
                have HP := Lib.hid hput
                clear hput
                go_wp2
                all_goals go_ret2
                all_goals exact ⟨rfl, _, HP.out.1, ((below_grown hB (some rb)).trans hg3).trans HP.out.2⟩
          case n12 =>
           try simp only [Act.put, List.getElem_toArray, List.getElem_cons_zero, List.getElem_cons_succ, List.setIfInBounds_toArray, List.set_cons_zero, List.set_cons_succ]
           refine wpAnyR_ready (rs := [1]) (by kernel_rfl) (by simp) ?_
           have hTE : Below W3.heap.size W3 ((W3.drew.alloc (.cells #[.int .i64 i, .int .i64 s] 98)).alloc (.cells #[] 98)) := hT1.alloc hT1.size _
           refine AllR.value rfl (by rfl) (v := .slice (some ⟨W3.heap.size + 1, 0, none⟩) 0 0) (w' := (W3.drew.alloc (.cells #[.int .i64 i, .int .i64 s] 98)).alloc (.cells #[] 98)) ?y1 (fun _ => hcS _ hTE) ?z1 AllR.nil
           case y1 => go_simp
           case z1 =>
            try simp only [Act.put, List.getElem_toArray, List.getElem_cons_zero, List.getElem_cons_succ, List.setIfInBounds_toArray, List.set_cons_zero, List.set_cons_succ]
            refine wpAnyR_ready (rs := [8]) (by kernel_rfl) (by simp) ?_
            have hct := cells_two W3.drew (.int .i64 i) (.int .i64 s) 98
            have hct2 : ∀ j u, [Value.int .i64 i, .int .i64 s][j]? = some u → ((W3.drew.alloc (.cells #[.int .i64 i, .int .i64 s] 98)).alloc (.cells #[] 98)).cell? ((⟨W3.heap.size, 0, none⟩ : Addr).add j) = some u := fun j u hj => cell_kept (hct j u hj) (World.grownBy_alloc (W3.drew.alloc (.cells #[.int .i64 i, .int .i64 s] 98)) (.cells #[] 98) none) (fun r e => by cases e)
            refine AllR.appendS rfl (by rfl) rfl (b0 := W3.heap.size) (n := 0) (m := k) (xs := []) (news := flat (r2.take k)) (v := .slice (some ⟨W3.heap.size + 1, 0, none⟩) 0 0) (y := sliced pd 0 k qd 2) (by rfl) (by have := World.ownsRow_lit (W3.drew.alloc (.cells #[.int .i64 i, .int .i64 s] 98)) #[] (base := W3.heap.size) (e := 98) (size := 2) 0 (by simp) (Nat.zero_le _) rfl; simpa using this) (by rfl) (HT.out.below hTE) (flat_cell _) (by omega) hTE.size (fun va w1 own1 g1 _ => ?_) AllR.nil
            rw [Nat.zero_add, List.nil_append] at own1
            have hB1 : Below W3.heap.size W3 w1 := hTE.grown g1 hTE.size (fun j e => by simp [Value.ownBlock] at e; omega)
            obtain ⟨pa, qa, rfl⟩ : ∃ p c, va = .slice p k c := by
             rcases own1.2 with ⟨e, hn0⟩ | ⟨g', cap', cur', e, _⟩
             ·exact ⟨none, 0, by rw [e, hn0]⟩
             ·exact ⟨_, _, e⟩
            refine ⟨fun _ => hcS _ hB1, ?_⟩
            try simp only [Act.put, List.getElem_toArray, List.getElem_cons_zero, List.getElem_cons_succ, List.setIfInBounds_toArray, List.set_cons_zero, List.set_cons_succ]
            refine wpAnyR_ready (rs := [13]) (by kernel_rfl) (by simp) ?_
            refine AllR.appendS rfl (by rfl) rfl (b0 := W3.heap.size) (n := k) (m := 1) (xs := flat (r2.take k)) (news := flat [(i, s)]) (v := .slice pa k qa) (by rfl) own1 (by rfl) (.inr ⟨⟨W3.heap.size, 0, none⟩, 1, rfl, rfl, fun j u hj => g1.cell (hct2 j u hj) (by rw [Value.ownBlock]; intro e; have := Option.some.inj e; revert this; cases j <;> simp [Addr.add])⟩) (flat_cell _) (by omega) hB1.size (fun vb w2 own2 g2 _ => ?_) AllR.nil
            have hB2 : Below W3.heap.size W3 w2 := hB1.grown g2 hB1.size (fun j e => row_lo own1 e)
            obtain ⟨pb, qb, rfl⟩ : ∃ p c, vb = .slice p (k + 1) c := by
             rcases own2.2 with ⟨e, hn0⟩ | ⟨g', cap', cur', e, _⟩
             ·omega
             ·exact ⟨_, _, e⟩
            refine ⟨fun _ => hcS _ hB2, ?_⟩
            try simp only [Act.put, List.getElem_toArray, List.getElem_cons_zero, List.getElem_cons_succ, List.setIfInBounds_toArray, List.set_cons_zero, List.set_cons_succ]
            refine wpAnyR_ready (rs := [20]) (by kernel_rfl) (by simp) ?_
            refine AllR.appendS rfl (by rfl) rfl (b0 := W3.heap.size) (n := k + 1) (m := r2.length - k) (xs := flat (r2.take k) ++ flat [(i, s)]) (news := flat (r2.drop k)) (v := .slice pb (k + 1) qb) (y := sliced pd k r2.length qd 2) (by rfl) own2 (by rfl) (HD.out.below hB2) (flat_cell _) (by omega) hB2.size (fun vc w3 own3 g3 _ => ?_) AllR.nil
            have hB3 : Below W3.heap.size W3 w3 := hB2.grown g3 hB2.size (fun j e => row_lo own2 e)
            have hlen3 : k + 1 + (r2.length - k) = (ins i s r2).length := by rw [length_ins]; omega
            have hfl3 : flat (r2.take k) ++ flat [(i, s)] ++ flat (r2.drop k) = flat (ins i s r2) := by rw [HI.out, flat_append, List.append_assoc]; rfl
            rw [hlen3, hfl3] at own3
            obtain ⟨pc3, qc3, rfl⟩ : ∃ p c, vc = .slice p (ins i s r2).length c := by
             rcases own3.2 with ⟨e, hn0⟩ | ⟨g', cap', cur', e, _⟩
             ·exact ⟨none, 0, by rw [e, hn0]⟩
             ·exact ⟨_, _, e⟩
            have hput := hR3.put hB3 own3 (by rw [length_ins]; omega)
            have c3 := hcS _ hB3
            have f3 : w3.frozen? ⟨rb, 2, none⟩ = false := (hB3.frozen (p := ⟨rb, 2, none⟩) hrl).trans hR3.f2
            refine ⟨fun _ => c3, ?_⟩
            try simp only [Act.put, List.getElem_toArray, List.getElem_cons_zero, List.getElem_cons_succ, List.setIfInBounds_toArray, List.set_cons_zero, List.set_cons_succ]
            refine wpAnyR_ready (rs := [21]) (by kernel_rfl) (by simp) ?_
            refine AllR.value rfl (by rfl) (v := .pointer (some ⟨rb, 0, none⟩)) (w' := w3) ?x21 (fun _ => c3) ?q21 AllR.nil
            case x21 =>
             clear hput
             go_simp
            case q21 =>
             try simp only [Act.put, List.getElem_toArray, List.getElem_cons_zero, List.getElem_cons_succ, List.setIfInBounds_toArray, List.set_cons_zero, List.set_cons_succ]
             refine wpAnyR_ready (rs := [22]) (by kernel_rfl) (by simp) ?_
             refine AllR.value rfl (by rfl) (v := .pointer (some ⟨rb, 2, none⟩)) (w' := w3) ?x22 (fun _ => c3) ?q22 AllR.nil
             case x22 =>
              clear hput
              go_simp
             case q22 =>
              try simp only [Act.put, List.getElem_toArray, List.getElem_cons_zero, List.getElem_cons_succ, List.setIfInBounds_toArray, List.set_cons_zero, List.set_cons_succ]
              refine wpAnyR_ready (rs := [23]) (by kernel_rfl) (by simp) ?_
              refine AllR.skip rfl (by rfl) (w' := w3.setCell ⟨rb, 2, none⟩ (.slice pc3 (ins i s r2).length qc3)) ?x23 (fun h => absurd h (by omega)) ?q23 AllR.nil
              case x23 =>
               clear hput
               go_simp
              case q23 =>
               refine wpAnyR_done (by kernel_rfl) ?_
               try simp only [Act.put, List.getElem_toArray, List.getElem_cons_zero, List.getElem_cons_succ, List.setIfInBounds_toArray, List.set_cons_zero, List.set_cons_succ]
               have HP := Lib.hid hput
               clear hput
               go_wp2
               all_goals go_ret2
               all_goals exact ⟨rfl, _, HP.out.1, ((below_grown hB (some rb)).trans hg3).trans HP.out.2⟩
end Go.St
/- The document's store, walked: Offer, all cases. -/
namespace Go.St
open Go Go.Proofs Go.RowKit Go.Maps Go.Shelf Go.Ev
set_option maxRecDepth 100000 in
set_option maxHeartbeats 4000000 in
theorem roffer_none {w : World} {rb : Nat} {d room i s : Int} {r : List (Int × Int)} {v : Value} (h : RAt w rb d room r v) (hd : 1 ≤ d) (hi0 : 0 ≤ i) (hs0 : 0 ≤ s) (hm : i % d = 0) (hn : has i r = false) (hlt : (r.length : Int) = room) {p0 : Int × Int} (h0 : r[0]? = some p0) (hp0 : p0.1 = 0) (hr1 : r.length = 1) :
  Calls Tryz.prog 19 #[.pointer (some ⟨rb, 0, none⟩), .int .i64 i, .int .i64 s] w (Quiet w false 0) := by
 have hro1 : room = 1 := by omega
 subst hro1
 have HR1 := Lib.hid hr1
 clear hr1
 have hv := rvalid_ok rb d w h.c0 hd
 have c0 := h.c0
 have c1 := h.c1
 have c2 := h.c2
 have hd0 : ¬ d = 0 := by omega
 have hi1 : ¬ i < 0 := by omega
 have hs1 : ¬ s < 0 := by omega
 obtain ⟨ps, pc, hsl⟩ := h.slice
 obtain ⟨pp, qq, rfl⟩ : ∃ p c, v = .slice p r.length c := ⟨ps, pc, hsl⟩
 cases hsl
 go_enter Tryz.func19, Tryz.ntmps19
 go_wp2_with (go_at_call 38; refine hv.mono ?_; rintro e w' ⟨rfl, rfl⟩)
 go_loop [8] (fun x => ∃ j : Nat, j ≤ r.length ∧ x = .int .i64 j) (fun x => r.length - (RowKit.intOf x).toNat)
 case atStart => exact ⟨0, by omega, rfl⟩
 case round =>
  obtain ⟨j, hj, rfl⟩ := hrel
  by_cases hjl : j < r.length
  ·have hp : r[j]? = some r[j] := by simp [hjl]
   generalize r[j] = p at hp
   obtain ⟨g, cap, e, k0, k1⟩ := h.item hp
   have e0 := Value.slice.inj e
   obtain ⟨rfl, _, rfl⟩ := e0
   have hne : ¬ p.1 = i := fun e => by
    rw [has_places.2 ⟨j, p, hp, e⟩] at hn; cases hn
   have b0 : (0 : Int) ≤ (j : Int) := by omega
   have b1 : (j : Int) < (r.length : Int) := by omega
   clear hp h hn e
   go_wp2
   go_round
   case rel => exact ⟨j + 1, by omega, int_congr (by omega)⟩
   case measure => simp [RowKit.intOf]; omega
  ·have hje : j = r.length := by omega
   subst hje
   have hfull : (r.length : Int) = 1 := hlt
   obtain ⟨g, cap, e, k00, k01⟩ := h.item h0
   obtain ⟨rfl, e9, rfl⟩ := Value.slice.inj e
   clear e e9
   have k00' : w.cell? ⟨g, 0, none⟩ = some (.int .i64 p0.1) := k00
   have bl : (0 : Int) < (r.length : Int) := by omega
   have HN := Lib.hid hn
   clear hn
   go_wp2
   go_quiet (fail)
   go_wp2
   go_ret2
   exact ⟨rfl, _, rfl⟩
/-- Offer, every case in which the arguments are good -/
theorem roffer_ok {w : World} {rb : Nat} {d room i s : Int} {r : List (Int × Int)} {v : Value} (h : RAt w rb d room r v) (hd : 1 ≤ d) (hi0 : 0 ≤ i) (hs0 : 0 ≤ s) (hf : r.length ≤ 4095) (hro : (r.length : Int) ≤ room) (hr1 : 1 ≤ room) :
  Calls Tryz.prog 19 #[.pointer (some ⟨rb, 0, none⟩), .int .i64 i, .int .i64 s] w (ROfferE w rb d room (offer d room i s r)) := by
 have hq : ∀ e w', Quiet w false 0 e w' → ROfferE w rb d room (false, r) e w' := by
  rintro e w' ⟨rfl, k, rfl⟩
  exact ⟨rfl, v, h.far (drewN_grown w k none) (by simp) (by simp), drewN_grown w k _⟩
 have ht : i.tmod d = i % d := Int.tmod_eq_emod_of_nonneg hi0
 unfold offer
 rw [ht]
 by_cases hm : i % d = 0
 ·rw [if_neg (by simpa using hm)]
  by_cases hh : has i r = true
  ·rw [if_pos hh]
   exact (roffer_has h hd hs0 hi0 hm hh).mono hq
  ·rw [if_neg hh]
   have hn : has i r = false := by simpa using hh
   by_cases hlt : (r.length : Int) < room
   ·rw [if_pos hlt]
    exact roffer_ins h hd hi0 hs0 hm hn hlt hf
   ·rw [if_neg hlt]
    have he : (r.length : Int) = room := by omega
    cases r with
    | nil => simp at he; omega
    | cons p t =>
     obtain ⟨k, y⟩ := p
     rw [less_places]
     by_cases hk : k = 0
     ·rw [if_pos hk]
      by_cases htn : t = []
      ·rw [if_pos htn]
       subst htn
       exact (roffer_none h hd hi0 hs0 hm hn he (p0 := (k, y)) rfl hk rfl).mono hq
      ·rw [if_neg htn]
       obtain ⟨q, u, rfl⟩ : ∃ q u, t = q :: u := by cases t with | nil => exact absurd rfl htn | cons q u => exact ⟨q, u, rfl⟩
       refine roffer_drop1 h hd hi0 hs0 hm hn he hf (p0 := (k, y)) rfl hk (r2 := ((k, y) :: q :: u).take 1 ++ ((k, y) :: q :: u).drop 2) ?_ ?_ ?_
       all_goals first | (simp; done) | (rw [flat_append])
     ·rw [if_neg hk]
      refine roffer_drop0 h hd hi0 hs0 hm hn he hf (p0 := (k, y)) rfl hk (r2 := ((k, y) :: t).take 0 ++ ((k, y) :: t).drop 1) ?_ ?_
      all_goals first | (simp; done) | (rw [flat_append])
 ·rw [if_pos (by simpa using hm)]
  exact (roffer_odd h hd hs0 hi0 hm).mono hq
end Go.St
