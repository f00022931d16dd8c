/- StorePlays: the law's walk, whole. -/
import Derived.Test.YtlgngfiiaoodjaaGreatDoorStPlayss
import Derived.Deep.Slices
import Derived.ChangeSlices
import Derived.WideShapes
import Derived.ChangeShapes
import Derived.Carry
import Derived.Deep.Fields
set_option linter.unusedVariables false
set_option linter.unusedSimpArgs false
/- StorePlays: the law's walk, whole. -/
namespace Go.St
open Go Go.Proofs Go.RowKit Go.Maps Go.Shelf Go.Ev
theorem add_at (p : Addr) (n : Nat) : p.add (n + 1) = ⟨p.block, p.off + (n + 1), none⟩ := by simp [Addr.add]
theorem bool_nsame (b : Bool) (W : World) : (binOp .neq 4 (.bool b) (.bool b)).run Tryz.prog W = .ok (.bool false) W := by cases b <;> simp [go_sem]
set_option maxRecDepth 100000 in
set_option maxHeartbeats 4000000 in
theorem plays_short {w : World} (hw : ∀ W, Below w.heap.size w W → Calls Tryz.prog 13 #[] W (WorksE W)) (hsn : ∀ W, Below w.heap.size w W → Calls Tryz.prog 9 #[.int .i64 6] W (SnapsE W 6))
  {iv cp : Int} {v : Value} {us : List Stp} (hu : Stps w v us) (h60 : ¬ 60 < us.length) :
  Calls Tryz.prog 7 #[.int .i64 iv, .int .i64 cp, v] w (LawE w) := by
 have hlv := hu.len
 have hnew := new_pair w iv cp
 go_enter Tryz.func7, Tryz.ntmps7
 go_wp2_with (first
  | (go_at_call 8; refine hnew.mono ?_; rintro e W1 ⟨s, n, b, rfl, hs, hr⟩; have hr1 := hr W1 (Below.refl _ _); obtain ⟨hs1, hs2⟩ := hs; have hbb := bool_nsame b)
  | (go_at_call 18; refine hr1.mono ?_; rintro e W2 ⟨r, rfl, hrn, hB2, hts⟩; obtain ⟨hr1', hr2'⟩ := hrn; have hsn1 := hsn W2 hB2)
  | (go_at_call 9; refine hsn1.mono ?_; rintro e W3 ⟨g, c, bs, rfl, hsn', hb⟩; have ts := hts W3 g bs hb hsn'))
 clear hnew hr hr1 hs1 hs2 hbb hr1' hr2' hB2 hts hsn1 hb hsn' hsn
 go_loopw [7, 9, 12, 13, 14] (fun s r o q i wr => ∃ k : Nat, k ≤ us.length ∧ i = .int .i64 k ∧ TS w g bs s r o q wr) (fun _ _ _ _ i _ => us.length - (RowKit.intOf i).toNat)
 case atStart => exact ⟨0, by omega, rfl, ts⟩
 case round =>
  clear ts
  obtain ⟨k, hk, rfl, ts⟩ := hrel
  by_cases hlt : k < us.length
  ·rcases hu with ⟨_, hus⟩ | ⟨a, c2, rfl, hus⟩
   ·rw [hus] at hlt; simp at hlt
   ·obtain ⟨⟨c0, c1, c2⟩, hwf, hs0, hs1⟩ := hus k us[k] (by simp [hlt])
    rw [← Go.Deep.add_add, add_at _ 0] at c1
    rw [← Go.Deep.add_add, add_at _ 1] at c2
    have c0 := (ts.below.cell (World.block_lt_of_cell? _ _ c0)).trans c0
    have c1 := (ts.below.cell (World.block_lt_of_cell? _ _ c1)).trans c1
    have c2 := (ts.below.cell (World.block_lt_of_cell? _ _ c2)).trans c2
    generalize us[k] = u at c0 c1 c2 hwf hs0 hs1
    obtain ⟨ud, un, us'⟩ := u
    dsimp only at c0 c1 c2 hwf hs0 hs1
    clear hus
    have b0 : (0 : Int) ≤ (k : Int) := by omega
    have b1 : (k : Int) < (us.length : Int) := by omega
    have hX0 : ∀ W0 : World, W0 = wr.alloc (.cells #[.int .i64 ud, .int .i64 un, .int .i8 us'] 56) → TS w g bs u7 u9 u12 u13 W0 ∧ W0.heap[wr.heap.size]? = some (Obj.cells #[.int .i64 ud, .int .i64 un, .int .i8 us'] 56 (0, 0)) := by
     rintro W0 rfl
     exact ⟨ts.belowW ((Below.refl _ wr).alloc (Nat.le_refl _) _), World.alloc_heap_new wr _⟩
    obtain ⟨hts, hx0⟩ := hX0 _ rfl
    clear hX0
    have hcell : ∀ W1 : World, W1.heap[wr.heap.size]? = some (Obj.cells #[.int .i64 ud, .int .i64 un, .int .i8 us'] 56 (0, 0)) → W1.cell? ⟨wr.heap.size, 1, none⟩ = some (.int .i64 un) := fun W1 h => by simp [World.cell?, h]
    have hk6 : us'.tmod 6 < 6 := by
     have := Int.tmod_lt_of_pos us' (show (0 : Int) < 6 by omega)
     omega
    clear ts
    by_cases hd0 : ud = 0
    ·subst hd0
     by_cases hK : 0 ≤ us'.tmod 6
     ·have q0 := (hts.sn (us'.tmod 6).toNat (by omega)).1
      have hof := hts.offer_at hwf hK hk6
      go_wp2_with (first
       | (go_at_call 10; refine hof.mono ?_; rintro e W4 ⟨⟨b4, n4, rfl, hth⟩, hkx⟩; have hx4 := hcell W4 (hkx _ _ hx0); have hro := hth W4 (Below.refl _ _); have hb4 := bool_nsame b4)
       | (go_at_call 19; refine hro.mono ?_; rintro e W5 ⟨⟨rfl, ts5⟩, hkx5⟩; have hit := ts5.items (c := c))
       | (go_at_call 23; refine hit.mono ?_; rintro e W6 ⟨rfl, ts9⟩))
      exact ⟨⟨k + 1, by omega, int_congr (by omega), ts9⟩, by simp [RowKit.intOf]; omega⟩
     ·have hK' : us'.tmod 6 < 0 := by omega
      have hof := hts.offer_no (i := un) hK'
      go_wp2_with (first
       | (go_at_call 10; refine hof.mono ?_; rintro e W4 ⟨⟨rfl, hth⟩, hkx⟩; have hx4 := hcell W4 (hkx _ _ hx0); have hro := hth W4 (Below.refl _ _))
       | (go_at_call 19; refine hro.mono ?_; rintro e W5 ⟨⟨rfl, ts5⟩, hkx5⟩; have hit := ts5.items (c := c))
       | (go_at_call 23; refine hit.mono ?_; rintro e W6 ⟨rfl, ts9⟩))
      exact ⟨⟨k + 1, by omega, int_congr (by omega), ts9⟩, by simp [RowKit.intOf]; omega⟩
    by_cases hd1 : ud = 1
    ·subst hd1
     have hbe := hts.best un
     go_wp2_with (go_at_call 12; refine hbe.mono ?_; rintro e W4 ⟨hbp, hkx⟩; have hx4 := hcell W4 (hkx _ _ hx0); rcases hbp with ⟨a4, k4, k40, k46, rfl, hth⟩ | ⟨rfl, hth⟩)
     ·have hro := hth W4 (Below.refl _ _)
      have hpn := fun W => ptr_nsame ⟨bs k4.toNat, 0, none⟩ W
      go_wp2_with (first
       | (go_at_call 20; refine hro.mono ?_; rintro e W5 ⟨⟨rfl, ts5⟩, hkx5⟩; have hit := ts5.items (c := c); have q4 := (ts5.sn k4.toNat (by omega)).1)
       | (go_at_call 23; refine hit.mono ?_; rintro e W6 ⟨rfl, ts9⟩))
      exact ⟨⟨k + 1, by omega, int_congr (by omega), ts9⟩, by simp [RowKit.intOf]; omega⟩
     ·have hro := hth W4 (Below.refl _ _)
      go_wp2_with (first
       | (go_at_call 20; refine hro.mono ?_; rintro e W5 ⟨⟨rfl, ts5⟩, hkx5⟩; have hit := ts5.items (c := c))
       | (go_at_call 23; refine hit.mono ?_; rintro e W6 ⟨rfl, ts9⟩))
      exact ⟨⟨k + 1, by omega, int_congr (by omega), ts9⟩, by simp [RowKit.intOf]; omega⟩
    by_cases hd2 : ud = 2
    ·subst hd2
     go_wp2
     obtain ⟨W0, hW0⟩ : ∃ W0, wr.alloc (.cells #[.int .i64 2, .int .i64 un, .int .i8 us'] 56) = W0 := ⟨_, rfl⟩
     rw [hW0] at hts hx0
     have hcu := fun W (hb : Below W0.heap.size W0 W) => (hts.belowW hb).cut un
     rw [hW0]
     clear hW0
     rename_i K0 hK0
     refine wp_region_R (R := fun _ => (fun W' : World => W'.cell? ⟨wr.heap.size, 1, none⟩ = some (.int .i64 un))) (by kernel_rfl) ?_
     change wpAnyR Tryz.prog .any _ _ _ 9 (Array.replicate 9 false) _ _
     have hS0 : (fun W' : World => W'.cell? ⟨wr.heap.size, 1, none⟩ = some (.int .i64 un)) W0.drew := hcell W0 hx0
     refine wpAnyR_take (fun W' : World => W'.cell? ⟨wr.heap.size, 1, none⟩ = some (.int .i64 un)) (i := 0) (v := u7) (fun _ => false) rfl (by kernel_rfl) (by kernel_rfl) (by kernel_rfl) (by kernel_rfl) rfl (by kernel_rfl) (fun _ _ _ h => h) (fun j w _ hR => hR) (fun w hS => hS) (.inl ⟨by rfl, fun w hS => ?c0⟩) hS0 ?_
     case c0 =>
      have s1 := hS
      go_simp
     try simp only [Act.put, List.getElem_toArray, List.getElem_cons_zero, List.getElem_cons_succ, List.setIfInBounds_toArray, List.set_cons_zero, List.set_cons_succ]
     refine wpAnyR_take (fun W' : World => W'.cell? ⟨wr.heap.size, 1, none⟩ = some (.int .i64 un)) (i := 1) (v := .pointer (some ⟨wr.heap.size, 1, none⟩)) (fun _ => false) rfl (by kernel_rfl) (by kernel_rfl) (by kernel_rfl) (by kernel_rfl) rfl (by kernel_rfl) (fun _ _ _ h => h) (fun j w _ hR => hR) (fun w hS => hS) (.inl ⟨by rfl, fun w hS => ?c1⟩) hS0 ?_
     case c1 =>
      have s1 := hS
      go_simp
     try simp only [Act.put, List.getElem_toArray, List.getElem_cons_zero, List.getElem_cons_succ, List.setIfInBounds_toArray, List.set_cons_zero, List.set_cons_succ]
     refine wpAnyR_take (fun W' : World => W'.cell? ⟨wr.heap.size, 1, none⟩ = some (.int .i64 un)) (i := 2) (v := .int .i64 un) (fun _ => false) rfl (by kernel_rfl) (by kernel_rfl) (by kernel_rfl) (by kernel_rfl) rfl (by kernel_rfl) (fun _ _ _ h => h) (fun j w _ hR => hR) (fun w hS => hS) (.inl ⟨by rfl, fun w hS => ?c2⟩) hS0 ?_
     case c2 =>
      have s1 := hS
      go_simp
     try simp only [Act.put, List.getElem_toArray, List.getElem_cons_zero, List.getElem_cons_succ, List.setIfInBounds_toArray, List.set_cons_zero, List.set_cons_succ]
     refine wpAnyR_take (fun W' : World => W'.cell? ⟨wr.heap.size, 1, none⟩ = some (.int .i64 un)) (i := 4) (v := u9) (fun _ => false) rfl (by kernel_rfl) (by kernel_rfl) (by kernel_rfl) (by kernel_rfl) rfl (by kernel_rfl) (fun _ _ _ h => h) (fun j w _ hR => hR) (fun w hS => hS) (.inl ⟨by rfl, fun w hS => ?c4⟩) hS0 ?_
     case c4 =>
      have s1 := hS
      go_simp
     try simp only [Act.put, List.getElem_toArray, List.getElem_cons_zero, List.getElem_cons_succ, List.setIfInBounds_toArray, List.set_cons_zero, List.set_cons_succ]
     refine wpAnyR_take (fun W' : World => W'.cell? ⟨wr.heap.size, 1, none⟩ = some (.int .i64 un)) (i := 5) (v := .pointer (some ⟨wr.heap.size, 1, none⟩)) (fun _ => false) rfl (by kernel_rfl) (by kernel_rfl) (by kernel_rfl) (by kernel_rfl) rfl (by kernel_rfl) (fun _ _ _ h => h) (fun j w _ hR => hR) (fun w hS => hS) (.inl ⟨by rfl, fun w hS => ?c5⟩) hS0 ?_
     case c5 =>
      have s1 := hS
      go_simp
     try simp only [Act.put, List.getElem_toArray, List.getElem_cons_zero, List.getElem_cons_succ, List.setIfInBounds_toArray, List.set_cons_zero, List.set_cons_succ]
     refine wpAnyR_take (fun W' : World => W'.cell? ⟨wr.heap.size, 1, none⟩ = some (.int .i64 un)) (i := 6) (v := .int .i64 un) (fun _ => false) rfl (by kernel_rfl) (by kernel_rfl) (by kernel_rfl) (by kernel_rfl) rfl (by kernel_rfl) (fun _ _ _ h => h) (fun j w _ hR => hR) (fun w hS => hS) (.inl ⟨by rfl, fun w hS => ?c6⟩) hS0 ?_
     case c6 =>
      have s1 := hS
      go_simp
     try simp only [Act.put, List.getElem_toArray, List.getElem_cons_zero, List.getElem_cons_succ, List.setIfInBounds_toArray, List.set_cons_zero, List.set_cons_succ]
     refine wpAnyR_ready (rs := [3]) (by kernel_rfl) (by simp) ?_
     refine AllR.call rfl (by rfl) (f := 14) (args := #[u7, .int .i64 un]) (w1 := W0.drew) ?c3 (hcu W0.drew (Below.refl _ W0).drew) ?cc3 AllR.nil
     case c3 => go_simp
     case cc3 =>
      rintro e W4 ⟨⟨c4, rfl, hth⟩, hkx⟩
      have hS0 : (fun W' : World => W'.cell? ⟨wr.heap.size, 1, none⟩ = some (.int .i64 un)) W4 := hcell W4 (hkx _ _ hx0)
      refine ⟨_, rfl, hS0, ?_⟩
      try simp only [Act.put, List.getElem_toArray, List.getElem_cons_zero, List.getElem_cons_succ, List.setIfInBounds_toArray, List.set_cons_zero, List.set_cons_succ]
      refine wpAnyR_ready (rs := [7]) (by kernel_rfl) (by simp) ?_
      refine AllR.call rfl (by rfl) (f := 21) (args := #[u9, .int .i64 un]) (w1 := W4) ?c7 (hth W4 (Below.refl _ _)) ?cc7 AllR.nil
      case c7 => go_simp
      case cc7 =>
       rintro e W5 ⟨⟨rfl, ts5⟩, hkx5⟩
       have hx5 : W5.heap[wr.heap.size]? = _ := hkx5 _ _ (hkx _ _ hx0)
       have hS0 : (fun W' : World => W'.cell? ⟨wr.heap.size, 1, none⟩ = some (.int .i64 un)) W5 := hcell W5 hx5
       refine ⟨_, rfl, hS0, ?_⟩
       try simp only [Act.put, List.getElem_toArray, List.getElem_cons_zero, List.getElem_cons_succ, List.setIfInBounds_toArray, List.set_cons_zero, List.set_cons_succ]
       refine wpAnyR_take (fun W' : World => W'.cell? ⟨wr.heap.size, 1, none⟩ = some (.int .i64 un)) (i := 8) (v := .bool false) (fun _ => false) rfl (by kernel_rfl) (by kernel_rfl) (by kernel_rfl) (by kernel_rfl) rfl (by kernel_rfl) (fun _ _ _ h => h) (fun j w _ hR => hR) (fun w hS => hS) (.inl ⟨by rfl, fun w hS => ?c8⟩) hS0 ?_
       case c8 =>
        have s1 := hS
        go_simp
       try simp only [Act.put, List.getElem_toArray, List.getElem_cons_zero, List.getElem_cons_succ, List.setIfInBounds_toArray, List.set_cons_zero, List.set_cons_succ]
       refine wpAnyR_done (by kernel_rfl) ?_
       show K0 _ _
       refine hK0 _ _ ?_
       try simp only [Act.put, List.getElem_toArray, List.getElem_cons_zero, List.getElem_cons_succ, List.setIfInBounds_toArray, List.set_cons_zero, List.set_cons_succ]
       have hit := ts5.items (c := c)
       go_wp2_with (go_at_call 23; refine hit.mono ?_; rintro e W6 ⟨rfl, ts9⟩)
       exact ⟨⟨k + 1, by omega, int_congr (by omega), ts9⟩, by simp [RowKit.intOf]; omega⟩
    by_cases hd3 : ud = 3
    ·subst hd3
     have hco := hts.copy
     go_wp2_with (first
      | (go_at_call 16; refine hco.mono ?_; rintro e W4 ⟨⟨s4, rfl, hth⟩, hkx⟩; have hro := hth W4 (Below.refl _ _))
      | (go_at_call 22; refine hro.mono ?_; rintro e W5 ⟨⟨r4, rfl, ts5⟩, hkx5⟩; have hit := ts5.items (c := c))
      | (go_at_call 23; refine hit.mono ?_; rintro e W6 ⟨rfl, ts9⟩))
     exact ⟨⟨k + 1, by omega, int_congr (by omega), ts9⟩, by simp [RowKit.intOf]; omega⟩
    ·have hit := hts.items (c := c)
     go_wp2_with (go_at_call 23; refine hit.mono ?_; rintro e W6 ⟨rfl, ts9⟩)
     exact ⟨⟨k + 1, by omega, int_congr (by omega), ts9⟩, by simp [RowKit.intOf]; omega⟩
  ·have hke : k = us.length := by omega
   subst hke
   clear hu hlt hk
   have hit := ts.itemsOld (c := c)
   clear ts
   go_wp2_with (first
    | (go_at_call 23; refine hit.mono ?_; rintro e W6 ⟨rfl, hb6⟩; have hwk := hw W6 hb6)
    | (go_at_call 13; refine hwk.mono ?_; rintro e W7 ⟨rfl, hb7⟩; have hbb := hb6.trans (hb7.mono hb6.size)))
   go_ret
   exact ⟨rfl, hbb⟩
theorem plays_ok {w : World} (hw : ∀ W, Below w.heap.size w W → Calls Tryz.prog 13 #[] W (WorksE W)) (hsn : ∀ W, Below w.heap.size w W → Calls Tryz.prog 9 #[.int .i64 6] W (SnapsE W 6))
  {iv cp : Int} {v : Value} {us : List Stp} (hu : Stps w v us) : Calls Tryz.prog 7 #[.int .i64 iv, .int .i64 cp, v] w (LawE w) := by
 by_cases h60 : 60 < us.length
 ·exact plays_long hw hu h60
 ·exact plays_short hw hsn hu h60
end Go.St
/- The walk of StorePlays, at the arguments that a row hands. -/
namespace Go.St
open Go Go.Proofs Go.RowKit Go.Maps Go.Shelf Go.ChangeShapes Go.WideShapes
theorem cells3 : Tryz.prog.cellsOf 3 = 1 := by kernel_rfl
theorem cells54 : Tryz.prog.cellsOf 54 = 1 := by kernel_rfl
theorem cells56 : Tryz.prog.cellsOf 56 = 3 := by kernel_rfl
theorem fields56 : ∃ f0 f1 f2 : Field, Tryz.prog.underlying 56 = some (.struct #[f0, f1, f2]) ∧ f0.type = 3 ∧ f0.offset = 0 ∧ f1.type = 3 ∧ f1.offset = 1 ∧ f2.type = 54 ∧ f2.offset = 2 := ⟨_, _, _, Tryz.underlying56, rfl, rfl, rfl, rfl, rfl, rfl⟩
theorem i8_bounds {u : Int} (h : (Lit.int .i8 u).wf = true) : -128 ≤ u ∧ u < 128 := by
 have e1 : IntKind.i8.min = -128 := by decide
 have e2 : IntKind.i8.max = 127 := by decide
 simp [Lit.wf, e1, e2] at h
 omega
set_option maxRecDepth 100000 in
/-- one step of the script, out of its three cells -/
theorem stp_of {H : Type} {enc : TypeId × Value → H} {W : World} {base : Nat} {sp : Nat → Bool} {held : Bool} {n : Nat} {cs : List Value} {x : DataW H × List MemPlace} (h : DataW.trod enc Tryz.prog W base sp held n 56 cs = some x) :
  ∃ u : Stp, cs = [.int .i64 u.d, .int .i64 u.n, .int .i8 u.s] ∧ (Lit.int .i64 u.n).wf = true ∧ -128 ≤ u.s ∧ u.s < 128 := by
 obtain ⟨f0, f1, f2, hs, t0, o0, t1, o1, t2, o2⟩ := fields56
 obtain ⟨ys, m, _, _, hlen, hyl, hf⟩ := DataW.trod_struct hs h
 rw [cells56] at hlen
 have hyl : ys.length = 3 := hyl
 match cs, hlen, ys, hyl with
 | [c0, c1, c2], _, [y0, y1, y2], _ =>
  have h0 := hf 0 f0 rfl
  have h1 := hf 1 f1 rfl
  have h2 := hf 2 f2 rfl
  rw [t0, o0, cells3] at h0
  rw [t1, o1, cells3] at h1
  rw [t2, o2, cells54] at h2
  obtain ⟨a0, e0, _, _⟩ := DataW.trod_int Tryz.underlying3 (show DataW.trod enc Tryz.prog W base sp held m 3 [c0] = some y0 from h0)
  obtain ⟨a1, e1, _, w1⟩ := DataW.trod_int Tryz.underlying3 (show DataW.trod enc Tryz.prog W base sp held m 3 [c1] = some y1 from h1)
  obtain ⟨a2, e2, _, w2⟩ := DataW.trod_int Tryz.underlying54 (show DataW.trod enc Tryz.prog W base sp held m 54 [c2] = some y2 from h2)
  cases e0; cases e1; cases e2
  exact ⟨⟨a0, a1, a2⟩, rfl, w1, i8_bounds w2⟩
theorem stps_of {H : Type} {enc : TypeId × Value → H} {W : World} {base : Nat} {sp : Nat → Bool} {held : Bool} {v : Value} {d : DataW H} {ps : List MemPlace} (h : DataW.Trod enc Tryz.prog W base sp held 50 v d ps) (hv : ∃ p n c, v = .slice p n c) : ∃ us, Stps W v us := by
 obtain ⟨p0, n0, c0, rfl⟩ := hv
 obtain ⟨fuel, hf⟩ := h
 rcases Go.Deep.open_slice Tryz.underlying50 hf with ⟨h1, _⟩ | ⟨a, len, cap, m, n, D, Pl, h1, _, hl, _, hm, _, hi⟩
 ·simp [Value.cells] at h1
  obtain ⟨rfl, rfl, rfl⟩ := h1
  exact ⟨[], .inl ⟨rfl, rfl⟩⟩
 ·simp [Value.cells] at h1
  obtain ⟨rfl, rfl, rfl⟩ := h1
  rw [cells56] at hi
  have hlm : n0 ≤ m := by rw [hm]; split <;> omega
  have key : ∀ j, j < n0 → ∃ u : Stp, (W.cell? (a.add (j * 3)) = some (.int .i64 u.d) ∧ W.cell? (a.add (j * 3 + 1)) = some (.int .i64 u.n) ∧ W.cell? (a.add (j * 3 + 2)) = some (.int .i8 u.s)) ∧ (Lit.int .i64 u.n).wf = true ∧ -128 ≤ u.s ∧ u.s < 128 := fun j hj => by
   obtain ⟨cs, h2, h3⟩ := hi j (by omega)
   obtain ⟨u, rfl, hu⟩ := stp_of h3
   obtain ⟨_, _, hc⟩ := World.cells?_some h2
   have k0 := hc 0 (by omega)
   have k1 := hc 1 (by omega)
   have k2 := hc 2 (by omega)
   rw [Go.Deep.add_add] at k0 k1 k2
   exact ⟨u, ⟨k0, k1, k2⟩, hu⟩
  refine ⟨(List.range n0).map (fun j => if hj : j < n0 then (key j hj).choose else ⟨0, 0, 0⟩), .inr ⟨a, c0, by simp, fun j u hu => ?_⟩⟩
  rw [List.getElem?_map] at hu
  by_cases hj : j < n0
  ·rw [List.getElem?_range hj] at hu
   simp only [Option.map_some, hj, dif_pos, Option.some.injEq] at hu
   subst hu
   obtain ⟨⟨k0, k1, k2⟩, k3⟩ := (key j hj).choose_spec
   exact ⟨⟨k0, k1, k2⟩, k3⟩
  ·rw [List.getElem?_eq_none (by simp; omega)] at hu
   cases hu
set_option maxRecDepth 100000 in
theorem plays_handed {H : Type} {enc : TypeId × Value → H} {W : World} {b0 : Nat} {args : Array Value} {ds : List (DataW H)} {p : List MemPlace} (hA : DataW.TrodAll enc Tryz.prog W 0 (fun _ => true) true [3, 3, 50] args.toList ds p)
  (hval : ∀ (j : Nat) t v, (#[3, 3, 50] : Array TypeId)[j]? = some t → args[j]? = some v → Value.okWide Tryz.prog W .any b0 t v)
  (hback : ∀ (W' : World) (v : Value) (d : DataW H) (ps : List MemPlace), Below W.heap.size W W' → DataW.Trod enc Tryz.prog W 0 (fun _ => true) true 50 v d ps → DataW.Trod enc Tryz.prog W' 0 (fun b => decide (b < W.heap.size)) true 50 v d ps)
  (hw : ∀ W1, Below W.heap.size W W1 → Calls Tryz.prog 13 #[] W1 (WorksE W1)) (hsn : ∀ W1, Below W.heap.size W W1 → Calls Tryz.prog 9 #[.int .i64 6] W1 (SnapsE W1 6)) :
  ∃ d0 d1 d2, ds = [d0, d1, d2] ∧ Calls Tryz.prog 7 args W (LawE W) ∧ ∀ W', Below W.heap.size W W' → DataW.TrodAll enc Tryz.prog W' 0 (fun b => decide (b < W.heap.size)) true [3, 3, 50] args.toList ds p := by
 obtain ⟨v0, v1, v2, d0, d1, d2, p0, p1, p2, rfl, rfl, rfl, h0, h1, h2⟩ := trodAll_three hA
 obtain ⟨a0, rfl, rfl, rfl, w0⟩ := open_int Tryz.underlying3 (hval 0 3 v0 rfl rfl) h0
 obtain ⟨a1, rfl, rfl, rfl, w1⟩ := open_int Tryz.underlying3 (hval 1 3 v1 rfl rfl) h1
 obtain ⟨us, hus⟩ := stps_of h2 (by
  obtain ⟨a, n, c, rfl⟩ := okWide_slice Tryz.underlying50 (hval 2 50 v2 rfl rfl)
  exact ⟨a, n, c, rfl⟩)
 refine ⟨_, _, _, rfl, ?_, fun W' hb => ?_⟩
 ·exact plays_ok hw hsn hus
 ·simpa using trodAll_mk3 (shut_int Tryz.underlying3 w0) (shut_int Tryz.underlying3 w1) (hback W' _ _ _ hb h2)
end Go.St
