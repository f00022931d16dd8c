/- What a step far from it leaves as it was: boxes, stores, snapshots. -/
import Derived.Test.YtlgngfiiaoodjaaGreatDoorStBases
import Derived.LoopIn
import Derived.Sort.CutIn
import Derived.Shelf.SlMaps.Clone
import Derived.Deep.RegionWith
import Derived.OrdersHeld
import Derived.OrdersIn
import Derived.RangeFuncCalls
import Derived.Maps.AppendAt
set_option linter.unusedVariables false
set_option linter.unusedSimpArgs false
/- What a step far from it leaves as it was: boxes, stores, snapshots. -/
namespace Go.St
open Go Go.Proofs Go.RowKit Go.Maps Go.Shelf Go.Ev
/-- the block turned, if any, is new or holds no cells -/
def Far (A : World) (row : Option Nat) : Prop := ∀ r, row = some r → A.heap.size ≤ r ∨ ∃ o : Obj, A.heap[r]? = some o ∧ o.isCells = false
theorem Far.none (A : World) : Far A none := fun r e => by cases e
theorem Far.of_own {A : World} {B0 : Nat} {row : Option Nat} (h : ∀ r, row = some r → B0 ≤ r ∧ ∃ o : Obj, A.heap[r]? = some o ∧ o.isCells = false) : Far A row := fun r e => .inr (h r e).2
theorem Far.cell {A B : World} {row : Option Nat} (hr : Far A row) (hg : A.grownBy B row) {a : Addr} {v : Value} (hc : A.cell? a = some v) : B.cell? a = some v := hg.cell hc fun e => by
 have hl := World.block_lt_of_cell? _ _ hc
 rcases hr a.block e.symm with h1 | ⟨o, ho, hcc⟩
 ·omega
 ·obtain ⟨o', ho', hcc'⟩ := cells_of_cell hc
  rw [ho] at ho'; cases ho'; rw [hcc] at hcc'; cases hcc'
theorem Far.box {A B : World} {row : Option Nat} (hr : Far A row) (hg : A.grownBy B row) {M : Nat} {t : TypeId} {v : Value} (hb : Boxed A M t v) : Boxed B M t v := hb.kept hg fun e => by
 rcases hr M e.symm with h1 | ⟨o, ho, hc⟩
 ·have := hb.lt; omega
 ·rw [show A.heap[M]? = _ from hb] at ho; cases ho; cases hc
theorem Far.row {A B : World} {row : Option Nat} (hr : Far A row) (hg : A.grownBy B row) {b0 : Nat} {e : TypeId} {size : Nat} {v : Value} {n : Nat} {xs : List Value} (h : A.ownsRow b0 e size v n xs) : B.ownsRow b0 e size v n xs := by
 refine h.kept hg ?_
 rcases h.2 with ⟨rfl, _⟩ | ⟨g, cap, cur, rfl, _, hgb, _⟩
 ·exact .inl rfl
 ·refine .inr fun e' => ?_
  rcases hr g (by simpa [Value.ownBlock] using e'.symm) with h1 | ⟨o, ho, hc⟩
  ·have := (Array.getElem?_eq_some_iff.1 hgb).1; omega
  ·rw [hgb] at ho; cases ho; cases hc
theorem Far.at {A B : World} {row : Option Nat} (hr : Far A row) (hg : A.grownBy B row) {sb mb : Nat} {d room : Int} {l : List (Int × Value)} (h : At A sb d room mb l) (hm : row ≠ some mb) : At B sb d room mb l :=
 ⟨hr.cell hg h.c0, hr.cell hg h.c1, hr.cell hg h.c2, h.own.kept hg (fun e => hm e.symm), h.inc, h.wf, h.few⟩
theorem Far.snaps {A B : World} {row : Option Nat} (hr : Far A row) (hg : A.grownBy B row) {n g : Nat} {bs : Nat → Nat} (h : Snaps A n g bs) : Snaps B n g bs := fun j hj => by
 obtain ⟨h1, a, h2⟩ := h j hj
 exact ⟨hr.cell hg h1, a, hr.cell hg h2⟩
theorem At.not_new {A : World} {sb mb : Nat} {d room : Int} {l : List (Int × Value)} (h : At A sb d room mb l) {row : Option Nat} (hr : ∀ r, row = some r → A.heap.size ≤ r) : row ≠ some mb := fun e => by
 have := hr mb e
 have := h.own.lt
 omega
theorem At.map_row {A : World} {sb mb : Nat} {d room : Int} {l : List (Int × Value)} (h : At A sb d room mb l) : Far A (some mb) := fun r e => by
 obtain ⟨es, clock, hb, _⟩ := h.own
 cases e
 exact .inr ⟨_, hb, rfl⟩
end Go.St
/- A loop over All, with no frame typed: the frame of a round is found by the walk (apply Exists.intro). -/
namespace Go.St
open Go Go.Proofs Go.RowKit Go.Maps Go.Shelf Go.Ev
theorem wpIn_all {gop : Operand} {ps : Array Tmp} {assign body : Code} {Q : Exit → Act → World → Prop} {a : Act} {W0 : World} {m : Nat} (hm : 2 ≤ m)
  {sb mb Bs B : Nat} {d room : Int} {l : List (Int × Value)} (hg : a.eval gop = .func (.func 37) #[] #[.pointer (some ⟨Bs, 0, none⟩)]) (hps : ps.size = 2)
  (X : World → Nat → Prop) (hX : XOk B X) (hB : B ≤ W0.heap.size) (hXl : ∀ i, X W0 i → i < W0.heap.size) (hXs : ¬ X W0 sb) (hXm : ¬ X W0 mb) (hXB : ¬ X W0 Bs)
  (hBs : W0.cell? ⟨Bs, 0, none⟩ = some (.pointer (some ⟨sb, 0, none⟩))) (hA : At W0 sb d room mb l)
  (I : List (Fin l.length) → World → Prop) (Ix : Code → List (Fin l.length) → World → Prop) (hI : OwnFrom W0.heap.size I) (hIx : ∀ c, OwnFrom W0.heap.size (Ix c)) (h0 : I [] W0)
  (hround : ∃ a₁ : Fin l.length → Act,
   (∀ (lp : Nat) (x : Fin l.length) (W : World) (K : Act → World → Prop), K (a₁ x) W →
    assign.wpIn (Fence.wide.inRound lp) (m - 1) Tryz.prog (Exit.then K (fun _ _ _ => False)) { tmps := (ps.zip #[Value.int .i64 (kth l x.1), at? (kth l x.1) l]).foldl (fun t (p, v) => t.setIfInBounds p v) a.tmps, defers := [] } W) ∧
   (∀ (lp : Nat) (pre : List (Fin l.length)) (x : Fin l.length) (W : World), I pre W → pre.length < l.length → body.wpIn (Fence.wide.inRound lp) (m - 1) Tryz.prog (ownPostG W0.heap.size (KB X) I Ix (pre ++ [x]) W) (a₁ x) W))
  (hdone : ∀ (D : Nat) (W : World), W0.heap.size ≤ D → I (List.finRange l.length) W → W.heap[D]? = some (.deferred (some [])) → Q .normal { a with defers := { target := .collected D, args := #[] } :: a.defers } W)
  (hstop : ∀ (D : Nat) (c : Code) (k : Nat) (W : World), W0.heap.size ≤ D → k ≤ l.length → Ix c ((List.finRange l.length).take k) W → W.heap[D]? = some (.deferred (some [])) → c.wpIn Fence.wide (m + 1) Tryz.prog Q { a with defers := { target := .collected D, args := #[] } :: a.defers } W) :
  (Code.rangeFunc gop ps assign body).wpIn Fence.wide (m + 1) Tryz.prog Q a W0 := by
 obtain ⟨a₁, hassign, hbody⟩ := hround
 refine wpIn_rangeFunc_ownG rfl (by omega) (gf := 37) (lb := #[.pointer (some ⟨Bs, 0, none⟩)]) hg trivial (enters_of Tryz.func37 (by kernel_rfl) rfl)
  (all_stops m hm Bs X hX W0 hB hXl hXs hXm hXB hBs hA) (fun h k => h.trans k) (fun W l o o' hl h1 h2 h3 => KB.put hX W l o o' (Nat.le_trans hB hl) h1 h2 h3) (Below.refl _ _) (fun _ => hps.symm)
  I Ix hI hIx h0 a₁ hassign hbody ?_ ?_
 ·rintro D ys W hD rfl h1 h2
  exact hdone D W hD h1 h2
 ·rintro D c pre W hD ⟨k, hk, rfl⟩ h1 h2
  exact hstop D c k W hD hk h1 h2
end Go.St
/- A loop over All that counts its rounds in a box. -/
namespace Go.St
open Go Go.Proofs Go.RowKit Go.Maps Go.Shelf Go.Ev
def X1 (N : Nat) (_ : World) (i : Nat) : Prop := i = N
theorem x1_ok (N B : Nat) : XOk B (X1 N) := ⟨fun _ _ h => h, fun _ _ _ h => h⟩
theorem kb_set (W : World) (N : Nat) (v : Value) : KB (X1 N) W (W.setCell ⟨N, 0, none⟩ v) :=
 ⟨(grownBy_setCell' W N v).size, fun i o hi hx _ => ((grownBy_setCell' W N v).block i (Array.getElem?_eq_some_iff.1 hi).1 (fun e => hx (Option.some.inj e))).trans hi, fun _ _ h => h⟩
/-- the second loop over All -/
def I2 (l : List (Int × Value)) (N : Nat) (WN : World) (pre : List (Fin l.length)) (W : World) : Prop :=
 pre = (List.finRange l.length).take pre.length ∧ Boxed W N 3 (.int .i64 (pre.length : Int)) ∧ Below N WN W
theorem i2_own {l : List (Int × Value)} {N B0 : Nat} {WN : World} (hN : N ≤ WN.heap.size) (hB : N ≤ B0) : OwnFrom B0 (I2 l N WN) := fun pre A B row ⟨h1, h2, h3⟩ hg hr =>
 ⟨h1, (Far.of_own hr).box hg h2, h3.grown hg (Nat.le_trans hN h3.size) (fun k e => by have := (hr k e).1; omega)⟩
theorem take_snoc {l : List (Int × Value)} {pre : List (Fin l.length)} {x : Fin l.length} (h : pre = (List.finRange l.length).take pre.length) (hx : x.1 = pre.length) : pre ++ [x] = (List.finRange l.length).take (pre ++ [x]).length := by
 rw [List.length_append, List.length_singleton, List.take_add_one, ← h, List.getElem?_eq_getElem (by rw [List.length_finRange, ← hx]; exact x.2)]
 congr 1
 simp
 exact Fin.ext hx
theorem take_not {l : List (Int × Value)} {pre : List (Fin l.length)} {x : Fin l.length} (hx : x.1 ≠ pre.length) : pre ++ [x] ≠ (List.finRange l.length).take (pre ++ [x]).length := fun e => by
 have h1 : (pre ++ [x])[pre.length]? = some x := by simp
 rw [e, List.length_append, List.length_singleton, List.getElem?_take, if_pos (by omega)] at h1
 have hl := (List.getElem?_eq_some_iff.1 h1).1
 rw [List.getElem?_eq_getElem hl] at h1
 simp at h1
 exact hx (by rw [← h1])
/-- a round of the second loop -/
theorem I2.round {l : List (Int × Value)} {N : Nat} {WN W : World} {pre : List (Fin l.length)} {x : Fin l.length} (h : I2 l N WN pre W) (hx : x.1 = pre.length) {m : Int} (hm : m = ((pre.length + 1 : Nat) : Int)) (B0 : Nat) :
  KeepsFrom B0 W (W.setCell ⟨N, 0, none⟩ (.int .i64 m)) ∧ KB (X1 N) W (W.setCell ⟨N, 0, none⟩ (.int .i64 m)) ∧ I2 l N WN (pre ++ [x]) (W.setCell ⟨N, 0, none⟩ (.int .i64 m)) := by
 subst hm
 refine ⟨(KeepsOthers.setCell _ _ _).from _, kb_set W N _, take_snoc h.1 hx, ?_, h.2.2.setCell (p := ⟨N, 0, none⟩) (Nat.le_refl _) _⟩
 rw [List.length_append, List.length_singleton]
 exact h.2.1.set _
end Go.St
/- The walk of package store: Copy. -/
namespace Go.St
open Go Go.Proofs Go.RowKit Go.Maps Go.Shelf Go.Ev
set_option maxRecDepth 100000 in
set_option maxHeartbeats 4000000 in
theorem copy_ok {sb mb : Nat} {d room : Int} {l : List (Int × Value)} {w : World} (h : At w sb d room mb l) : Calls Tryz.prog 16 #[.pointer (some ⟨sb, 0, none⟩)] w fun e w' => e = .returned (.pointer (some ⟨w.heap.size + 1, 0, none⟩)) ∧ At w' (w.heap.size + 1) d room w.heap.size l ∧ Below w.heap.size w w' := by
 have c0 := h.c0
 have c1 := h.c1
 have c2 := h.c2
 have hv := valid_ok sb mb w c2
 obtain ⟨es, clock, hb, F, hs, hD⟩ := h.own
 have hcl : Calls Tryz.prog 36 #[.map (some mb)] w.drew fun e w' => e = .returned (.map (some w.heap.size)) ∧ w' = w.drew.alloc (.map es clock) := AnyW.maps_Clone Tryz.cloneA mb es clock w.drew hb
 have hk := fun (w1 : World) (h1 : w1 = w.drew.alloc (.map es clock)) =>
  show w1.cell? ⟨sb, 0, none⟩ = some (.int .i64 d) ∧ w1.cell? ⟨sb, 1, none⟩ = some (.int .i64 room) by
   subst h1
   exact ⟨cell_kept (W := w.drew) c0 (World.grownBy_alloc w.drew _ none) (fun r e => by cases e), cell_kept (W := w.drew) c1 (World.grownBy_alloc w.drew _ none) (fun r e => by cases e)⟩
 have hend : At ((w.drew.alloc (.map es clock)).alloc (.cells #[.int .i64 d, .int .i64 room, .map (some w.heap.size)] 65)) (w.heap.size + 1) d room w.heap.size l := by
  have hg := (World.grownBy_alloc (w.drew.alloc (.map es clock)) (.cells #[.int .i64 d, .int .i64 room, .map (some w.heap.size)] 65) none)
  have hbn : ((w.drew.alloc (.map es clock)).alloc (.cells #[.int .i64 d, .int .i64 room, .map (some w.heap.size)] 65)).heap[w.heap.size + 1]? = some (.cells #[.int .i64 d, .int .i64 room, .map (some w.heap.size)] 65 (0, 0)) := by
   have := World.alloc_heap_new (w.drew.alloc (.map es clock)) (.cells #[.int .i64 d, .int .i64 room, .map (some w.heap.size)] 65)
   rw [World.size_alloc] at this; exact this
  have hbm : ((w.drew.alloc (.map es clock)).alloc (.cells #[.int .i64 d, .int .i64 room, .map (some w.heap.size)] 65)).heap[w.heap.size]? = some (.map es clock) :=
   (hg.block w.heap.size (by simp) (by simp)).trans (World.alloc_heap_new w.drew (.map es clock))
  exact ⟨by unfold World.cell?; rw [hbn]; rfl, by unfold World.cell?; rw [hbn]; rfl, by unfold World.cell?; rw [hbn]; rfl, ⟨es, clock, hbm, F, hs, hD⟩, h.inc, h.wf, h.few⟩
 have hB : Below w.heap.size w ((w.drew.alloc (.map es clock)).alloc (.cells #[.int .i64 d, .int .i64 room, .map (some w.heap.size)] 65)) := ((Below.refl _ w).drew.alloc (Nat.le_refl _) _).alloc (by simp) _
 have HE := Lib.hid hend
 have HB := Lib.hid hB
 clear hend hB hs hD F hb h
 go_enter Tryz.func16, Tryz.ntmps16
 go_wp2_with (go_at_call 29; refine hv.mono ?_; rintro e w' ⟨rfl, rfl⟩)
 clear hv
 go_region_with (go_at_call 36; refine hcl.mono ?_; rintro e w1 ⟨rfl, hw1⟩; obtain ⟨k0, k1⟩ := hk w1 hw1; have HW := Lib.hid hw1; clear hw1)
 all_goals
  have hsz : w1.heap.size = w.heap.size + 1 := by rw [HW.out]; simp
  go_wp2
  go_ret
  have hw1 := HW.out
  subst hw1
  exact ⟨by simp [Act.put], HE.out, HB.out⟩
end Go.St
/- A region that draws its order, in a round of a loop over a function: it may be walked in the plain calculus; and an operation that only reads may be taken first wherever the operations that could come ahead of it leave what it reads as it was (each operation says for itself what holds behind it). -/
namespace Go.St
open Go
variable {P : Program} {ops : Array Oper} {Q : Exit → Act → World → Prop} {md : Region.Mode}
theorem wpOpIn_of_wpOp {lp n i : Nat} {K : Act → World → Prop} {a : Act} {w : World} (hd : ∀ (i : Nat) (o : Oper), ops[i]? = some o → ∀ c, o.op ≠ .defer c) (hL : ¬ LetsOut Q) (h : wpOp P ops Q i K a w) : wpOpIn (Fence.wide.inRound lp) n P ops Q i K a w := by
 unfold wpOp at h
 unfold wpOpIn
 cases ho : ops[i]? with
 | none => simpa [ho] using h
 | some o =>
  simp only [ho] at h ⊢
  split
  ·rename_i hw
   rw [if_pos hw] at h
   rcases h with h | ⟨_, h⟩
   ·refine ⟨fun f _ => trivial, ?_⟩
    unfold Oper.wp at h
    rw [Oper.semAt_eq _ _ _ (hd i o ho)]
    generalize (execOp a.eval o).run P w = r at h ⊢
    cases r with
    | ok x w' => cases x with
     | value v => exact h
     | skip => exact h
     | defer d => exact h
     | enter f args => exact ⟨fun e => (by cases e), callsIn_wide.2 h⟩
     | row row args => exact ⟨fun e => (by cases e), fun c cs _ => let ⟨v, w'', r1, s⟩ := h c cs; ⟨v, w'', r1, stepsIn_wide.2 s⟩⟩
     | _ => exact h.elim
    | halt x w' => cases x <;> exact h
   ·exact absurd h hL
  ·rename_i hw
   rw [if_neg hw] at h
   exact ⟨fun f _ => trivial, h⟩
theorem wpAnyIn_of_wpAny {lp n : Nat} (hd : ∀ (i : Nat) (o : Oper), ops[i]? = some o → ∀ c, o.op ≠ .defer c) (hL : ¬ LetsOut Q) : ∀ (fuel : Nat) (listed : Array Bool) (a : Act) (w : World), wpAny P md ops Q fuel listed a w → wpAnyIn (Fence.wide.inRound lp) n P md ops Q fuel listed a w
 | 0, _, _, _, h => h
 | fuel + 1, _, _, _, h => ⟨h.1, fun i hi => wpOpIn_mono (fun a' w' h' => wpAnyIn_of_wpAny hd hL fuel _ a' w' h') (wpOpIn_of_wpOp hd hL (h.2 i hi))⟩
/-- whatever comes up; R i holds behind operation i -/
def wpAnyR (P : Program) (md : Region.Mode) (ops : Array Oper) (Q : Exit → Act → World → Prop) (R : Nat → World → Prop) : Nat → Array Bool → Act → World → Prop
 | 0, listed, a, w => Region.ready md ops listed = [] ∧ Q .normal a w
 | fuel + 1, listed, a, w => (Region.ready md ops listed = [] → Q .normal a w) ∧
  ∀ i ∈ Region.ready md ops listed, wpOp P ops Q i (fun a' w' => R i w' ∧ wpAnyR P md ops Q R fuel (listed.setIfInBounds i true) a' w') a w
theorem wpAny_of_R {R : Nat → World → Prop} : ∀ (fuel : Nat) (listed : Array Bool) (a : Act) (w : World), wpAnyR P md ops Q R fuel listed a w → wpAny P md ops Q fuel listed a w
 | 0, _, _, _, h => h
 | fuel + 1, _, _, _, h => ⟨h.1, fun i hi => wpOp_mono (fun a' w' h' => wpAny_of_R fuel _ a' w' h'.2) (h.2 i hi)⟩
/-- those that wait for operation i, on this road or that: told by blk -/
def waitB (md : Region.Mode) (ops : Array Oper) (i : Nat) (blk : Nat → Bool) : Bool :=
 (List.range ops.size).all fun j => !(blk j) || (match ops[j]? with | some o => o.after.any fun e => Region.binds md e && (e.on == i || blk e.on) | none => true)
theorem waitB_spec {i : Nat} {blk : Nat → Bool} (h : waitB md ops i blk = true) {j : Nat} {o : Oper} (ho : ops[j]? = some o) (hb : blk j = true) : ∃ e ∈ o.after, Region.binds md e = true ∧ (e.on = i ∨ blk e.on = true) := by
 have := List.all_eq_true.1 h j (List.mem_range.2 (Array.getElem?_eq_some_iff.1 ho).1)
 rw [hb, ho] at this
 simp only [Bool.not_true, Bool.false_or, Array.any_eq_true'] at this
 obtain ⟨e, he, h1⟩ := this
 simp only [Bool.and_eq_true, Bool.or_eq_true, beq_iff_eq] at h1
 exact ⟨e, he, h1⟩
theorem wpAnyR_first {R : Nat → World → Prop} {S : World → Prop} {i : Nat} {blk : Nat → Bool} {oi : Oper} {v : Value} (hi : ops[i]? = some oi) (hsel : ∀ (j : Nat) (o : Oper) cs b, ops[j]? = some o → o.op ≠ .select cs b)
  (hQ : ∀ c a w, Q (.panic c) (a.put oi.dst v) w → Q (.panic c) a w) (hB : waitB md ops i blk = true) (hbi : blk i = false) (hK : ∀ j w, blk j = false → R j w → S w) (hR : ∀ w, S w → R i w) (fuel : Nat) :
  ∀ (listed : Array Bool) (a : Act) (w : World), (∀ j, blk j = true → listed.getD j false = false) → (∀ j oj, ops[j]? = some oj → j ≠ i → listed.getD j true = false → (∀ e ∈ oj.after, Region.binds md e = true → e.on ≠ i) → oi.apart ops oj = true) →
   i ∈ Region.ready md ops listed → YieldsIf P ops S oi v a → S w → wpAnyR P md ops Q R fuel (listed.setIfInBounds i true) (a.put oi.dst v) w → wpAnyR P md ops Q R (fuel + 1) listed a w := by
 induction fuel with
 | zero =>
  intro listed a w _ _ hr hy hS H
  refine ⟨fun h => absurd hr (by rw [h]; simp), fun j hj => ?_⟩
  by_cases e : j = i
  ·subst e
   exact hy.wpOp hi hS ⟨hR w hS, H⟩
  ·have := ready_mono hj e
   rw [H.1] at this
   simp at this
 | succ fuel ih =>
  intro listed a w hl hf hr hy hS H
  refine ⟨fun h => absurd hr (by rw [h]; simp), fun j hj => ?_⟩
  by_cases e : j = i
  ·subst e
   exact hy.wpOp hi hS ⟨hR w hS, H⟩
  ·obtain ⟨hun, oj, hoj, hall⟩ := mem_ready.1 hj
   have hun_i := (mem_ready.1 hr).1
   have hno : ∀ x ∈ oj.after, Region.binds md x = true → x.on ≠ i := fun x hx hb he => by
    have h1 := hall x hx hb
    rw [he] at h1
    by_cases hlt : i < listed.size
    ·simp [hlt] at hun_i h1
     rw [hun_i] at h1
     cases h1
    ·simp [Array.getElem?_eq_none (Nat.le_of_not_lt hlt)] at h1
   have hbj : blk j = false := by
    cases hb : blk j with
    | false => rfl
    | true =>
     obtain ⟨x, hx, h1, h2⟩ := waitB_spec hB hoj hb
     rcases h2 with h2 | h2
     ·exact absurd h2 (hno x hx h1)
     ·have h3 := hall x hx h1
      rw [hl _ h2] at h3
      cases h3
   have h2 := wpOp_putIf hoj (hf j oj hoj e hun hno) (fun cs b => hsel i oi cs b hi) (fun cs b => hsel j oj cs b hoj) hQ hy (H.2 j (ready_mono hj e))
   refine wpOp_mono (fun a' w' h3 => ⟨h3.2.1, ih _ a' w' (fun k hk => ?_) (fun k ok hk hki hku hkn => hf k ok hk hki ?_ hkn) (ready_mono hr (Ne.symm e)) h3.1 (hK j w' hbj h3.2.1) ?_⟩) h2
   ·have hjk : j ≠ k := fun e' => by rw [e', hk] at hbj; cases hbj
    rw [getD_set_ne false hjk]; exact hl k hk
   ·by_cases hjk : j = k
    ·subst hjk; exact hun
    ·rw [getD_set_ne true hjk] at hku; exact hku
   ·rw [Array.setIfInBounds_comm _ _ e]
    exact h3.2.2
/-- number i first -/
theorem wpAnyR_take {R : Nat → World → Prop} (S : World → Prop) {i : Nat} (blk : Nat → Bool) {oi : Oper} {v : Value} {fuel : Nat} {listed : Array Bool} {a : Act} {w : World} (hi : ops[i]? = some oi)
  (hs : Region.noSelect ops = true) (hf : Region.free md ops listed i = true) (hr : (Region.ready md ops listed).contains i = true) (hB : waitB md ops i blk = true) (hbi : blk i = false) (hl : ((List.range listed.size).all fun j => !(blk j && listed.getD j false)) = true)
  (hQ : ∀ c a w, Q (.panic c) (a.put oi.dst v) w → Q (.panic c) a w) (hK : ∀ j w, blk j = false → R j w → S w) (hR : ∀ w, S w → R i w) (hy : YieldsIf P ops S oi v a) (hS : S w)
  (h : wpAnyR P md ops Q R fuel (listed.setIfInBounds i true) (a.put oi.dst v) w) : wpAnyR P md ops Q R (fuel + 1) listed a w :=
 wpAnyR_first hi (Region.noSelect_spec hs) hQ hB hbi hK hR fuel listed a w (fun j hj => by
  by_cases hlt : j < listed.size
  ·have := List.all_eq_true.1 hl j (List.mem_range.2 hlt)
   rw [hj] at this
   simpa using this
  ·simp [Array.getElem?_eq_none (Nat.le_of_not_lt hlt)]) (Region.free_spec hi hf) (by simpa using hr) hy hS h
theorem blk_lt {a b j : Nat} (h : decide (a ≤ j) = false) (hab : a ≤ b) : j < b := by
 have : ¬ a ≤ j := by simpa using h
 omega
def AllR (P : Program) (md : Region.Mode) (ops : Array Oper) (Q : Exit → Act → World → Prop) (R : Nat → World → Prop) (fuel : Nat) (listed : Array Bool) (a : Act) (w : World) (rs : List Nat) : Prop :=
 ∀ i ∈ rs, wpOp P ops Q i (fun a' w' => R i w' ∧ wpAnyR P md ops Q R fuel (listed.setIfInBounds i true) a' w') a w
theorem AllR.nil {R : Nat → World → Prop} {fuel : Nat} {listed : Array Bool} {a : Act} {w : World} : AllR P md ops Q R fuel listed a w [] := fun _ h => by cases h
/-- a step of which the result is known -/
theorem AllR.value {R : Nat → World → Prop} {fuel : Nat} {listed : Array Bool} {a : Act} {w w' : World} {i : Nat} {o : Oper} {v : Value} {rs : List Nat} (ho : ops[i]? = some o) (hw : Region.wanted o (yielded ops a.tmps) = true)
  (hx : (execOp a.eval o).run P w = .ok (.value v) w') (hR : R i w') (h : wpAnyR P md ops Q R fuel (listed.setIfInBounds i true) (a.put o.dst v) w') (hs : AllR P md ops Q R fuel listed a w rs) : AllR P md ops Q R fuel listed a w (i :: rs) := fun j hj => by
 rcases List.mem_cons.1 hj with rfl | hj
 ·unfold wpOp
  simp only [ho, hw, if_true]
  refine .inl ?_
  unfold Oper.wp
  rw [hx]
  exact ⟨hR, h⟩
 ·exact hs j hj
/-- a store -/
theorem AllR.skip {R : Nat → World → Prop} {fuel : Nat} {listed : Array Bool} {a : Act} {w w' : World} {i : Nat} {o : Oper} {rs : List Nat} (ho : ops[i]? = some o) (hw : Region.wanted o (yielded ops a.tmps) = true)
  (hx : (execOp a.eval o).run P w = .ok .skip w') (hR : R i w') (h : wpAnyR P md ops Q R fuel (listed.setIfInBounds i true) (a.put o.dst undef) w') (hs : AllR P md ops Q R fuel listed a w rs) : AllR P md ops Q R fuel listed a w (i :: rs) := fun j hj => by
 rcases List.mem_cons.1 hj with rfl | hj
 ·unfold wpOp
  simp only [ho, hw, if_true]
  refine .inl ?_
  unfold Oper.wp
  rw [hx]
  exact ⟨hR, h⟩
 ·exact hs j hj
/-- a call -/
theorem AllR.call {R : Nat → World → Prop} {fuel : Nat} {listed : Array Bool} {a : Act} {w w1 : World} {i : Nat} {o : Oper} {f : FuncId} {args : Array Value} {rs : List Nat} {E : Ending → World → Prop} (ho : ops[i]? = some o) (hw : Region.wanted o (yielded ops a.tmps) = true)
  (hx : (execOp a.eval o).run P w = .ok (.enter f args) w1) (hc : Calls P f args w1 E) (h : ∀ e w', E e w' → ∃ v, e = .returned v ∧ R i w' ∧ wpAnyR P md ops Q R fuel (listed.setIfInBounds i true) (a.put o.dst v) w') (hs : AllR P md ops Q R fuel listed a w rs) : AllR P md ops Q R fuel listed a w (i :: rs) := fun j hj => by
 rcases List.mem_cons.1 hj with rfl | hj
 ·unfold wpOp
  simp only [ho, hw, if_true]
  refine .inl ?_
  unfold Oper.wp
  rw [hx]
  refine Calls.mono hc fun e w' he => ?_
  obtain ⟨v, rfl, h1, h2⟩ := h e w' he
  exact ⟨h1, h2⟩
 ·exact hs j hj
/-- append of one element, which lies in a block of its own -/
theorem AllR.append1 {R : Nat → World → Prop} {fuel : Nat} {listed : Array Bool} {a : Act} {w : World} {i : Nat} {o : Oper} {rs : List Nat} (ho : ops[i]? = some o) (hw : Region.wanted o (yielded ops a.tmps) = true)
  {sx x : Operand} {t e : TypeId} (hop : o.op = .call { callee := .builtin .append, args := #[sx, x], argTypes := #[t, t] }) {b0 : Nat} {inf : TypeInfo} {z : Value} (ht : P.underlying t = some (.slice e)) (hi : P.info? e = some inf) (hz : inf.zero = some z) (h1 : inf.size = 1) (h8 : inf.bytes = 8) (hzs : z.cells.size = 1)
  {v u : Value} {n g c : Nat} {xs : List Value} (hs : a.eval sx = v) (hown : w.ownsRow b0 e 1 v n xs) (hx : a.eval x = .slice (some ⟨g, 0, none⟩) 1 c) (hu : w.cell? ⟨g, 0, none⟩ = some u) (hu1 : u.oneCell' = true) (hn : n ≤ 1000) (hb : b0 ≤ w.heap.size)
  (h : ∀ v' w', w'.ownsRow b0 e 1 v' (n + 1) (xs ++ [u]) → w.grownBy w' v.ownBlock → (v'.ownBlock = v.ownBlock ∨ v'.ownBlock = some w.heap.size) → R i w' ∧ wpAnyR P md ops Q R fuel (listed.setIfInBounds i true) (a.put o.dst v') w')
  (hrest : AllR P md ops Q R fuel listed a w rs) : AllR P md ops Q R fuel listed a w (i :: rs) := by
 obtain ⟨v', w', hr, h2, h3, h4, h5⟩ := run_append_own_at (P := P) w b0 t o.type e inf z 1 8 ht hi hz h1 h8 hzs (by decide) v n xs hown ⟨g, 0, none⟩ 1 c [u] rfl (fun j y hj => by
  match j, hj with
  | 0, hj =>
   simp at hj
   subst hj
   simpa [Addr.add] using hu) (fun y hy => by simp at hy; subst hy; exact hu1) (by unfold maxLen; omega) (by omega) hb
 obtain ⟨hR, hN⟩ := h v' w' h2 h3 h5
 exact AllR.value ho hw (v := v') (w' := w') (by simp [execOp, hop, resolve, invoke, builtin, hs, hx, hr, Result.andThen]) hR hN hrest
theorem wpAnyR_ready {R : Nat → World → Prop} {rs : List Nat} {fuel : Nat} {listed : Array Bool} {a : Act} {w : World} (hr : Region.ready md ops listed = rs) (hne : rs ≠ []) (h : AllR P md ops Q R fuel listed a w rs) : wpAnyR P md ops Q R (fuel + 1) listed a w :=
 ⟨fun h0 => absurd (hr ▸ h0) hne, hr ▸ h⟩
theorem wpAnyR_done {R : Nat → World → Prop} {listed : Array Bool} {a : Act} {w : World} (hr : Region.ready md ops listed = []) (h : Q .normal a w) : wpAnyR P md ops Q R 0 listed a w := ⟨hr, h⟩
/-- the beginning, in a round -/
theorem wpIn_region_R {R : Nat → World → Prop} {id lp n : Nat} {a : Act} {w : World} (hm : P.follows .mixedOrders = true) (hd : (ops.all fun o => match o.op with | .defer _ => false | _ => true) = true) (hL : ¬ LetsOut Q)
  (h : wpAnyR P .any ops Q R ops.size (Array.replicate ops.size false) a w.drew) : (Code.region id ops true).wpIn (Fence.wide.inRound lp) n P Q a w :=
 wpIn_region_any hm (wpAnyIn_of_wpAny (fun i o ho c hc => by
  have := Array.all_eq_true'.1 hd o (Array.mem_of_getElem? ho)
  rw [hc] at this
  cases this) hL _ _ _ _ (wpAny_of_R _ _ _ _ h))
/-- and in no round -/
theorem wp_region_R {R : Nat → World → Prop} {id : Nat} {a : Act} {w : World} (hm : P.follows .mixedOrders = true)
  (h : wpAnyR P .any ops Q R ops.size (Array.replicate ops.size false) a w.drew) : (Code.region id ops true).wp P Q a w :=
 wp_region_any hm (wpAny_of_R _ _ _ _ h)
end Go.St
