/- StoreApart: the walk. -/
import Derived.Test.YtlgngfiiaoodjaaGreatDoorStCutss
import Derived.Test.YtlgngfiiaoodjaaGreatDoorStLoops
import Derived.Test.YtlgngfiiaoodjaaGreatDoorStFirsts
import Derived.Carry
set_option linter.unusedVariables false
set_option linter.unusedSimpArgs false
/- StoreApart: the walk. -/
namespace Go.St
open Go Go.Proofs Go.RowKit Go.Maps Go.Shelf Go.Ev
attribute [local go_sem] Oper.semAt_some
/-- a slice of bytes, as an argument -/
def U8s (w : World) (v : Value) (us : List Int) : Prop := (v = .slice none 0 0 ∧ us = []) ∨ ∃ a c, v = .slice (some a) us.length c ∧ ∀ j u, us[j]? = some u → w.cell? (a.add j) = some (.int .u8 u) ∧ 0 ≤ u ∧ u < 256
theorem U8s.len {w : World} {v : Value} {us : List Int} (h : U8s w v us) (W : World) : (Builtin.len_ #[48] 3 #[v]).run Tryz.prog W = .ok (.int .i64 (us.length : Int)) W := by
  rcases h with ⟨rfl, rfl⟩ | ⟨a, c, rfl, _⟩
  · simp [Builtin.len_, run_underlying Tryz.underlying48, go_sem]
  · simp [Builtin.len_, run_underlying Tryz.underlying48, go_sem]
/-- the snapshots' own blocks -/
def Firm (W : World) (bs : Nat → Nat) : Prop := ∀ j, j < 4 → ∃ c t, W.heap[bs j]? = some (.cells c t (0, 0))
theorem Firm.still {W W' : World} {bs : Nat → Nat} {row : Option Nat} (h : Firm W bs) (hg : W.grownBy W' row) (hr : Far W row) : Firm W' bs := fun j hj => by
  obtain ⟨c, t, hc⟩ := h j hj
  refine ⟨c, t, (hg.block _ (Array.getElem?_eq_some_iff.1 hc).1 fun e => ?_).trans hc⟩
  rcases hr _ e.symm with h1 | ⟨o, ho, hcc⟩
  · have := (Array.getElem?_eq_some_iff.1 hc).1; omega
  · rw [hc] at ho; cases ho; cases hcc
def SnapsF (W : World) (e : Ending) (w' : World) : Prop := ∃ g c bs, e = .returned (.slice (some ⟨g, 0, none⟩) 4 c) ∧ Snaps w' 4 g bs ∧ Firm w' bs ∧ Below W.heap.size W w'
/-- a store to which multiples are offered; the boxes of stop and of the result -/
structure A1 (w : World) (sb mb g : Nat) (bs : Nat → Nat) (d room st : Int) (l : List (Int × Value)) (W : World) : Prop where
  stop : Boxed W w.heap.size 5 (.int .u8 st)
  res : Boxed W (w.heap.size + 1) 4 (.bool false)
  at_ : At W sb d room mb l
  len : (l.length : Int) ≤ room
  sn : Snaps W 4 g bs
  firm : Firm W bs
  vals : ∀ p ∈ l, ∃ j, j < 4 ∧ p.2 = .pointer (some ⟨bs j, 0, none⟩)
  below : Below w.heap.size w W
  lo : w.heap.size + 2 ≤ mb
variable {w W : World} {sb mb cb cm g M1 M2 b0 : Nat} {Ds : List Nat} {bs : Nat → Nat} {d room st : Int} {l lc : List (Int × Value)} {v1 v2 : Value}
theorem A1.offer (h : A1 w sb mb g bs d room st l W) {i : Int} {k : Nat} (hi : 0 ≤ i) (hwf : (Lit.int .i64 i).wf = true) (hd : 1 ≤ d) (hr : 1 ≤ room) (hr2 : room ≤ 100) : Calls Tryz.prog 10 #[.pointer (some ⟨sb, 0, none⟩), .int .i64 i, .pointer (some ⟨bs (k % 4), 0, none⟩)] W fun e w' => ∃ b l', e = .returned (.tuple #[.bool b, .int .i64 0]) ∧ A1 w sb mb g bs d room st l' w' := by
  obtain ⟨_, a, ha⟩ := h.sn (k % 4) (by omega)
  refine (offer_ok h.at_ ha hi hwf hd hr (by have := h.len; omega)).mono ?_
  rintro e w' ⟨rfl, hat, hg⟩
  have hf := h.at_.map_row
  exact ⟨_, _, rfl, hf.box hg h.stop, hf.box hg h.res, hat, length_offer h.len, hf.snaps hg h.sn, h.firm.still hg hf, (fun p hp => (mem_offer hp).elim (h.vals p) (fun e => ⟨k % 4, by omega, by rw [e.1]⟩)), h.below.grown hg h.below.size (fun k e => by cases e; have := h.lo; omega), h.lo⟩
theorem A1.drew (h : A1 w sb mb g bs d room st l W) : A1 w sb mb g bs d room st l W.drew := ⟨h.stop, h.res, h.at_.drew, h.len, h.sn, h.firm, h.vals, h.below.drew, h.lo⟩
theorem A1.belowW {W' : World} (h : A1 w sb mb g bs d room st l W) (hb : Below W.heap.size W W') : A1 w sb mb g bs d room st l W' :=
  have hg := below_grown hb none
  ⟨h.stop.kept hg (by simp), h.res.kept hg (by simp), h.at_.below hb, h.len, h.sn.kept hg (fun r e => by cases e), h.firm.still hg (Far.none W), h.vals, h.below.trans (hb.mono h.below.size), h.lo⟩
/-- and its copy -/
structure A2 (w : World) (sb mb cb cm g : Nat) (bs : Nat → Nat) (d room st : Int) (l lc : List (Int × Value)) (W : World) : Prop where
  one : A1 w sb mb g bs d room st l W
  ac : At W cb d room cm lc
  lenc : (lc.length : Int) ≤ room
  ne : cm ≠ mb
  loc : w.heap.size + 2 ≤ cm
theorem A2.belowW {W' : World} (h : A2 w sb mb cb cm g bs d room st l lc W) (hb : Below W.heap.size W W') : A2 w sb mb cb cm g bs d room st l lc W' := ⟨h.one.belowW hb, h.ac.below hb, h.lenc, h.ne, h.loc⟩
def valsOf (l : List (Int × Value)) (pre : List (Fin l.length)) : List Value := pre.map fun x => at? (kth l x.1) l
def intsOf (l : List (Int × Value)) (pre : List (Fin l.length)) : List Value := pre.map fun x => .int .i64 (kth l x.1)
/-- and what the first loop has collected -/
structure A3 (w : World) (sb mb cb cm g M1 M2 b0 : Nat) (Ds : List Nat) (bs : Nat → Nat) (d room st : Int) (l lc : List (Int × Value)) (v1 v2 : Value) (W : World) : Prop where
  two_ : A2 w sb mb cb cm g bs d room st l lc W
  rows : Two b0 M1 M2 27 31 32 3 v1 v2 (valsOf l (List.finRange l.length)) (intsOf l (List.finRange l.length)) l.length W
  ds : ∀ D ∈ Ds, W.heap[D]? = some (.deferred (some []))
theorem Two.below' {t1 e1 t2 e2 : TypeId} {xs1 xs2 : List Value} {n : Nat} {W' : World} (h : Two b0 M1 M2 t1 e1 t2 e2 v1 v2 xs1 xs2 n W) (hb : Below W.heap.size W W') : Two b0 M1 M2 t1 e1 t2 e2 v1 v2 xs1 xs2 n W' :=
  have hg := below_grown hb none
  have hf := Far.none W
  ⟨hf.box hg h.x1, hf.box hg h.x2, hf.row hg h.r1, hf.row hg h.r2⟩
theorem A3.belowW {W' : World} (h : A3 w sb mb cb cm g M1 M2 b0 Ds bs d room st l lc v1 v2 W) (hb : Below W.heap.size W W') : A3 w sb mb cb cm g M1 M2 b0 Ds bs d room st l lc v1 v2 W' := ⟨h.two_.belowW hb, h.rows.below' hb, fun D hD => (hb.block D (Array.getElem?_eq_some_iff.1 (h.ds D hD)).1).trans (h.ds D hD)⟩
theorem A3.drew (h : A3 w sb mb cb cm g M1 M2 b0 Ds bs d room st l lc v1 v2 W) : A3 w sb mb cb cm g M1 M2 b0 Ds bs d room st l lc v1 v2 W.drew := h.belowW (Below.refl _ W).drew
/-- a step in the copy's map -/
theorem A3.turned {W' : World} {lc' : List (Int × Value)} (h : A3 w sb mb cb cm g M1 M2 b0 Ds bs d room st l lc v1 v2 W) (hg : W.grownBy W' (some cm)) (ha : At W' cb d room cm lc') (hl : (lc'.length : Int) ≤ room) : A3 w sb mb cb cm g M1 M2 b0 Ds bs d room st l lc' v1 v2 W' := by
  have hf := h.two_.ac.map_row
  have h1 := h.two_.one
  exact ⟨⟨⟨hf.box hg h1.stop, hf.box hg h1.res, hf.at hg h1.at_ (fun e => h.two_.ne (Option.some.inj e)), h1.len, hf.snaps hg h1.sn, h1.firm.still hg hf, h1.vals, h1.below.grown hg h1.below.size (fun k e => by cases e; have := h.two_.loc; omega), h1.lo⟩, ha, hl, h.two_.ne, h.two_.loc⟩,
    ⟨hf.box hg h.rows.x1, hf.box hg h.rows.x2, hf.row hg h.rows.r1, hf.row hg h.rows.r2⟩, fun D hD => (hg.block D (Array.getElem?_eq_some_iff.1 (h.ds D hD)).1 fun e => by
      obtain ⟨es, clock, hb, _⟩ := h.two_.ac.own
      have hh := h.ds D hD
      rw [Option.some.inj e, hb] at hh
      cases hh).trans (h.ds D hD)⟩
theorem A3.offer (h : A3 w sb mb cb cm g M1 M2 b0 Ds bs d room st l lc v1 v2 W) {i : Int} {k : Nat} (hi : 0 ≤ i) (hwf : (Lit.int .i64 i).wf = true) (hd : 1 ≤ d) (hr : 1 ≤ room) (hr2 : room ≤ 100) : Calls Tryz.prog 10 #[.pointer (some ⟨cb, 0, none⟩), .int .i64 i, .pointer (some ⟨bs (k % 4), 0, none⟩)] W fun e w' => ∃ b lc', e = .returned (.tuple #[.bool b, .int .i64 0]) ∧ A3 w sb mb cb cm g M1 M2 b0 Ds bs d room st l lc' v1 v2 w' := by
  obtain ⟨_, a, ha⟩ := h.two_.one.sn (k % 4) (by omega)
  refine (offer_ok h.two_.ac ha hi hwf hd hr (by have := h.two_.lenc; omega)).mono ?_
  rintro e w' ⟨rfl, hat, hg⟩
  exact ⟨_, _, rfl, h.turned hg hat (length_offer h.two_.lenc)⟩
theorem A3.cut (h : A3 w sb mb cb cm g M1 M2 b0 Ds bs d room st l lc v1 v2 W) {n : Int} : Calls Tryz.prog 14 #[.pointer (some ⟨cb, 0, none⟩), .int .i64 n] W fun e w' => e = .returned (.int .i64 0) ∧ ∃ lc', A3 w sb mb cb cm g M1 M2 b0 Ds bs d room st l lc' v1 v2 w' := by
  refine (cut_ok' h.two_.ac).mono ?_
  rintro e w' ⟨rfl, hat, hg⟩
  refine ⟨rfl, _, h.turned hg hat ?_⟩
  have := List.length_filter_le (fun p : Int × Value => decide (p.1 ≤ n)) lc
  have := h.two_.lenc
  unfold St.cut
  omega
theorem info31 : (Tryz.prog.info? 31).map (fun i => (i.zero, i.size, i.bytes)) = some (some (.pointer none), 1, 8) := by kernel_rfl
/-- the first loop over All -/
def I1 (l : List (Int × Value)) (b0 M1 M2 : Nat) (WB : World) (pre : List (Fin l.length)) (W : World) : Prop :=
  (∃ v1 v2, Two b0 M1 M2 27 31 32 3 v1 v2 (valsOf l pre) (intsOf l pre) pre.length W) ∧ Below b0 WB W
theorem i1_own {l : List (Int × Value)} {b0 M1 M2 : Nat} {WB : World} {B0 : Nat} (hb : b0 ≤ WB.heap.size) (hB : b0 ≤ B0) : OwnFrom B0 (I1 l b0 M1 M2 WB) := fun pre A B row ⟨⟨v1, v2, h⟩, hb1⟩ hg hr => by
  have hf : Far A row := Far.of_own hr
  exact ⟨⟨v1, v2, hf.box hg h.x1, hf.box hg h.x2, hf.row hg h.r1, hf.row hg h.r2⟩, hb1.grown hg (Nat.le_trans hb hb1.size) (fun k e => by have := (hr k e).1; omega)⟩
theorem valsOf_snoc (l : List (Int × Value)) (pre : List (Fin l.length)) (x : Fin l.length) : valsOf l (pre ++ [x]) = valsOf l pre ++ [at? (kth l x.1) l] := by unfold valsOf; simp
theorem intsOf_snoc (l : List (Int × Value)) (pre : List (Fin l.length)) (x : Fin l.length) : intsOf l (pre ++ [x]) = intsOf l pre ++ [.int .i64 (kth l x.1)] := by unfold intsOf; simp
/-- the boxes behind the first append -/
theorem two_cells {b0 M1 M2 : Nat} {v1 v2 : Value} {xs1 xs2 : List Value} {n : Nat} {W A W1 : World} (h : Two b0 M1 M2 27 31 32 3 v1 v2 xs1 xs2 n W) (hA : W.grownBy A none) (g1 : A.grownBy W1 v1.ownBlock) :
    W1.cell? ⟨M1, 0, none⟩ = some v1 ∧ W1.cell? ⟨M2, 0, none⟩ = some v2 :=
  ⟨((h.x1.kept hA (by simp)).kept g1 (h.x1.not_row (by decide) h.r1)).cell, ((h.x2.kept hA (by simp)).kept g1 (h.x2.not_row (by decide) h.r1)).cell⟩
theorem two_row2 {b0 M1 M2 : Nat} {v1 v2 : Value} {xs1 xs2 : List Value} {n : Nat} {W A W1 : World} (h : Two b0 M1 M2 27 31 32 3 v1 v2 xs1 xs2 n W) (hA : W.grownBy A none) (g1 : A.grownBy W1 v1.ownBlock) : W1.ownsRow b0 3 1 v2 n xs2 :=
  ((Far.none W).row hA h.r2).kept g1 (by
    cases hv : v2.ownBlock with
    | none => exact .inl rfl
    | some j =>
      refine .inr fun e => ?_
      obtain ⟨_, c1, _⟩ := row_at h.r1 e.symm
      obtain ⟨_, c2, _⟩ := row_at h.r2 hv
      rw [c1] at c2
      cases c2)
theorem tmp_kept {b0 : Nat} {e : TypeId} {v1 : Value} {xs1 : List Value} {n g : Nat} {u : Value} {W A W1 : World} (r1 : W.ownsRow b0 e 1 v1 n xs1) (g1 : A.grownBy W1 v1.ownBlock) (hg : W.heap.size ≤ g) (hc : A.cell? ⟨g, 0, none⟩ = some u) : W1.cell? ⟨g, 0, none⟩ = some u :=
  g1.cell hc fun e' => by
    obtain ⟨_, _, _, h⟩ := row_at r1 e'.symm
    have : g < W.heap.size := h
    omega
theorem apart_round {l : List (Int × Value)} {b0 M1 M2 : Nat} {WB W A1 W1 A2 W2 : World} {v1 v2 v1' v2' : Value} {pre : List (Fin l.length)} {x : Fin l.length} {av : Addr} (h : Two b0 M1 M2 27 31 32 3 v1 v2 (valsOf l pre) (intsOf l pre) pre.length W) (hM : M1 ≠ M2) (hb1 : b0 ≤ M1) (hb2 : b0 ≤ M2) (hbW : b0 ≤ W.heap.size) (hB : Below b0 WB W)
    (hv1 : valsOf l (pre ++ [x]) = valsOf l pre ++ [.pointer (some av)]) (hv2 : intsOf l (pre ++ [x]) = intsOf l pre ++ [.int .i64 (kth l x.1)])
    (hA1 : W.grownBy A1 none) (own1 : W1.ownsRow b0 31 1 v1' (pre.length + 1) (valsOf l pre ++ [.pointer (some av)])) (g1 : A1.grownBy W1 v1.ownBlock) (l1 : v1'.ownBlock = v1.ownBlock ∨ v1'.ownBlock = some A1.heap.size)
    (hA2 : W1.grownBy A2 none) (own2 : W2.ownsRow b0 3 1 v2' (pre.length + 1) (intsOf l pre ++ [.int .i64 (kth l x.1)])) (g2 : A2.grownBy W2 v2.ownBlock) (l2 : v2'.ownBlock = v2.ownBlock ∨ v2'.ownBlock = some A2.heap.size) (B0 : Nat) :
    ((W2.cell? ⟨M1, 0, none⟩ = some v1 ∧ W2.cell? ⟨M2, 0, none⟩ = some v2 ∧ W2.frozen? ⟨M1, 0, none⟩ = false) ∧ ((W2.setCell ⟨M1, 0, none⟩ v1').cell? ⟨M2, 0, none⟩ = some v2 ∧ (W2.setCell ⟨M1, 0, none⟩ v1').frozen? ⟨M2, 0, none⟩ = false)) ∧
    (KeepsFrom B0 W ((W2.setCell ⟨M1, 0, none⟩ v1').setCell ⟨M2, 0, none⟩ v2') ∧ KB (XTwo M1 M2) W ((W2.setCell ⟨M1, 0, none⟩ v1').setCell ⟨M2, 0, none⟩ v2') ∧ I1 l b0 M1 M2 WB (pre ++ [x]) ((W2.setCell ⟨M1, 0, none⟩ v1').setCell ⟨M2, 0, none⟩ v2')) := by
  obtain ⟨⟨q1, q2⟩, hT, hK, hKB, hBl⟩ := h.step (F := (W2.setCell ⟨M1, 0, none⟩ v1').setCell ⟨M2, 0, none⟩ v2') (by decide) (by decide) (by decide) (by decide) (by decide) hM hb1 hb2 hbW hA1 own1 g1 l1 hA2 own2 g2 l2 (.inl rfl) B0
  have q3 := q2.other (fun e => hM e.symm) v1'
  refine ⟨⟨⟨q1.cell, q2.cell, q1.frozen⟩, q3.cell, q3.frozen⟩, hK, hKB, ⟨v1', v2', ?_⟩, hB.trans hBl⟩
  rw [hv1, hv2, List.length_append]
  exact hT
theorem snap_size : (Tryz.prog.info? 158).map (fun i => decide (i.size = 0)) = some false := by kernel_rfl
/-- pointers that are not the same -/
theorem ptr_nother {a b : Addr} {ca cb : Array Value} {ta tb : TypeId} {w : World} (hne : a ≠ b) (ha : w.heap[a.block]? = some (.cells ca ta (0, 0))) (hb : w.heap[b.block]? = some (.cells cb tb (0, 0))) : (binOp .neq 31 (.pointer (some a)) (.pointer (some b))).run Tryz.prog w = .ok (.bool true) w := by
  have hs := snap_size
  cases hj : Tryz.prog.info? 158 with
  | none => rw [hj] at hs; cases hs
  | some j =>
    rw [hj] at hs
    have hz : j.size ≠ 0 := by simpa using hs
    have h : ∀ d : Nat, (Op.equalIn (d + 1) 31 (.pointer (some a)) (.pointer (some b))).run Tryz.prog w = .ok false w := fun d => by
      simp [Op.equalIn, run_underlying Tryz.underlying31, sizeOf, typeInfo, hj, hz, run_sameAddr_other w hne ha hb]
    simp only [binOp]
    simp [Op.equal, Op.maxDepth, h 9999]
theorem valsOf_get (l : List (Int × Value)) {n : Nat} (h : n < l.length) : (valsOf l (List.finRange l.length))[n]? = some (at? (kth l n) l) := by
  unfold valsOf
  simp [h]
theorem intsOf_get (l : List (Int × Value)) {n : Nat} (h : n < l.length) : (intsOf l (List.finRange l.length))[n]? = some (.int .i64 (kth l n)) := by
  unfold intsOf
  simp [h]
/-- what stands at the n-th index -/
theorem A1.nth (h : A1 w sb mb g bs d room st l W) {n : Nat} (hn : n < l.length) : ∃ j, j < 4 ∧ at? (kth l n) l = .pointer (some ⟨bs j, 0, none⟩) := by
  obtain ⟨y, hy⟩ := kth_mem (l := l) (j := n) (by rw [keys_length]; exact hn)
  obtain ⟨j, hj, e⟩ := h.vals _ hy
  exact ⟨j, hj, by rw [at_of_mem h.at_.inc hy]; exact e⟩
/-- the second loop over All -/
def I2 (l : List (Int × Value)) (N : Nat) (WN : World) (pre : List (Fin l.length)) (W : World) : Prop :=
  pre = (List.finRange l.length).take pre.length ∧ Boxed W N 3 (.int .i64 (pre.length : Int)) ∧ Below N WN W
theorem i2_own {l : List (Int × Value)} {N B0 : Nat} {WN : World} (hN : N ≤ WN.heap.size) (hB : N ≤ B0) : OwnFrom B0 (I2 l N WN) := fun pre A B row ⟨h1, h2, h3⟩ hg hr =>
  ⟨h1, (Far.of_own hr).box hg h2, h3.grown hg (Nat.le_trans hN h3.size) (fun k e => by have := (hr k e).1; omega)⟩
theorem take_snoc {l : List (Int × Value)} {pre : List (Fin l.length)} {x : Fin l.length} (h : pre = (List.finRange l.length).take pre.length) (hx : x.1 = pre.length) : pre ++ [x] = (List.finRange l.length).take (pre ++ [x]).length := by
  rw [List.length_append, List.length_singleton, List.take_add_one, ← h, List.getElem?_eq_getElem (by rw [List.length_finRange, ← hx]; exact x.2)]
  congr 1
  simp
  exact Fin.ext hx
theorem take_not {l : List (Int × Value)} {pre : List (Fin l.length)} {x : Fin l.length} (hx : x.1 ≠ pre.length) : pre ++ [x] ≠ (List.finRange l.length).take (pre ++ [x]).length := fun e => by
  have h1 : (pre ++ [x])[pre.length]? = some x := by simp
  rw [e, List.length_append, List.length_singleton, List.getElem?_take, if_pos (by omega)] at h1
  have hl := (List.getElem?_eq_some_iff.1 h1).1
  rw [List.getElem?_eq_getElem hl] at h1
  simp at h1
  exact hx (by rw [← h1])
/-- a round of the second loop -/
theorem I2.round {l : List (Int × Value)} {N : Nat} {WN W : World} {pre : List (Fin l.length)} {x : Fin l.length} (h : I2 l N WN pre W) (hx : x.1 = pre.length) {m : Int} (hm : m = ((pre.length + 1 : Nat) : Int)) (B0 : Nat) :
    KeepsFrom B0 W (W.setCell ⟨N, 0, none⟩ (.int .i64 m)) ∧ KB (X1 N) W (W.setCell ⟨N, 0, none⟩ (.int .i64 m)) ∧ I2 l N WN (pre ++ [x]) (W.setCell ⟨N, 0, none⟩ (.int .i64 m)) := by
  subst hm
  refine ⟨(KeepsOthers.setCell _ _ _).from _, kb_set W N _, take_snoc h.1 hx, ?_, h.2.2.setCell (p := ⟨N, 0, none⟩) (Nat.le_refl _) _⟩
  rw [List.length_append, List.length_singleton]
  exact h.2.1.set _
/-- the third loop over All: so many rounds, at most st -/
def I3 (l : List (Int × Value)) (st : Int) (K : Nat) (WK : World) (pre : List (Fin l.length)) (W : World) : Prop :=
  (pre.length : Int) ≤ st ∧ Boxed W K 3 (.int .i64 (pre.length : Int)) ∧ Below K WK W
def X9 (l : List (Int × Value)) (st : Int) (K : Nat) (WK : World) (c : Code) (pre : List (Fin l.length)) (W : World) : Prop :=
  c = .exit 8 ∧ (pre.length : Int) = st + 1 ∧ Boxed W K 3 (.int .i64 st) ∧ Below K WK W
theorem i3_own {l : List (Int × Value)} {K B0 : Nat} {st : Int} {WK : World} (hN : K ≤ WK.heap.size) (hB : K ≤ B0) : OwnFrom B0 (I3 l st K WK) := fun pre A B row ⟨h1, h2, h3⟩ hg hr =>
  ⟨h1, (Far.of_own hr).box hg h2, h3.grown hg (Nat.le_trans hN h3.size) (fun k e => by have := (hr k e).1; omega)⟩
theorem x9_own {l : List (Int × Value)} {K B0 : Nat} {st : Int} {WK : World} (hN : K ≤ WK.heap.size) (hB : K ≤ B0) (c : Code) : OwnFrom B0 (X9 l st K WK c) := fun pre A B row ⟨h0, h1, h2, h3⟩ hg hr =>
  ⟨h0, h1, (Far.of_own hr).box hg h2, h3.grown hg (Nat.le_trans hN h3.size) (fun k e => by have := (hr k e).1; omega)⟩
theorem I3.round {l : List (Int × Value)} {K : Nat} {st : Int} {WK W : World} {pre : List (Fin l.length)} {x : Fin l.length} (h : I3 l st K WK pre W) (hx : (pre.length : Int) < st) {m : Int} (hm : m = ((pre.length + 1 : Nat) : Int)) (B0 : Nat) :
    KeepsFrom B0 W (W.setCell ⟨K, 0, none⟩ (.int .i64 m)) ∧ KB (X1 K) W (W.setCell ⟨K, 0, none⟩ (.int .i64 m)) ∧ I3 l st K WK (pre ++ [x]) (W.setCell ⟨K, 0, none⟩ (.int .i64 m)) := by
  subst hm
  refine ⟨(KeepsOthers.setCell _ _ _).from _, kb_set W K _, ?_, ?_, h.2.2.setCell (p := ⟨K, 0, none⟩) (Nat.le_refl _) _⟩
  · rw [List.length_append, List.length_singleton]; omega
  · rw [List.length_append, List.length_singleton]
    exact h.2.1.set _
/-- behind the loops -/
structure A5 (w : World) (sb mb cb cm g M1 M2 b0 N K D3 : Nat) (Ds : List Nat) (bs : Nat → Nat) (d room st : Int) (l lc : List (Int × Value)) (v1 v2 : Value) (m : Int) (W : World) : Prop where
  a3 : A3 w sb mb cb cm g M1 M2 b0 Ds bs d room st l lc v1 v2 W
  n : Boxed W N 3 (.int .i64 (l.length : Int))
  k : Boxed W K 3 (.int .i64 m)
  d3 : W.heap[D3]? = some (.deferred (some []))
theorem A5.belowW {N K D3 : Nat} {m : Int} {W' : World} (h : A5 w sb mb cb cm g M1 M2 b0 N K D3 Ds bs d room st l lc v1 v2 m W) (hb : Below W.heap.size W W') : A5 w sb mb cb cm g M1 M2 b0 N K D3 Ds bs d room st l lc v1 v2 m W' :=
  ⟨h.a3.belowW hb, h.n.kept (below_grown hb none) (by simp), h.k.kept (below_grown hb none) (by simp), (hb.block D3 (Array.getElem?_eq_some_iff.1 h.d3).1).trans h.d3⟩
theorem A5.fin {N K D3 D2 D : Nat} {m : Int} {w1 w2 : World} (h : A5 w sb mb cb cm g M1 M2 b0 N K D3 [D2, D] bs d room st l lc v1 v2 m W) (h12 : D3 ≠ D2) (h13 : D3 ≠ D) (h23 : D2 ≠ D) (hD3 : w.heap.size ≤ D3) (hD2 : w.heap.size ≤ D2) (hD : w.heap.size ≤ D) (hb : Below W.drew.heap.size W.drew w1) (hb2 : Below w1.heap.size w1 w2) :
    (w2.cell? ⟨w.heap.size + 1, 0, none⟩ = some (.bool false) ∧ w2.frozen? ⟨w.heap.size + 1, 0, none⟩ = false) ∧ (w2.setCell ⟨w.heap.size + 1, 0, none⟩ (.bool true)).heap[D3]? = some (.deferred (some [])) ∧
    ((w2.setCell ⟨w.heap.size + 1, 0, none⟩ (.bool true)).putObj D3 (.deferred none)).heap[D2]? = some (.deferred (some [])) ∧ (((w2.setCell ⟨w.heap.size + 1, 0, none⟩ (.bool true)).putObj D3 (.deferred none)).putObj D2 (.deferred none)).heap[D]? = some (.deferred (some [])) ∧
    ((((w2.setCell ⟨w.heap.size + 1, 0, none⟩ (.bool true)).putObj D3 (.deferred none)).putObj D2 (.deferred none)).putObj D (.deferred none)).cell? ⟨w.heap.size + 1, 0, none⟩ = some (.bool true) ∧
    Below w.heap.size w ((((w2.setCell ⟨w.heap.size + 1, 0, none⟩ (.bool true)).putObj D3 (.deferred none)).putObj D2 (.deferred none)).putObj D (.deferred none)) := by
  have hw := h.belowW ((Below.refl _ W).drew.trans hb)
  have h2 := hw.belowW hb2
  have b2 := h2.a3.two_.one.res
  have k3 := (KeepsOthers.setCell w2 ⟨w.heap.size + 1, 0, none⟩ (.bool true)).same D3 _ h2.d3 rfl
  have k2 := (KeepsOthers.setCell w2 ⟨w.heap.size + 1, 0, none⟩ (.bool true)).same D2 _ (h2.a3.ds D2 (by simp)) rfl
  have k1 := (KeepsOthers.setCell w2 ⟨w.heap.size + 1, 0, none⟩ (.bool true)).same D _ (h2.a3.ds D (by simp)) rfl
  have k2' : ((w2.setCell ⟨w.heap.size + 1, 0, none⟩ (.bool true)).putObj D3 (.deferred none)).heap[D2]? = some (.deferred (some [])) := by rw [World.putObj_heap_other (Ne.symm h12)]; exact k2
  have k1' : (((w2.setCell ⟨w.heap.size + 1, 0, none⟩ (.bool true)).putObj D3 (.deferred none)).putObj D2 (.deferred none)).heap[D]? = some (.deferred (some [])) := by rw [World.putObj_heap_other (Ne.symm h23), World.putObj_heap_other (Ne.symm h13)]; exact k1
  have c0 := (b2.set (.bool true)).cell
  have c1 := cell_kept c0 (grownBy_putObj' _ D3 (.deferred none)) (fun r e => by cases e; exact ⟨_, k3, rfl⟩)
  have c2 := cell_kept c1 (grownBy_putObj' _ D2 (.deferred none)) (fun r e => by cases e; exact ⟨_, k2', rfl⟩)
  have c3 := cell_kept c2 (grownBy_putObj' _ D (.deferred none)) (fun r e => by cases e; exact ⟨_, k1', rfl⟩)
  have hB := h2.a3.two_.one.below.setCell (p := ⟨w.heap.size + 1, 0, none⟩) (by show w.heap.size ≤ w.heap.size + 1; omega) (.bool true)
  exact ⟨⟨b2.cell, b2.frozen⟩, k3, k2', k1', c3, ((hB.trans (belowK_b (w := w) (Nat.le_refl _) _ D3 _ (.deferred none) hD3 k3 rfl rfl)).trans (belowK_b (w := w) (Nat.le_refl _) _ D2 _ (.deferred none) hD2 k2' rfl rfl)).trans (belowK_b (w := w) (Nat.le_refl _) _ D _ (.deferred none) hD k1' rfl rfl)⟩
set_option maxRecDepth 100000 in
set_option maxHeartbeats 4000000 in
theorem apart_ok {w : World} (hw : ∀ W, Below w.heap.size w W → Calls Tryz.prog 13 #[] W (WorksE W)) (hsn : ∀ W, Below w.heap.size w W → Calls Tryz.prog 9 #[.int .i64 4] W (SnapsF W))
    {iv cp st : Int} (hi0 : 0 ≤ iv) (hi1 : iv < 256) (hc0 : 0 ≤ cp) (hc1 : cp < 256) (hs0 : 0 ≤ st) (hs1 : st < 256) {v u : Value} {us ms : List Int} (hu : U8s w v us) (hm : U8s w u ms) :
    CallsIn Fence.wide 8 Tryz.prog 6 #[.int .u8 iv, .int .u8 cp, v, u, .int .u8 st] w (LawE w) := by
  have hlv := hu.len
  have hlu := hm.len
  by_cases hbig : 20 < us.length ∨ 20 < ms.length
  · have hb0 : Below w.heap.size w ((w.alloc (.cells #[.int .u8 st] 5)).alloc (.cells #[.bool false] 4)) := ((Below.refl _ w).alloc (Nat.le_refl _) _).alloc (by simp) _
    have hwk := callsIn_wide (n := 7).2 (hw _ hb0)
    have hbx := Boxed.new (w.alloc (.cells #[.int .u8 st] 5)) 4 (.bool false)
    rw [World.size_alloc] at hbx
    by_cases h1 : 20 < us.length
    · refine callsIn_of_wp_marks Tryz.func6 rfl trivial ?_ rfl
      simp only [Tryz.ntmps6, List.size_toArray, List.length_cons, List.length_nil, Nat.reduceAdd, Nat.reduceSub, Array.replicate_succ, Array.replicate_zero, List.push_toArray, List.append_toArray, List.nil_append, List.cons_append]
      gi_wp2_with (refine ⟨trivial, ?_⟩; gi_at_call 13; refine hwk.mono ?_; rintro e w' ⟨rfl, hb⟩; have hbx' := Boxed.kept hbx (below_grown hb none) (by simp); have hc' := hbx'.cell; have hf' := hbx'.frozen; have hg' := (hbx'.set (.bool true)).cell)
      refine ⟨.bool true, ?_, rfl, (hb0.trans (hb.mono hb0.size)).setCell (p := ⟨w.heap.size + 1, 0, none⟩) (by show w.heap.size ≤ w.heap.size + 1; omega) _⟩
      simp [results, Tryz.f6, go_sem, hg']
    · have h2 : 20 < ms.length := by omega
      refine callsIn_of_wp_marks Tryz.func6 rfl trivial ?_ rfl
      simp only [Tryz.ntmps6, List.size_toArray, List.length_cons, List.length_nil, Nat.reduceAdd, Nat.reduceSub, Array.replicate_succ, Array.replicate_zero, List.push_toArray, List.append_toArray, List.nil_append, List.cons_append]
      gi_wp2_with (refine ⟨trivial, ?_⟩; gi_at_call 13; refine hwk.mono ?_; rintro e w' ⟨rfl, hb⟩; have hbx' := Boxed.kept hbx (below_grown hb none) (by simp); have hc' := hbx'.cell; have hf' := hbx'.frozen; have hg' := (hbx'.set (.bool true)).cell)
      refine ⟨.bool true, ?_, rfl, (hb0.trans (hb.mono hb0.size)).setCell (p := ⟨w.heap.size + 1, 0, none⟩) (by show w.heap.size ≤ w.heap.size + 1; omega) _⟩
      simp [results, Tryz.f6, go_sem, hg']
  · have hd1 : 1 ≤ 1 + iv % 20 := by omega
    have hd2 : 1 + iv % 20 ≤ 20 := by omega
    have hr1 : 1 ≤ 1 + cp % 12 := by omega
    have hr2 : 1 + cp % 12 ≤ 12 := by omega
    have h20 : ¬ 20 < us.length := by omega
    have h20' : ¬ 20 < ms.length := by omega
    clear hbig
    have hnew := callsIn_wide (n := 7).2 (new_ok hd1 (by omega : 1 + iv % 20 ≤ 10000) hr1 (by omega : 1 + cp % 12 ≤ 100) ((w.alloc (.cells #[.int .u8 st] 5)).alloc (.cells #[.bool false] 4)))
    have hB0 : Below w.heap.size w ((((w.alloc (.cells #[.int .u8 st] 5)).alloc (.cells #[.bool false] 4)).alloc (.map #[] 0)).alloc (.cells #[.int .i64 (1 + iv % 20), .int .i64 (1 + cp % 12), .map (some ((w.alloc (.cells #[.int .u8 st] 5)).alloc (.cells #[.bool false] 4)).heap.size)] 65)) := ((((Below.refl _ w).alloc (Nat.le_refl _) _).alloc (by simp) _).alloc (by simp; omega) _).alloc (by simp; omega) _
    have hA0 := at_new (d := 1 + iv % 20) (room := 1 + cp % 12) ((w.alloc (.cells #[.int .u8 st] 5)).alloc (.cells #[.bool false] 4))
    have hS0 : Boxed ((((w.alloc (.cells #[.int .u8 st] 5)).alloc (.cells #[.bool false] 4)).alloc (.map #[] 0)).alloc (.cells #[.int .i64 (1 + iv % 20), .int .i64 (1 + cp % 12), .map (some ((w.alloc (.cells #[.int .u8 st] 5)).alloc (.cells #[.bool false] 4)).heap.size)] 65)) w.heap.size 5 (.int .u8 st) := (((Boxed.new w 5 (.int .u8 st)).alloc _).alloc _).alloc _
    have hR0 : Boxed ((((w.alloc (.cells #[.int .u8 st] 5)).alloc (.cells #[.bool false] 4)).alloc (.map #[] 0)).alloc (.cells #[.int .i64 (1 + iv % 20), .int .i64 (1 + cp % 12), .map (some ((w.alloc (.cells #[.int .u8 st] 5)).alloc (.cells #[.bool false] 4)).heap.size)] 65)) (w.alloc (.cells #[.int .u8 st] 5)).heap.size 4 (.bool false) := ((Boxed.new (w.alloc (.cells #[.int .u8 st] 5)) 4 (.bool false)).alloc _).alloc _
    have hsn0 := callsIn_wide (n := 7).2 (hsn _ hB0)
    simp only [World.size_alloc] at hnew hB0 hA0 hR0 hS0 hsn0
    refine callsIn_of_wp_marks Tryz.func6 rfl trivial ?_ rfl
    simp only [Tryz.ntmps6, List.size_toArray, List.length_cons, List.length_nil, Nat.reduceAdd, Nat.reduceSub, Array.replicate_succ, Array.replicate_zero, List.push_toArray, List.append_toArray, List.nil_append, List.cons_append]
    gi_wp2_with (first
      | (refine ⟨trivial, ?_⟩; gi_at_call 8; refine hnew.mono ?_; rintro e w' ⟨rfl, rfl⟩)
      | (refine ⟨trivial, ?_⟩; gi_at_call 9; refine hsn0.mono ?_; rintro e w' ⟨g, c, bs, rfl, hsn', hfirm, hb⟩; have ci : A1 w (w.heap.size + 1 + 1 + 1) (w.heap.size + 1 + 1) g bs (1 + iv % 20) (1 + cp % 12) st [] w' := ⟨hS0.kept (below_grown hb none) (by simp), hR0.kept (below_grown hb none) (by simp), hA0.below hb, by simp; omega, hsn', hfirm, by simp, hB0.trans (hb.mono (by simp; omega)), by omega⟩))
    clear hB0 hA0 hsn0 hnew hsn' hfirm hb hsn hR0 hS0
    gi_loopw [16] (fun i wr => ∃ k : Nat, k ≤ us.length ∧ i = .int .i64 k ∧ ∃ l, A1 w (w.heap.size + 1 + 1 + 1) (w.heap.size + 1 + 1) g bs (1 + iv % 20) (1 + cp % 12) st l wr) (fun i _ => us.length - (RowKit.intOf i).toNat)
    case atStart => exact ⟨0, by omega, rfl, _, ci⟩
    case round =>
      obtain ⟨k, hk, rfl, l, ci⟩ := hrel
      by_cases hlt : k < us.length
      · rcases hu with ⟨_, hus⟩ | ⟨a, c2, rfl, hus⟩
        · rw [hus] at hlt; simp at hlt
        · obtain ⟨hcell, hu0, hu1⟩ := hus k us[k] (by simp [hlt])
          have hcell := (ci.below.cell (World.block_lt_of_cell? _ _ hcell)).trans hcell
          generalize us[k] = u0 at hcell hu0 hu1
          have hp0 : 0 ≤ u0 * (1 + iv % 20) := Int.mul_nonneg hu0 (by omega)
          have hp1 : u0 * (1 + iv % 20) ≤ 255 * 20 := Int.mul_le_mul (by omega) hd2 (by omega) (by omega)
          have hof := callsIn_wide (n := 7).2 (ci.drew.offer (k := k) hp0 (wf_small hp0 (by omega)) hd1 (by omega) (by omega))
          have q := (ci.sn (k % 4) (by omega)).1
          have hj2 : (k : Int) % 4 < 4 := by omega
          have hj3 : 0 ≤ (k : Int) % 4 := by omega
          have hj6 : ((k : Int) % 4).toNat = k % 4 := by omega
          have hwu : IntKind.i64.wrap u0 = u0 := wrap_small hu0 (by omega)
          have hwp : IntKind.i64.wrap (u0 * (1 + iv % 20)) = u0 * (1 + iv % 20) := wrap_small hp0 (by omega)
          have htm : (k : Int).tmod 4 = (k : Int) % 4 := Int.tmod_eq_emod_of_nonneg (by omega)
          have HU := Lib.hid hus
          have HM := Lib.hid hm
          clear hus hw hm
          gi_wp2
          rename_i K0 hK0
          refine wpIn_mono (Q := fun e a' w' => match e with | .normal => K0 a' w' | _ => False) ?_ (by intro e a' w' hm; cases e with | normal => exact hm | _ => exact hm.elim)
          gi_region_with (refine ⟨trivial, ?_⟩; gi_at_call 10; (with_reducible refine CallsIn.mono hof ?_); rintro e w1 ⟨b', l', rfl, ci⟩)
          all_goals
            show K0 _ _
            refine hK0 _ _ ?_
            try simp only [Act.put]
            gi_wp2
            exact ⟨⟨k + 1, by omega, int_congr (by omega), _, ci⟩, by simp [RowKit.intOf]; omega⟩
      · clear hu
        have hcp := callsIn_wide (n := 7).2 (copy_ok ci.at_)
        have hall := fun W => callsIn_wide (n := 7).2 (all_ok (w.heap.size + 1 + 1 + 1) W)
        have hnf := fn_not_nil
        gi_wp2_with (first
          | (refine ⟨trivial, ?_⟩; gi_at_call 16; refine hcp.mono ?_; rintro e w' ⟨rfl, hac, hbc⟩)
          | (refine ⟨trivial, ?_⟩; gi_at_call 17; refine (hall _).mono ?_; rintro e w4 ⟨rfl, rfl⟩))
        clear hcp hall hlt hk
        have z1 : w.heap.size + 4 ≤ wr.heap.size := by
          have := World.block_lt_of_cell? _ _ ci.at_.c0
          simp only at this
          omega
        have z2 : wr.heap.size + 2 ≤ w'.heap.size := by
          have := World.block_lt_of_cell? _ _ hac.c0
          simp only at this
          omega
        have a2 : A2 w (w.heap.size + 1 + 1 + 1) (w.heap.size + 1 + 1) (wr.heap.size + 1) wr.heap.size g bs (1 + iv % 20) (1 + cp % 12) st l l w' := ⟨ci.belowW hbc, hac, ci.len, by omega, by omega⟩
        have a2B := a2.belowW ((Below.refl _ w').alloc (Nat.le_refl _) (.cells #[.pointer (some ⟨w.heap.size + 1 + 1 + 1, 0, none⟩)] 23))
        have hx1 := (((Boxed.new (w'.alloc (.cells #[.pointer (some ⟨w.heap.size + 1 + 1 + 1, 0, none⟩)] 23)) 27 (.slice none 0 0)).alloc (.cells #[.slice none 0 0] 32)).alloc (.cells #[.pointer (some ⟨w.heap.size + 1 + 1 + 1, 0, none⟩)] 23))
        have hx2 := ((Boxed.new ((w'.alloc (.cells #[.pointer (some ⟨w.heap.size + 1 + 1 + 1, 0, none⟩)] 23)).alloc (.cells #[.slice none 0 0] 27)) 32 (.slice none 0 0)).alloc (.cells #[.pointer (some ⟨w.heap.size + 1 + 1 + 1, 0, none⟩)] 23))
        have hx3 := (Boxed.new (((w'.alloc (.cells #[.pointer (some ⟨w.heap.size + 1 + 1 + 1, 0, none⟩)] 23)).alloc (.cells #[.slice none 0 0] 27)).alloc (.cells #[.slice none 0 0] 32)) 23 (.pointer (some ⟨w.heap.size + 1 + 1 + 1, 0, none⟩)))
        have hB1 : Below (w'.heap.size + 1) (w'.alloc (.cells #[.pointer (some ⟨w.heap.size + 1 + 1 + 1, 0, none⟩)] 23)) ((((w'.alloc (.cells #[.pointer (some ⟨w.heap.size + 1 + 1 + 1, 0, none⟩)] 23)).alloc (.cells #[.slice none 0 0] 27)).alloc (.cells #[.slice none 0 0] 32)).alloc (.cells #[.pointer (some ⟨w.heap.size + 1 + 1 + 1, 0, none⟩)] 23)) := (((Below.refl _ _).alloc (by simp) _).alloc (by simp) _).alloc (by simp) _
        simp only [World.size_alloc] at hx1 hx2 hx3
        obtain ⟨WB, hWB⟩ : ∃ WB, (w'.alloc (.cells #[.pointer (some ⟨w.heap.size + 1 + 1 + 1, 0, none⟩)] 23)) = WB := ⟨_, rfl⟩
        have hsB : WB.heap.size = w'.heap.size + 1 := by rw [← hWB]; simp
        rw [hWB] at a2B hx1 hx2 hx3 hB1 ⊢
        clear hWB
        obtain ⟨W0, hW0⟩ : ∃ W0, ((WB.alloc (.cells #[.slice none 0 0] 27)).alloc (.cells #[.slice none 0 0] 32)).alloc (.cells #[.pointer (some ⟨w.heap.size + 1 + 1 + 1, 0, none⟩)] 23) = W0 := ⟨_, rfl⟩
        have hsz : W0.heap.size = w'.heap.size + 4 := by rw [← hW0]; simp; omega
        rw [hW0] at hx1 hx2 hx3 hB1 ⊢
        clear hW0
        have hA0 : At W0 (w.heap.size + 1 + 1 + 1) (1 + iv % 20) (1 + cp % 12) (w.heap.size + 1 + 1) l := (a2B.belowW (by rw [hsB]; exact hB1)).one.at_
        obtain ⟨i31, hi31, hz0, hz1, hz2⟩ := info_parts info31
        obtain ⟨i3, hi3, hy0, hy1, hy2⟩ := info_parts info3
        have hstart : ∀ i, XTwo (w'.heap.size + 1) (w'.heap.size + 1 + 1) W0 i → i = w'.heap.size + 1 ∨ i = w'.heap.size + 1 + 1 := fun i h => xtwo_start hx1 hx2 h
        refine wpIn_all (m := 7) (by omega) (B := w'.heap.size + 3) rfl rfl (XTwo (w'.heap.size + 1) (w'.heap.size + 1 + 1)) (xtwo_ok (by omega) (by omega)) (by omega) ?xl ?xs ?xm ?xb hx3.cell hA0
          (I1 l (w'.heap.size + 1) (w'.heap.size + 1) (w'.heap.size + 1 + 1) WB) (fun _ _ _ => False) (i1_own (by omega) (by omega)) (fun _ _ _ _ _ hs _ _ => hs) ⟨⟨_, _, hx1, hx2, World.ownsRow_nil _ _ _ _, World.ownsRow_nil _ _ _ _⟩, hB1⟩ ?round ?done (fun _ _ _ _ _ _ h _ => h.elim)
        case xl => intro i h; rcases hstart i h with e | e <;> omega
        case xs => intro h; rcases hstart _ h with e | e <;> omega
        case xm => intro h; rcases hstart _ h with e | e <;> omega
        case xb => intro h; rcases hstart _ h with e | e <;> omega
        case round =>
          apply Exists.intro
          refine ⟨?assign, ?body⟩
          case assign =>
            intro lp x W K hK
            gi_wp2
            exact hK
          case body =>
            rintro lp pre x W ⟨⟨v1, v2, hT⟩, hbW⟩ hlt
            have hxl : x.1 < (keys l).length := by rw [keys_length]; exact x.2
            obtain ⟨y, hy⟩ := kth_mem (l := l) hxl
            obtain ⟨hk0, hwf, av, hav⟩ := ci.at_.wf _ hy
            have hat : at? (kth l x.1) l = .pointer (some av) := by rw [at_of_mem ci.at_.inc hy]; exact hav
            have hx12 := ci.len
            have hv1 := valsOf_snoc l pre x
            have hv2 := intsOf_snoc l pre x
            rw [hat] at hv1
            have c1 := hT.x1.cell
            have c2 := hT.x2.cell
            have r1 := hT.r1
            have r2 := hT.r2
            have hl1 : pre.length ≤ 100 := by omega
            have hsW : w'.heap.size + 1 ≤ W.heap.size := by have := hbW.size; omega
            have HT := Lib.hid hT
            have HV1 := Lib.hid hv1
            have HV2 := Lib.hid hv2
            have HB := Lib.hid hbW
            rw [hat]
            clear hT hv1 hv2 hbW hat hav hk0 hwf hy hxl hstart hA0 hx1 hx2 hx3 hB1 a2 a2B hac hbc ci hw hm hx12 hlt hlv hlu h20 h20'
            gi_wp2
            refine wpIn_mono (Q := fun e _ W' => match e with | .normal => KeepsFrom W0.heap.size W W' ∧ KB (XTwo (w'.heap.size + 1) (w'.heap.size + 1 + 1)) W W' ∧ I1 l (w'.heap.size + 1) (w'.heap.size + 1) (w'.heap.size + 1 + 1) WB (pre ++ [x]) W' | _ => False) ?_ (by intro e a' W' hm; cases e with | normal => exact hm | _ => exact hm.elim)
            refine wpIn_region_R (R := fun j W' => j < 8 → W'.cell? ⟨w'.heap.size + 1, 0, none⟩ = some v1 ∧ W'.cell? ⟨w'.heap.size + 1 + 1, 0, none⟩ = some v2) (by kernel_rfl) (by kernel_rfl) (by rintro ⟨a', w', h⟩; exact h) ?_
            change wpAnyR Tryz.prog .any _ _ _ 10 (Array.replicate 10 false) _ _
            refine wpAnyR_take (fun W' => W'.cell? ⟨w'.heap.size + 1, 0, none⟩ = some v1 ∧ W'.cell? ⟨w'.heap.size + 1 + 1, 0, none⟩ = some v2) (i := 0) (v := v1) (fun j => decide (8 ≤ j)) rfl (by kernel_rfl) (by kernel_rfl) (by kernel_rfl) (by kernel_rfl) rfl (by kernel_rfl) (fun _ _ _ h => h) (fun j w hb hR => hR (blk_lt hb (by omega))) (fun w hS _ => hS) (.inl ⟨by rfl, fun w hS => ?x0⟩) ⟨c1, c2⟩ ?_
            case x0 => obtain ⟨s1, s2⟩ := hS; go_simp
            refine wpAnyR_take (fun W' => W'.cell? ⟨w'.heap.size + 1, 0, none⟩ = some v1 ∧ W'.cell? ⟨w'.heap.size + 1 + 1, 0, none⟩ = some v2) (i := 1) (v := .pointer (some av)) (fun j => decide (8 ≤ j)) rfl (by kernel_rfl) (by kernel_rfl) (by kernel_rfl) (by kernel_rfl) rfl (by kernel_rfl) (fun _ _ _ h => h) (fun j w hb hR => hR (blk_lt hb (by omega))) (fun w hS _ => hS) (.inl ⟨by rfl, fun w hS => ?x1⟩) ⟨c1, c2⟩ ?_
            case x1 => go_simp
            refine wpAnyR_take (fun W' => W'.cell? ⟨w'.heap.size + 1, 0, none⟩ = some v1 ∧ W'.cell? ⟨w'.heap.size + 1 + 1, 0, none⟩ = some v2) (i := 4) (v := v2) (fun j => decide (7 ≤ j)) rfl (by kernel_rfl) (by kernel_rfl) (by kernel_rfl) (by kernel_rfl) rfl (by kernel_rfl) (fun _ _ _ h => h) (fun j w hb hR => hR (blk_lt hb (by omega))) (fun w hS _ => hS) (.inl ⟨by rfl, fun w hS => ?x4⟩) ⟨c1, c2⟩ ?_
            case x4 => obtain ⟨s1, s2⟩ := hS; go_simp
            refine wpAnyR_take (fun W' => W'.cell? ⟨w'.heap.size + 1, 0, none⟩ = some v1 ∧ W'.cell? ⟨w'.heap.size + 1 + 1, 0, none⟩ = some v2) (i := 5) (v := .int .i64 (kth l x.1)) (fun j => decide (6 ≤ j)) rfl (by kernel_rfl) (by kernel_rfl) (by kernel_rfl) (by kernel_rfl) rfl (by kernel_rfl) (fun _ _ _ h => h) (fun j w hb hR => hR (blk_lt hb (by omega))) (fun w hS _ => hS) (.inl ⟨by rfl, fun w hS => ?x5⟩) ⟨c1, c2⟩ ?_
            case x5 => go_simp
            simp only [Act.put, List.getElem_toArray, List.getElem_cons_zero, List.getElem_cons_succ, List.setIfInBounds_toArray, List.set_cons_zero, List.set_cons_succ]
            refine wpAnyR_ready (rs := [2, 6]) (by kernel_rfl) (by simp) ?_
            refine AllR.value rfl (by rfl) (v := .slice (some ⟨W.heap.size, 0, none⟩) 1 1) (w' := W.drew.alloc (.cells #[.pointer (some av)] 31)) ?y2 ?r2 ?n2 (AllR.value rfl (by rfl) (v := .slice (some ⟨W.heap.size, 0, none⟩) 1 1) (w' := W.drew.alloc (.cells #[.int .i64 (kth l x.1)] 3)) ?y6 ?r6 ?n6 AllR.nil)
            case y2 => go_simp
            case y6 => go_simp
            case r2 => exact fun _ => ⟨cell_kept (W := W.drew) c1 (World.grownBy_alloc _ _ none) (fun r e => by cases e), cell_kept (W := W.drew) c2 (World.grownBy_alloc _ _ none) (fun r e => by cases e)⟩
            case r6 => exact fun _ => ⟨cell_kept (W := W.drew) c1 (World.grownBy_alloc _ _ none) (fun r e => by cases e), cell_kept (W := W.drew) c2 (World.grownBy_alloc _ _ none) (fun r e => by cases e)⟩
            case n2 =>
              have hA := (drewN_grown W 1 none).trans (World.grownBy_alloc W.drew (.cells #[.pointer (some av)] 31) none)
              refine wpAnyR_ready (rs := [3, 6]) (by kernel_rfl) (by simp) ?_
              refine AllR.append1 rfl (by rfl) rfl Tryz.underlying27 hi31 hz0 hz1 hz2 rfl (n := pre.length) (v := v1) (g := W.heap.size) (c := 1) (u := .pointer (some av)) (by rfl) ((Far.none W).row hA r1) (by rfl) (cell_new1 W.drew _ _) rfl (by omega) (by simp; omega) (fun v1' W1 own1 g1 l1 => ⟨fun _ => two_cells HT.out hA g1, ?m3⟩) ?m6
              case m3 =>
                refine wpAnyR_ready (rs := [6]) (by kernel_rfl) (by simp) ?_
                have hA2 := World.grownBy_alloc W1 (.cells #[.int .i64 (kth l x.1)] 3) none
                obtain ⟨t1, t2⟩ := two_cells HT.out hA g1
                refine AllR.value rfl (by rfl) (v := .slice (some ⟨W1.heap.size, 0, none⟩) 1 1) (w' := W1.alloc (.cells #[.int .i64 (kth l x.1)] 3)) ?z6 (fun _ => ⟨cell_kept t1 hA2 (fun r e => by cases e), cell_kept t2 hA2 (fun r e => by cases e)⟩) ?q6 AllR.nil
                case z6 => go_simp
                case q6 =>
                  refine wpAnyR_ready (rs := [7]) (by kernel_rfl) (by simp) ?_
                  refine AllR.append1 rfl (by rfl) rfl Tryz.underlying32 hi3 hy0 hy1 hy2 rfl (n := pre.length) (v := v2) (g := W1.heap.size) (c := 1) (u := .int .i64 (kth l x.1)) (by rfl) ((Far.none W1).row hA2 (two_row2 HT.out hA g1)) (by rfl) (cell_new1 W1 _ _) rfl (by omega) (by have := hA.size; have := g1.size; simp at *; omega) (fun v2' W2 own2 g2 l2 => ?u7) AllR.nil
                  case u7 =>
                    obtain ⟨E1, E2⟩ := apart_round HT.out (by omega) (by omega) (by omega) hsW HB.out HV1.out HV2.out hA own1 g1 l1 hA2 own2 g2 l2 W0.heap.size
                    refine ⟨fun _ => ⟨E1.1.1, E1.1.2.1⟩, ?_⟩
                    obtain ⟨gg1, cc1, rfl⟩ := ownsRow_succ own1
                    obtain ⟨gg2, cc2, rfl⟩ := ownsRow_succ own2
                    refine wpAnyR_ready (rs := [8]) (by kernel_rfl) (by simp) ?_
                    obtain ⟨⟨e1, e2, e3⟩, e4, e5⟩ := E1
                    refine AllR.skip rfl (by rfl) (w' := W2.setCell ⟨w'.heap.size + 1, 0, none⟩ (.slice (some ⟨gg1, 0, none⟩) (pre.length + 1) cc1)) ?s8 (fun h => absurd h (by omega)) ?q8 AllR.nil
                    case s8 => go_simp
                    case q8 =>
                      refine wpAnyR_ready (rs := [9]) (by kernel_rfl) (by simp) ?_
                      refine AllR.skip rfl (by rfl) (w' := (W2.setCell ⟨w'.heap.size + 1, 0, none⟩ (.slice (some ⟨gg1, 0, none⟩) (pre.length + 1) cc1)).setCell ⟨w'.heap.size + 1 + 1, 0, none⟩ (.slice (some ⟨gg2, 0, none⟩) (pre.length + 1) cc2)) ?s9 (fun h => absurd h (by omega)) ?q9 AllR.nil
                      case s9 => go_simp
                      case q9 => exact wpAnyR_done (by kernel_rfl) E2
              case m6 =>
                have hA2 := hA.trans (World.grownBy_alloc (W.drew.alloc (.cells #[.pointer (some av)] 31)) (.cells #[.int .i64 (kth l x.1)] 3) none)
                have k0 := cell_new1 W.drew (.pointer (some av)) 31
                have k1 := cell_kept k0 (World.grownBy_alloc (W.drew.alloc (.cells #[.pointer (some av)] 31)) (.cells #[.int .i64 (kth l x.1)] 3) none) (fun r e => by cases e)
                have k2 := cell_new1 (W.drew.alloc (.cells #[.pointer (some av)] 31)) (.int .i64 (kth l x.1)) 3
                refine AllR.value rfl (by rfl) (v := .slice (some ⟨W.heap.size + 1, 0, none⟩) 1 1) (w' := (W.drew.alloc (.cells #[.pointer (some av)] 31)).alloc (.cells #[.int .i64 (kth l x.1)] 3)) ?z6 (fun _ => ⟨cell_kept c1 hA2 (fun r e => by cases e), cell_kept c2 hA2 (fun r e => by cases e)⟩) ?q6 AllR.nil
                case z6 => go_simp
                case q6 =>
                  refine wpAnyR_ready (rs := [3]) (by kernel_rfl) (by simp) ?_
                  refine AllR.append1 rfl (by rfl) rfl Tryz.underlying27 hi31 hz0 hz1 hz2 rfl (n := pre.length) (v := v1) (g := W.heap.size) (c := 1) (u := .pointer (some av)) (by rfl) ((Far.none W).row hA2 r1) (by rfl) k1 rfl (by omega) (by simp; omega) (fun v1' W1 own1 g1 l1 => ⟨fun _ => two_cells HT.out hA2 g1, ?m3⟩) AllR.nil
                  case m3 =>
                    refine wpAnyR_ready (rs := [7]) (by kernel_rfl) (by simp) ?_
                    refine AllR.append1 rfl (by rfl) rfl Tryz.underlying32 hi3 hy0 hy1 hy2 rfl (n := pre.length) (v := v2) (g := W.heap.size + 1) (c := 1) (u := .int .i64 (kth l x.1)) (by rfl) (two_row2 HT.out hA2 g1) (by rfl) (tmp_kept r1 g1 (by omega) (by simpa using k2)) rfl (by omega) (by have := hA2.size; have := g1.size; omega) (fun v2' W2 own2 g2 l2 => ?u7) AllR.nil
                    case u7 =>
                      obtain ⟨E1, E2⟩ := apart_round HT.out (by omega) (by omega) (by omega) hsW HB.out HV1.out HV2.out hA2 own1 g1 l1 (World.grownBy.refl _ _) own2 g2 l2 W0.heap.size
                      refine ⟨fun _ => ⟨E1.1.1, E1.1.2.1⟩, ?_⟩
                      obtain ⟨gg1, cc1, rfl⟩ := ownsRow_succ own1
                      obtain ⟨gg2, cc2, rfl⟩ := ownsRow_succ own2
                      refine wpAnyR_ready (rs := [8]) (by kernel_rfl) (by simp) ?_
                      obtain ⟨⟨e1, e2, e3⟩, e4, e5⟩ := E1
                      refine AllR.skip rfl (by rfl) (w' := W2.setCell ⟨w'.heap.size + 1, 0, none⟩ (.slice (some ⟨gg1, 0, none⟩) (pre.length + 1) cc1)) ?s8 (fun h => absurd h (by omega)) ?q8 AllR.nil
                      case s8 => go_simp
                      case q8 =>
                        refine wpAnyR_ready (rs := [9]) (by kernel_rfl) (by simp) ?_
                        refine AllR.skip rfl (by rfl) (w' := (W2.setCell ⟨w'.heap.size + 1, 0, none⟩ (.slice (some ⟨gg1, 0, none⟩) (pre.length + 1) cc1)).setCell ⟨w'.heap.size + 1 + 1, 0, none⟩ (.slice (some ⟨gg2, 0, none⟩) (pre.length + 1) cc2)) ?s9 (fun h => absurd h (by omega)) ?q9 AllR.nil
                        case s9 => go_simp
                        case q9 => exact wpAnyR_done (by kernel_rfl) E2
            case n6 =>
              have hA := (drewN_grown W 1 none).trans (World.grownBy_alloc W.drew (.cells #[.int .i64 (kth l x.1)] 3) none)
              have hA2 := hA.trans (World.grownBy_alloc (W.drew.alloc (.cells #[.int .i64 (kth l x.1)] 3)) (.cells #[.pointer (some av)] 31) none)
              have k0 := cell_new1 W.drew (.int .i64 (kth l x.1)) 3
              have k1 := cell_kept k0 (World.grownBy_alloc (W.drew.alloc (.cells #[.int .i64 (kth l x.1)] 3)) (.cells #[.pointer (some av)] 31) none) (fun r e => by cases e)
              have k2 := cell_new1 (W.drew.alloc (.cells #[.int .i64 (kth l x.1)] 3)) (.pointer (some av)) 31
              refine wpAnyR_ready (rs := [2]) (by kernel_rfl) (by simp) ?_
              refine AllR.value rfl (by rfl) (v := .slice (some ⟨W.heap.size + 1, 0, none⟩) 1 1) (w' := (W.drew.alloc (.cells #[.int .i64 (kth l x.1)] 3)).alloc (.cells #[.pointer (some av)] 31)) ?z6 (fun _ => ⟨cell_kept c1 hA2 (fun r e => by cases e), cell_kept c2 hA2 (fun r e => by cases e)⟩) ?q6 AllR.nil
              case z6 => go_simp
              case q6 =>
                refine wpAnyR_ready (rs := [3]) (by kernel_rfl) (by simp) ?_
                refine AllR.append1 rfl (by rfl) rfl Tryz.underlying27 hi31 hz0 hz1 hz2 rfl (n := pre.length) (v := v1) (g := W.heap.size + 1) (c := 1) (u := .pointer (some av)) (by rfl) ((Far.none W).row hA2 r1) (by rfl) (by simpa using k2) rfl (by omega) (by simp; omega) (fun v1' W1 own1 g1 l1 => ⟨fun _ => two_cells HT.out hA2 g1, ?m3⟩) AllR.nil
                case m3 =>
                  refine wpAnyR_ready (rs := [7]) (by kernel_rfl) (by simp) ?_
                  refine AllR.append1 rfl (by rfl) rfl Tryz.underlying32 hi3 hy0 hy1 hy2 rfl (n := pre.length) (v := v2) (g := W.heap.size) (c := 1) (u := .int .i64 (kth l x.1)) (by rfl) (two_row2 HT.out hA2 g1) (by rfl) (tmp_kept r1 g1 (by omega) k1) rfl (by omega) (by have := hA2.size; have := g1.size; omega) (fun v2' W2 own2 g2 l2 => ?u7) AllR.nil
                  case u7 =>
                    obtain ⟨E1, E2⟩ := apart_round HT.out (by omega) (by omega) (by omega) hsW HB.out HV1.out HV2.out hA2 own1 g1 l1 (World.grownBy.refl _ _) own2 g2 l2 W0.heap.size
                    refine ⟨fun _ => ⟨E1.1.1, E1.1.2.1⟩, ?_⟩
                    obtain ⟨gg1, cc1, rfl⟩ := ownsRow_succ own1
                    obtain ⟨gg2, cc2, rfl⟩ := ownsRow_succ own2
                    refine wpAnyR_ready (rs := [8]) (by kernel_rfl) (by simp) ?_
                    obtain ⟨⟨e1, e2, e3⟩, e4, e5⟩ := E1
                    refine AllR.skip rfl (by rfl) (w' := W2.setCell ⟨w'.heap.size + 1, 0, none⟩ (.slice (some ⟨gg1, 0, none⟩) (pre.length + 1) cc1)) ?s8 (fun h => absurd h (by omega)) ?q8 AllR.nil
                    case s8 => go_simp
                    case q8 =>
                      refine wpAnyR_ready (rs := [9]) (by kernel_rfl) (by simp) ?_
                      refine AllR.skip rfl (by rfl) (w' := (W2.setCell ⟨w'.heap.size + 1, 0, none⟩ (.slice (some ⟨gg1, 0, none⟩) (pre.length + 1) cc1)).setCell ⟨w'.heap.size + 1 + 1, 0, none⟩ (.slice (some ⟨gg2, 0, none⟩) (pre.length + 1) cc2)) ?s9 (fun h => absurd h (by omega)) ?q9 AllR.nil
                      case s9 => go_simp
                      case q9 => exact wpAnyR_done (by kernel_rfl) E2
        case done =>
          intro D W hD hI hK
          obtain ⟨⟨v1, v2, hT⟩, hbW⟩ := hI
          rw [List.length_finRange] at hT
          have hDW : D < W.heap.size := (Array.getElem?_eq_some_iff.1 hK).1
          have a3 : A3 w (w.heap.size + 1 + 1 + 1) (w.heap.size + 1 + 1) (wr.heap.size + 1) wr.heap.size g (w'.heap.size + 1) (w'.heap.size + 1 + 1) (w'.heap.size + 1) [D] bs (1 + iv % 20) (1 + cp % 12) st l l v1 v2 W := ⟨a2B.belowW (by rw [hsB]; exact hbW), hT, fun D' hD' => by rw [List.mem_singleton.1 hD']; exact hK⟩
          have hz0' : W0.heap.size ≤ W.heap.size := by omega
          clear hT hbW hK a2B a2 hstart hA0 hx1 hx2 hx3 hB1 hac hbc
          gi_wp2
          gi_loopw [22] (fun i wq => ∃ q : Nat, q ≤ ms.length ∧ i = .int .i64 q ∧ ∃ lc, A3 w (w.heap.size + 1 + 1 + 1) (w.heap.size + 1 + 1) (wr.heap.size + 1) wr.heap.size g (w'.heap.size + 1) (w'.heap.size + 1 + 1) (w'.heap.size + 1) [D] bs (1 + iv % 20) (1 + cp % 12) st l lc v1 v2 wq) (fun i _ => ms.length - (RowKit.intOf i).toNat)
          case atStart => exact ⟨0, by omega, rfl, _, a3⟩
          case round =>
            clear a3
            obtain ⟨q, hq, rfl, lc, a3⟩ := hrel
            by_cases hlt2 : q < ms.length
            · rcases hm with ⟨_, hus⟩ | ⟨a, c2, rfl, hus⟩
              · rw [hus] at hlt2; simp at hlt2
              · obtain ⟨hcell, hu0, hu1⟩ := hus q ms[q] (by simp [hlt2])
                have hcell := (a3.two_.one.below.cell (World.block_lt_of_cell? _ _ hcell)).trans hcell
                generalize ms[q] = u0 at hcell hu0 hu1
                have hp0 : 0 ≤ u0 * (1 + iv % 20) := Int.mul_nonneg hu0 (by omega)
                have hp1 : u0 * (1 + iv % 20) ≤ 255 * 20 := Int.mul_le_mul (by omega) hd2 (by omega) (by omega)
                have hof := callsIn_wide (n := 7).2 (a3.drew.offer (k := q) hp0 (wf_small hp0 (by omega)) hd1 (by omega) (by omega))
                have q1 := (a3.two_.one.sn (q % 4) (by omega)).1
                have hj2 : (q : Int) % 4 < 4 := by omega
                have hj3 : 0 ≤ (q : Int) % 4 := by omega
                have hj6 : ((q : Int) % 4).toNat = q % 4 := by omega
                have hwu : IntKind.i64.wrap u0 = u0 := wrap_small hu0 (by omega)
                have hwp : IntKind.i64.wrap (u0 * (1 + iv % 20)) = u0 * (1 + iv % 20) := wrap_small hp0 (by omega)
                have htm : (q : Int).tmod 4 = (q : Int) % 4 := Int.tmod_eq_emod_of_nonneg (by omega)
                have HU := Lib.hid hus
                clear hus hw
                gi_wp2
                rename_i K0 hK0
                refine wpIn_mono (Q := fun e a' w' => match e with | .normal => K0 a' w' | _ => False) ?_ (by intro e a' w' hm; cases e with | normal => exact hm | _ => exact hm.elim)
                gi_region_with (refine ⟨trivial, ?_⟩; gi_at_call 10; (with_reducible refine CallsIn.mono hof ?_); rintro e w1 ⟨b', l', rfl, a3⟩)
                all_goals
                  show K0 _ _
                  refine hK0 _ _ ?_
                  try simp only [Act.put]
                  gi_wp2
                  exact ⟨⟨q + 1, by omega, int_congr (by omega), _, a3⟩, by simp [RowKit.intOf]; omega⟩
            · clear hm hq
              have hcut := callsIn_wide (n := 7).2 (a3.cut (n := 3 * (1 + iv % 20)))
              have hall := fun W => callsIn_wide (n := 7).2 (all_ok (w.heap.size + 1 + 1 + 1) W)
              gi_wp2_with (first
                | (refine ⟨trivial, ?_⟩; gi_at_call 14; refine hcut.mono ?_; rintro e w5 ⟨rfl, lc', a3'⟩)
                | (refine ⟨trivial, ?_⟩; gi_at_call 17; refine (hall _).mono ?_; rintro e w6 ⟨rfl, rfl⟩))
              clear hcut hall a3 hlt2
              have hW0 : ∀ W, W = ((w5.alloc (.cells #[.int .i64 0] 3)).alloc (.cells #[.pointer (some ⟨w.heap.size + 1 + 1 + 1, 0, none⟩)] 23)) → W.heap.size = w5.heap.size + 2 ∧ Boxed W w5.heap.size 3 (.int .i64 0) ∧ Boxed W (w5.heap.size + 1) 23 (.pointer (some ⟨w.heap.size + 1 + 1 + 1, 0, none⟩)) ∧ Below w5.heap.size w5 W := by
                rintro W rfl
                have k2 := Boxed.new (w5.alloc (.cells #[.int .i64 0] 3)) 23 (.pointer (some ⟨w.heap.size + 1 + 1 + 1, 0, none⟩))
                rw [World.size_alloc] at k2
                exact ⟨by simp, (Boxed.new w5 3 (.int .i64 0)).alloc _, k2, ((Below.refl _ w5).alloc (Nat.le_refl _) _).alloc (by simp) _⟩
              obtain ⟨W2, hW2⟩ : ∃ W2, ((w5.alloc (.cells #[.int .i64 0] 3)).alloc (.cells #[.pointer (some ⟨w.heap.size + 1 + 1 + 1, 0, none⟩)] 23)) = W2 := ⟨_, rfl⟩
              obtain ⟨hs2, hn2, hb2, hBl2⟩ := hW0 W2 hW2.symm
              rw [hW2]
              clear hW2 hW0
              have hA2 := (a3'.belowW hBl2).two_.one.at_
              have zs : w.heap.size + 3 < w5.heap.size := World.block_lt_of_cell? _ _ a3'.two_.one.at_.c0
              have zm : w.heap.size + 2 < w5.heap.size := by have := a3'.two_.one.at_.own.lt; omega
              refine wpIn_all (m := 7) (by omega) (B := w5.heap.size + 2) rfl rfl (X1 w5.heap.size) (x1_ok _ _) (by omega) ?xl ?xs ?xm ?xb hb2.cell hA2
                (I2 l w5.heap.size w5) (fun c pre W => pre ≠ (List.finRange l.length).take pre.length) (i2_own (Nat.le_refl _) (by omega)) (fun _ _ _ _ _ hs _ _ => hs) ⟨rfl, hn2, hBl2⟩ ?round ?done ?stop
              case xl => rintro i rfl; omega
              case xs => intro e; have e : w.heap.size + 1 + 1 + 1 = w5.heap.size := e; omega
              case xm => intro e; have e : w.heap.size + 1 + 1 = w5.heap.size := e; omega
              case xb => intro e; have e : w5.heap.size + 1 = w5.heap.size := e; omega
              case stop =>
                intro D' c k' W hD' hk' hne _
                exfalso
                apply hne
                rw [List.length_take, List.length_finRange, Nat.min_eq_left hk']
              case round =>
                apply Exists.intro
                refine ⟨?assign, ?body⟩
                case assign =>
                  intro lp x W K hK
                  gi_wp2
                  exact hK
                case body =>
                  rintro lp pre x W hI hlt2
                  have a3W := a3'.belowW hI.2.2
                  obtain ⟨j1, hj1, hat1⟩ := a3W.two_.one.nth hlt2
                  obtain ⟨j2, hj2, hat2⟩ := a3W.two_.one.nth x.2
                  obtain ⟨g1, cc1, rfl, k1⟩ := row_cell a3W.rows.r1 (valsOf_get l hlt2)
                  obtain ⟨g2, cc2, rfl, k2⟩ := row_cell a3W.rows.r2 (intsOf_get l hlt2)
                  rw [hat1] at k1
                  have hlen := a3W.two_.one.len
                  have hn0 : pre.length < l.length := hlt2
                  have c1 := a3W.rows.x1.cell
                  have c2 := a3W.rows.x2.cell
                  have cn := hI.2.1.cell
                  have fn := hI.2.1.frozen
                  have cr := a3W.two_.one.res.cell
                  have fr := a3W.two_.one.res.frozen
                  by_cases hx : x.1 = pre.length
                  · have hkk : kth l x.1 = kth l pre.length := by rw [hx]
                    have hat3 : at? (kth l x.1) l = .pointer (some ⟨bs j1, 0, none⟩) := by rw [hx]; exact hat1
                    have hpn := fun W => ptr_nsame ⟨bs j1, 0, none⟩ W
                    have hend := hI.round hx (m := (pre.length : Int) + 1) (by omega) W2.heap.size
                    have HE := Lib.hid hend
                    rw [hat3, hkk]
                    clear hend hat1 hat2 hat3 hkk hI a3W a3' hw hA2 hb2 hn2 hBl2
                    gi_wp2
                    exact HE.out
                  · have hne := take_not hx
                    have hkn : kth l pre.length ≠ kth l x.1 := fun e => by
                      have hi := a3W.two_.one.at_.inc
                      have e1 := keys_length l
                      rcases Nat.lt_or_gt_of_ne hx with h | h
                      · have := kth_lt hi h (by rw [e1]; exact hn0); omega
                      · have := kth_lt hi h (by rw [e1]; exact x.2); omega
                    have hkn' : (kth l pre.length != kth l x.1) = true := by simpa using hkn
                    have HN := Lib.hid hne
                    rw [hat2]
                    by_cases hb : bs j1 = bs j2
                    · have hpn := fun W => ptr_nsame ⟨bs j2, 0, none⟩ W
                      rw [hb] at k1
                      clear hne hat1 hat2 hI a3W a3' hw hA2 hb2 hn2 hBl2
                      gi_wp2
                      exact ⟨(KeepsOthers.setCell _ _ _).from _, HN.out⟩
                    · obtain ⟨q1, t1, hq1⟩ := a3W.two_.one.firm j1 hj1
                      obtain ⟨q2, t2, hq2⟩ := a3W.two_.one.firm j2 hj2
                      have hpn := ptr_nother (a := ⟨bs j1, 0, none⟩) (b := ⟨bs j2, 0, none⟩) (w := W) (fun e => hb (by have := congrArg Addr.block e; exact this)) hq1 hq2
                      clear hne hat1 hat2 hI a3W a3' hw hA2 hb2 hn2 hBl2 hq1 hq2
                      gi_wp2
                      exact ⟨(KeepsOthers.setCell _ _ _).from _, HN.out⟩
              case done =>
                intro D2 W hD2 hI hK2
                rw [I2, List.length_finRange] at hI
                obtain ⟨hpre, hn3, hBW⟩ := hI
                clear hpre
                have a3W := a3'.belowW hBW
                have hall := fun W => callsIn_wide (n := 7).2 (all_ok (w.heap.size + 1 + 1 + 1) W)
                gi_wp2_with (refine ⟨trivial, ?_⟩; gi_at_call 17; refine (hall _).mono ?_; rintro e w6 ⟨rfl, rfl⟩)
                clear hall
                have hW0 : ∀ W', W' = ((W.alloc (.cells #[.int .i64 0] 3)).alloc (.cells #[.pointer (some ⟨w.heap.size + 1 + 1 + 1, 0, none⟩)] 23)) → W'.heap.size = W.heap.size + 2 ∧ Boxed W' W.heap.size 3 (.int .i64 0) ∧ Boxed W' (W.heap.size + 1) 23 (.pointer (some ⟨w.heap.size + 1 + 1 + 1, 0, none⟩)) ∧ Below W.heap.size W W' := by
                  rintro W' rfl
                  have k2 := Boxed.new (W.alloc (.cells #[.int .i64 0] 3)) 23 (.pointer (some ⟨w.heap.size + 1 + 1 + 1, 0, none⟩))
                  rw [World.size_alloc] at k2
                  exact ⟨by simp, (Boxed.new W 3 (.int .i64 0)).alloc _, k2, ((Below.refl _ W).alloc (Nat.le_refl _) _).alloc (by simp) _⟩
                obtain ⟨W3, hW3⟩ : ∃ W3, ((W.alloc (.cells #[.int .i64 0] 3)).alloc (.cells #[.pointer (some ⟨w.heap.size + 1 + 1 + 1, 0, none⟩)] 23)) = W3 := ⟨_, rfl⟩
                obtain ⟨hs3, hk3, hb3, hBl3⟩ := hW0 W3 hW3.symm
                rw [hW3]
                clear hW3 hW0
                have hA3 := (a3W.belowW hBl3).two_.one.at_
                have a4 : A3 w (w.heap.size + 1 + 1 + 1) (w.heap.size + 1 + 1) _ _ g (w'.heap.size + 1) (w'.heap.size + 1 + 1) (w'.heap.size + 1) [D2, D] bs (1 + iv % 20) (1 + cp % 12) st l lc' v1 v2 W := ⟨a3W.two_, a3W.rows, fun D' hD' => by
                  rcases List.mem_cons.1 hD' with rfl | hD'
                  · exact hK2
                  · exact a3W.ds D' hD'⟩
                have zs3 : w.heap.size + 3 < W.heap.size := World.block_lt_of_cell? _ _ a3W.two_.one.at_.c0
                refine wpIn_all (m := 7) (by omega) (B := W.heap.size + 2) rfl rfl (X1 W.heap.size) (x1_ok _ _) (by omega) ?xl3 ?xs3 ?xm3 ?xb3 hb3.cell hA3
                  (I3 l st W.heap.size W) (X9 l st W.heap.size W) (i3_own (Nat.le_refl _) (by omega)) (x9_own (Nat.le_refl _) (by omega)) ⟨hs0, hk3, hBl3⟩ ?round3 ?done3 ?stop3
                case xl3 => rintro i rfl; omega
                case xs3 => intro e; have e : w.heap.size + 1 + 1 + 1 = W.heap.size := e; omega
                case xm3 => intro e; have e : w.heap.size + 1 + 1 = W.heap.size := e; omega
                case xb3 => intro e; have e : W.heap.size + 1 = W.heap.size := e; omega
                case round3 =>
                  apply Exists.intro
                  refine ⟨?assign3, ?body3⟩
                  case assign3 =>
                    intro lp x W' K hK
                    gi_wp2
                    exact hK
                  case body3 =>
                    rintro lp pre x W' hI hlt3
                    have a4W := a4.belowW hI.2.2
                    have ck := hI.2.1.cell
                    have fk := hI.2.1.frozen
                    have cs := a4W.two_.one.stop.cell
                    have hlen := a4W.two_.one.len
                    have hn0 : pre.length < l.length := hlt3
                    have hw8 : IntKind.i64.wrap st = st := wrap_small hs0 (by omega)
                    by_cases hst : (pre.length : Int) = st
                    · have hX : X9 l st W.heap.size W (.exit 8) (pre ++ [x]) W' := ⟨rfl, by rw [List.length_append, List.length_singleton]; omega, by rw [← hst]; exact hI.2.1, hI.2.2⟩
                      have HX := Lib.hid hX
                      clear hX hI a4W a4 a3W a3' hw hA3 hA2 hb2 hn2 hBl2 hb3 hk3 hBl3 hK2 hn3 hBW
                      gi_wp2
                      exact ⟨KeepsFrom.refl _ _, HX.out⟩
                    · have hend := hI.round (x := x) (by have := hI.1; omega) (m := (pre.length : Int) + 1) (by omega) W3.heap.size
                      have HE := Lib.hid hend
                      clear hend hI a4W a4 a3W a3' hw hA3 hA2 hb2 hn2 hBl2 hb3 hk3 hBl3 hK2 hn3 hBW
                      gi_wp2
                      exact HE.out
                case done3 =>
                  intro D3 W5 hD3 hI hK3
                  rw [I3, List.length_finRange] at hI
                  obtain ⟨mm, hmm⟩ : ∃ mm : Int, mm = (l.length : Int) := ⟨_, rfl⟩
                  have hD2W : D2 < W.heap.size := (Array.getElem?_eq_some_iff.1 hK2).1
                  have hDW2 : D < w5.heap.size := (Array.getElem?_eq_some_iff.1 (a3'.ds D (by simp))).1
                  have a5 : A5 w (w.heap.size + 1 + 1 + 1) (w.heap.size + 1 + 1) _ _ g (w'.heap.size + 1) (w'.heap.size + 1 + 1) (w'.heap.size + 1) w5.heap.size W.heap.size D3 [D2, D] bs (1 + iv % 20) (1 + cp % 12) st l lc' v1 v2 mm W5 := ⟨a4.belowW hI.2.2, hn3.kept (below_grown hI.2.2 none) (by simp), by rw [hmm]; exact hI.2.1, hK3⟩
                  have hst := hI.1
                  have hlen := len_ok a5.a3.two_.one.at_.drew
                  have hwk := fun w1 (hb : Below W5.drew.heap.size W5.drew w1) => hw w1 (a5.a3.two_.one.below.drew.trans (hb.mono a5.a3.two_.one.below.size))
                  have hfin := fun w1 w2 (hb : Below W5.drew.heap.size W5.drew w1) (hb2 : Below w1.heap.size w1 w2) => a5.fin (by omega) (by omega) (by omega) (by omega) (by omega) (by omega) hb hb2
                  have hmid := fun w1 (hb : Below W5.drew.heap.size W5.drew w1) => a5.belowW ((Below.refl _ W5).drew.trans hb)
                  have g1 := a5.n.cell
                  have g2 := a5.k.cell
                  have g3 := a5.a3.two_.one.stop.cell
                  have g4 := a5.a3.rows.x1.cell
                  have hw8 : IntKind.i64.wrap st = st := wrap_small hs0 (by omega)
                  have hl12 := a5.a3.two_.one.len
                  have hmn : min (l.length : Int) st = mm := by omega
                  obtain ⟨p1, cp1, hv1⟩ := row_slice a5.a3.rows.r1
                  rw [hv1] at g4
                  have hlv1 : ∀ W, (Builtin.len_ #[27] 3 #[.slice p1 l.length cp1]).run Tryz.prog W = .ok (.int .i64 (l.length : Int)) W := fun W => by simp [Builtin.len_, run_underlying Tryz.underlying27, go_sem]
                  have HM := Lib.hid hmid
                  have HF := Lib.hid hfin
                  have HW := Lib.hid hwk
                  clear hw hI a4 a3W a3' hA3 hA2 hb2 hn2 hBl2 hb3 hk3 hBl3 hK2 hn3 hBW hK3 hmid hfin hwk hst hl12 hlv hlu h20 h20' hmm
                  gi_wp2
                  rename_i K0 hK0
                  refine wpIn_mono (Q := fun e a' w' => match e with | .normal => K0 a' w' | _ => False) ?_ (by intro e a' w' hm; cases e with | normal => exact hm | _ => exact hm.elim)
                  refine wpIn_wide.2 (wp_region_R (R := fun j => fun W' => j < 21 → (fun W' => W'.cell? ⟨w5.heap.size, 0, none⟩ = some (.int .i64 (l.length : Int)) ∧ W'.cell? ⟨w'.heap.size + 1, 0, none⟩ = some (.slice p1 l.length cp1) ∧ W'.cell? ⟨W.heap.size, 0, none⟩ = some (.int .i64 mm) ∧ W'.cell? ⟨w.heap.size, 0, none⟩ = some (.int .u8 st)) W') (by kernel_rfl) ?_)
                  change wpAnyR Tryz.prog .any _ _ _ 22 (Array.replicate 22 false) _ _
                  have hS : (fun W' => W'.cell? ⟨w5.heap.size, 0, none⟩ = some (.int .i64 (l.length : Int)) ∧ W'.cell? ⟨w'.heap.size + 1, 0, none⟩ = some (.slice p1 l.length cp1) ∧ W'.cell? ⟨W.heap.size, 0, none⟩ = some (.int .i64 mm) ∧ W'.cell? ⟨w.heap.size, 0, none⟩ = some (.int .u8 st)) W5.drew := ⟨g1, g4, g2, g3⟩
                  refine wpAnyR_take (fun W' => W'.cell? ⟨w5.heap.size, 0, none⟩ = some (.int .i64 (l.length : Int)) ∧ W'.cell? ⟨w'.heap.size + 1, 0, none⟩ = some (.slice p1 l.length cp1) ∧ W'.cell? ⟨W.heap.size, 0, none⟩ = some (.int .i64 mm) ∧ W'.cell? ⟨w.heap.size, 0, none⟩ = some (.int .u8 st)) (i := 0) (v := .int .i64 (l.length : Int)) (fun j => decide (21 ≤ j)) rfl (by kernel_rfl) (by kernel_rfl) (by kernel_rfl) (by kernel_rfl) rfl (by kernel_rfl) (fun _ _ _ h => h) (fun j w hb hR => hR (blk_lt hb (by omega))) (fun w hS _ => hS) (.inl ⟨by rfl, fun w hS => ?x0⟩) hS ?_
                  case x0 => obtain ⟨s1, s2, s3, s4⟩ := hS; go_simp
                  try simp only [Act.put, List.getElem_toArray, List.getElem_cons_zero, List.getElem_cons_succ, List.setIfInBounds_toArray, List.set_cons_zero, List.set_cons_succ]
                  refine wpAnyR_take (fun W' => W'.cell? ⟨w5.heap.size, 0, none⟩ = some (.int .i64 (l.length : Int)) ∧ W'.cell? ⟨w'.heap.size + 1, 0, none⟩ = some (.slice p1 l.length cp1) ∧ W'.cell? ⟨W.heap.size, 0, none⟩ = some (.int .i64 mm) ∧ W'.cell? ⟨w.heap.size, 0, none⟩ = some (.int .u8 st)) (i := 1) (v := .slice p1 l.length cp1) (fun j => decide (21 ≤ j)) rfl (by kernel_rfl) (by kernel_rfl) (by kernel_rfl) (by kernel_rfl) rfl (by kernel_rfl) (fun _ _ _ h => h) (fun j w hb hR => hR (blk_lt hb (by omega))) (fun w hS _ => hS) (.inl ⟨by rfl, fun w hS => ?x1⟩) hS ?_
                  case x1 => obtain ⟨s1, s2, s3, s4⟩ := hS; go_simp
                  try simp only [Act.put, List.getElem_toArray, List.getElem_cons_zero, List.getElem_cons_succ, List.setIfInBounds_toArray, List.set_cons_zero, List.set_cons_succ]
                  refine wpAnyR_take (fun W' => W'.cell? ⟨w5.heap.size, 0, none⟩ = some (.int .i64 (l.length : Int)) ∧ W'.cell? ⟨w'.heap.size + 1, 0, none⟩ = some (.slice p1 l.length cp1) ∧ W'.cell? ⟨W.heap.size, 0, none⟩ = some (.int .i64 mm) ∧ W'.cell? ⟨w.heap.size, 0, none⟩ = some (.int .u8 st)) (i := 2) (v := .int .i64 (l.length : Int)) (fun j => decide (21 ≤ j)) rfl (by kernel_rfl) (by kernel_rfl) (by kernel_rfl) (by kernel_rfl) rfl (by kernel_rfl) (fun _ _ _ h => h) (fun j w hb hR => hR (blk_lt hb (by omega))) (fun w hS _ => hS) (.inl ⟨by rfl, fun w hS => ?x2⟩) hS ?_
                  case x2 => obtain ⟨s1, s2, s3, s4⟩ := hS; go_simp
                  try simp only [Act.put, List.getElem_toArray, List.getElem_cons_zero, List.getElem_cons_succ, List.setIfInBounds_toArray, List.set_cons_zero, List.set_cons_succ]
                  refine wpAnyR_take (fun W' => W'.cell? ⟨w5.heap.size, 0, none⟩ = some (.int .i64 (l.length : Int)) ∧ W'.cell? ⟨w'.heap.size + 1, 0, none⟩ = some (.slice p1 l.length cp1) ∧ W'.cell? ⟨W.heap.size, 0, none⟩ = some (.int .i64 mm) ∧ W'.cell? ⟨w.heap.size, 0, none⟩ = some (.int .u8 st)) (i := 3) (v := .bool true) (fun j => decide (21 ≤ j)) rfl (by kernel_rfl) (by kernel_rfl) (by kernel_rfl) (by kernel_rfl) rfl (by kernel_rfl) (fun _ _ _ h => h) (fun j w hb hR => hR (blk_lt hb (by omega))) (fun w hS _ => hS) (.inl ⟨by rfl, fun w hS => ?x3⟩) hS ?_
                  case x3 => obtain ⟨s1, s2, s3, s4⟩ := hS; go_simp
                  try simp only [Act.put, List.getElem_toArray, List.getElem_cons_zero, List.getElem_cons_succ, List.setIfInBounds_toArray, List.set_cons_zero, List.set_cons_succ]
                  refine wpAnyR_take (fun W' => W'.cell? ⟨w5.heap.size, 0, none⟩ = some (.int .i64 (l.length : Int)) ∧ W'.cell? ⟨w'.heap.size + 1, 0, none⟩ = some (.slice p1 l.length cp1) ∧ W'.cell? ⟨W.heap.size, 0, none⟩ = some (.int .i64 mm) ∧ W'.cell? ⟨w.heap.size, 0, none⟩ = some (.int .u8 st)) (i := 4) (v := .bool true) (fun j => decide (21 ≤ j)) rfl (by kernel_rfl) (by kernel_rfl) (by kernel_rfl) (by kernel_rfl) rfl (by kernel_rfl) (fun _ _ _ h => h) (fun j w hb hR => hR (blk_lt hb (by omega))) (fun w hS _ => hS) (.inl ⟨by rfl, fun w hS => ?x4⟩) hS ?_
                  case x4 => obtain ⟨s1, s2, s3, s4⟩ := hS; go_simp
                  try simp only [Act.put, List.getElem_toArray, List.getElem_cons_zero, List.getElem_cons_succ, List.setIfInBounds_toArray, List.set_cons_zero, List.set_cons_succ]
                  refine wpAnyR_take (fun W' => W'.cell? ⟨w5.heap.size, 0, none⟩ = some (.int .i64 (l.length : Int)) ∧ W'.cell? ⟨w'.heap.size + 1, 0, none⟩ = some (.slice p1 l.length cp1) ∧ W'.cell? ⟨W.heap.size, 0, none⟩ = some (.int .i64 mm) ∧ W'.cell? ⟨w.heap.size, 0, none⟩ = some (.int .u8 st)) (i := 5) (v := .int .i64 (l.length : Int)) (fun j => decide (21 ≤ j)) rfl (by kernel_rfl) (by kernel_rfl) (by kernel_rfl) (by kernel_rfl) rfl (by kernel_rfl) (fun _ _ _ h => h) (fun j w hb hR => hR (blk_lt hb (by omega))) (fun w hS _ => hS) (.inl ⟨by rfl, fun w hS => ?x5⟩) hS ?_
                  case x5 => obtain ⟨s1, s2, s3, s4⟩ := hS; go_simp
                  try simp only [Act.put, List.getElem_toArray, List.getElem_cons_zero, List.getElem_cons_succ, List.setIfInBounds_toArray, List.set_cons_zero, List.set_cons_succ]
                  refine wpAnyR_take (fun W' => W'.cell? ⟨w5.heap.size, 0, none⟩ = some (.int .i64 (l.length : Int)) ∧ W'.cell? ⟨w'.heap.size + 1, 0, none⟩ = some (.slice p1 l.length cp1) ∧ W'.cell? ⟨W.heap.size, 0, none⟩ = some (.int .i64 mm) ∧ W'.cell? ⟨w.heap.size, 0, none⟩ = some (.int .u8 st)) (i := 6) (v := .pointer (some ⟨w.heap.size + 1 + 1 + 1, 0, none⟩)) (fun j => decide (21 ≤ j)) rfl (by kernel_rfl) (by kernel_rfl) (by kernel_rfl) (by kernel_rfl) rfl (by kernel_rfl) (fun _ _ _ h => h) (fun j w hb hR => hR (blk_lt hb (by omega))) (fun w hS _ => hS) (.inl ⟨by rfl, fun w hS => ?x6⟩) hS ?_
                  case x6 => obtain ⟨s1, s2, s3, s4⟩ := hS; go_simp
                  try simp only [Act.put, List.getElem_toArray, List.getElem_cons_zero, List.getElem_cons_succ, List.setIfInBounds_toArray, List.set_cons_zero, List.set_cons_succ]
                  refine wpAnyR_ready (rs := [7]) (by kernel_rfl) (by simp) ?_
                  refine AllR.call rfl (by rfl) (f := 15) (args := #[.pointer (some ⟨w.heap.size + 1 + 1 + 1, 0, none⟩)]) (w1 := W5.drew) ?x7 hlen ?c7 AllR.nil
                  case x7 => go_simp
                  case c7 =>
                    rintro e w6 ⟨rfl, hb6⟩
                    have m6 := HM.out _ hb6
                    have hS6 : (fun W' => W'.cell? ⟨w5.heap.size, 0, none⟩ = some (.int .i64 (l.length : Int)) ∧ W'.cell? ⟨w'.heap.size + 1, 0, none⟩ = some (.slice p1 l.length cp1) ∧ W'.cell? ⟨W.heap.size, 0, none⟩ = some (.int .i64 mm) ∧ W'.cell? ⟨w.heap.size, 0, none⟩ = some (.int .u8 st)) w6 := ⟨m6.n.cell, by rw [← hv1]; exact m6.a3.rows.x1.cell, m6.k.cell, m6.a3.two_.one.stop.cell⟩
                    refine ⟨_, rfl, fun _ => hS6, ?_⟩
                    try simp only [Act.put, List.getElem_toArray, List.getElem_cons_zero, List.getElem_cons_succ, List.setIfInBounds_toArray, List.set_cons_zero, List.set_cons_succ]
                    refine wpAnyR_take (fun W' => W'.cell? ⟨w5.heap.size, 0, none⟩ = some (.int .i64 (l.length : Int)) ∧ W'.cell? ⟨w'.heap.size + 1, 0, none⟩ = some (.slice p1 l.length cp1) ∧ W'.cell? ⟨W.heap.size, 0, none⟩ = some (.int .i64 mm) ∧ W'.cell? ⟨w.heap.size, 0, none⟩ = some (.int .u8 st)) (i := 8) (v := .bool true) (fun j => decide (21 ≤ j)) rfl (by kernel_rfl) (by kernel_rfl) (by kernel_rfl) (by kernel_rfl) rfl (by kernel_rfl) (fun _ _ _ h => h) (fun j w hb hR => hR (blk_lt hb (by omega))) (fun w hS _ => hS) (.inl ⟨by rfl, fun w hS => ?x8⟩) hS6 ?_
                    case x8 => obtain ⟨s1, s2, s3, s4⟩ := hS; go_simp
                    try simp only [Act.put, List.getElem_toArray, List.getElem_cons_zero, List.getElem_cons_succ, List.setIfInBounds_toArray, List.set_cons_zero, List.set_cons_succ]
                    refine wpAnyR_take (fun W' => W'.cell? ⟨w5.heap.size, 0, none⟩ = some (.int .i64 (l.length : Int)) ∧ W'.cell? ⟨w'.heap.size + 1, 0, none⟩ = some (.slice p1 l.length cp1) ∧ W'.cell? ⟨W.heap.size, 0, none⟩ = some (.int .i64 mm) ∧ W'.cell? ⟨w.heap.size, 0, none⟩ = some (.int .u8 st)) (i := 9) (v := .bool true) (fun j => decide (21 ≤ j)) rfl (by kernel_rfl) (by kernel_rfl) (by kernel_rfl) (by kernel_rfl) rfl (by kernel_rfl) (fun _ _ _ h => h) (fun j w hb hR => hR (blk_lt hb (by omega))) (fun w hS _ => hS) (.inl ⟨by rfl, fun w hS => ?x9⟩) hS6 ?_
                    case x9 => obtain ⟨s1, s2, s3, s4⟩ := hS; go_simp
                    try simp only [Act.put, List.getElem_toArray, List.getElem_cons_zero, List.getElem_cons_succ, List.setIfInBounds_toArray, List.set_cons_zero, List.set_cons_succ]
                    refine wpAnyR_take (fun W' => W'.cell? ⟨w5.heap.size, 0, none⟩ = some (.int .i64 (l.length : Int)) ∧ W'.cell? ⟨w'.heap.size + 1, 0, none⟩ = some (.slice p1 l.length cp1) ∧ W'.cell? ⟨W.heap.size, 0, none⟩ = some (.int .i64 mm) ∧ W'.cell? ⟨w.heap.size, 0, none⟩ = some (.int .u8 st)) (i := 10) (v := .bool true) (fun j => decide (21 ≤ j)) rfl (by kernel_rfl) (by kernel_rfl) (by kernel_rfl) (by kernel_rfl) rfl (by kernel_rfl) (fun _ _ _ h => h) (fun j w hb hR => hR (blk_lt hb (by omega))) (fun w hS _ => hS) (.inl ⟨by rfl, fun w hS => ?x10⟩) hS6 ?_
                    case x10 => obtain ⟨s1, s2, s3, s4⟩ := hS; go_simp
                    try simp only [Act.put, List.getElem_toArray, List.getElem_cons_zero, List.getElem_cons_succ, List.setIfInBounds_toArray, List.set_cons_zero, List.set_cons_succ]
                    refine wpAnyR_take (fun W' => W'.cell? ⟨w5.heap.size, 0, none⟩ = some (.int .i64 (l.length : Int)) ∧ W'.cell? ⟨w'.heap.size + 1, 0, none⟩ = some (.slice p1 l.length cp1) ∧ W'.cell? ⟨W.heap.size, 0, none⟩ = some (.int .i64 mm) ∧ W'.cell? ⟨w.heap.size, 0, none⟩ = some (.int .u8 st)) (i := 11) (v := .int .i64 mm) (fun j => decide (21 ≤ j)) rfl (by kernel_rfl) (by kernel_rfl) (by kernel_rfl) (by kernel_rfl) rfl (by kernel_rfl) (fun _ _ _ h => h) (fun j w hb hR => hR (blk_lt hb (by omega))) (fun w hS _ => hS) (.inl ⟨by rfl, fun w hS => ?x11⟩) hS6 ?_
                    case x11 => obtain ⟨s1, s2, s3, s4⟩ := hS; go_simp
                    try simp only [Act.put, List.getElem_toArray, List.getElem_cons_zero, List.getElem_cons_succ, List.setIfInBounds_toArray, List.set_cons_zero, List.set_cons_succ]
                    refine wpAnyR_take (fun W' => W'.cell? ⟨w5.heap.size, 0, none⟩ = some (.int .i64 (l.length : Int)) ∧ W'.cell? ⟨w'.heap.size + 1, 0, none⟩ = some (.slice p1 l.length cp1) ∧ W'.cell? ⟨W.heap.size, 0, none⟩ = some (.int .i64 mm) ∧ W'.cell? ⟨w.heap.size, 0, none⟩ = some (.int .u8 st)) (i := 12) (v := .int .i64 (l.length : Int)) (fun j => decide (21 ≤ j)) rfl (by kernel_rfl) (by kernel_rfl) (by kernel_rfl) (by kernel_rfl) rfl (by kernel_rfl) (fun _ _ _ h => h) (fun j w hb hR => hR (blk_lt hb (by omega))) (fun w hS _ => hS) (.inl ⟨by rfl, fun w hS => ?x12⟩) hS6 ?_
                    case x12 => obtain ⟨s1, s2, s3, s4⟩ := hS; go_simp
                    try simp only [Act.put, List.getElem_toArray, List.getElem_cons_zero, List.getElem_cons_succ, List.setIfInBounds_toArray, List.set_cons_zero, List.set_cons_succ]
                    refine wpAnyR_take (fun W' => W'.cell? ⟨w5.heap.size, 0, none⟩ = some (.int .i64 (l.length : Int)) ∧ W'.cell? ⟨w'.heap.size + 1, 0, none⟩ = some (.slice p1 l.length cp1) ∧ W'.cell? ⟨W.heap.size, 0, none⟩ = some (.int .i64 mm) ∧ W'.cell? ⟨w.heap.size, 0, none⟩ = some (.int .u8 st)) (i := 13) (v := .int .u8 st) (fun j => decide (21 ≤ j)) rfl (by kernel_rfl) (by kernel_rfl) (by kernel_rfl) (by kernel_rfl) rfl (by kernel_rfl) (fun _ _ _ h => h) (fun j w hb hR => hR (blk_lt hb (by omega))) (fun w hS _ => hS) (.inl ⟨by rfl, fun w hS => ?x13⟩) hS6 ?_
                    case x13 => obtain ⟨s1, s2, s3, s4⟩ := hS; go_simp
                    try simp only [Act.put, List.getElem_toArray, List.getElem_cons_zero, List.getElem_cons_succ, List.setIfInBounds_toArray, List.set_cons_zero, List.set_cons_succ]
                    refine wpAnyR_take (fun W' => W'.cell? ⟨w5.heap.size, 0, none⟩ = some (.int .i64 (l.length : Int)) ∧ W'.cell? ⟨w'.heap.size + 1, 0, none⟩ = some (.slice p1 l.length cp1) ∧ W'.cell? ⟨W.heap.size, 0, none⟩ = some (.int .i64 mm) ∧ W'.cell? ⟨w.heap.size, 0, none⟩ = some (.int .u8 st)) (i := 14) (v := .int .i64 st) (fun j => decide (21 ≤ j)) rfl (by kernel_rfl) (by kernel_rfl) (by kernel_rfl) (by kernel_rfl) rfl (by kernel_rfl) (fun _ _ _ h => h) (fun j w hb hR => hR (blk_lt hb (by omega))) (fun w hS _ => hS) (.inl ⟨by rfl, fun w hS => ?x14⟩) hS6 ?_
                    case x14 => obtain ⟨s1, s2, s3, s4⟩ := hS; go_simp
                    try simp only [Act.put, List.getElem_toArray, List.getElem_cons_zero, List.getElem_cons_succ, List.setIfInBounds_toArray, List.set_cons_zero, List.set_cons_succ]
                    refine wpAnyR_take (fun W' => W'.cell? ⟨w5.heap.size, 0, none⟩ = some (.int .i64 (l.length : Int)) ∧ W'.cell? ⟨w'.heap.size + 1, 0, none⟩ = some (.slice p1 l.length cp1) ∧ W'.cell? ⟨W.heap.size, 0, none⟩ = some (.int .i64 mm) ∧ W'.cell? ⟨w.heap.size, 0, none⟩ = some (.int .u8 st)) (i := 15) (v := .int .i64 mm) (fun j => decide (21 ≤ j)) rfl (by kernel_rfl) (by kernel_rfl) (by kernel_rfl) (by kernel_rfl) rfl (by kernel_rfl) (fun _ _ _ h => h) (fun j w hb hR => hR (blk_lt hb (by omega))) (fun w hS _ => hS) (.inl ⟨by rfl, fun w hS => ?x15⟩) hS6 ?_
                    case x15 => obtain ⟨s1, s2, s3, s4⟩ := hS; go_simp
                    try simp only [Act.put, List.getElem_toArray, List.getElem_cons_zero, List.getElem_cons_succ, List.setIfInBounds_toArray, List.set_cons_zero, List.set_cons_succ]
                    refine wpAnyR_take (fun W' => W'.cell? ⟨w5.heap.size, 0, none⟩ = some (.int .i64 (l.length : Int)) ∧ W'.cell? ⟨w'.heap.size + 1, 0, none⟩ = some (.slice p1 l.length cp1) ∧ W'.cell? ⟨W.heap.size, 0, none⟩ = some (.int .i64 mm) ∧ W'.cell? ⟨w.heap.size, 0, none⟩ = some (.int .u8 st)) (i := 16) (v := .bool true) (fun j => decide (21 ≤ j)) rfl (by kernel_rfl) (by kernel_rfl) (by kernel_rfl) (by kernel_rfl) rfl (by kernel_rfl) (fun _ _ _ h => h) (fun j w hb hR => hR (blk_lt hb (by omega))) (fun w hS _ => hS) (.inl ⟨by rfl, fun w hS => ?x16⟩) hS6 ?_
                    case x16 => obtain ⟨s1, s2, s3, s4⟩ := hS; go_simp
                    try simp only [Act.put, List.getElem_toArray, List.getElem_cons_zero, List.getElem_cons_succ, List.setIfInBounds_toArray, List.set_cons_zero, List.set_cons_succ]
                    refine wpAnyR_take (fun W' => W'.cell? ⟨w5.heap.size, 0, none⟩ = some (.int .i64 (l.length : Int)) ∧ W'.cell? ⟨w'.heap.size + 1, 0, none⟩ = some (.slice p1 l.length cp1) ∧ W'.cell? ⟨W.heap.size, 0, none⟩ = some (.int .i64 mm) ∧ W'.cell? ⟨w.heap.size, 0, none⟩ = some (.int .u8 st)) (i := 17) (v := .bool true) (fun j => decide (21 ≤ j)) rfl (by kernel_rfl) (by kernel_rfl) (by kernel_rfl) (by kernel_rfl) rfl (by kernel_rfl) (fun _ _ _ h => h) (fun j w hb hR => hR (blk_lt hb (by omega))) (fun w hS _ => hS) (.inl ⟨by rfl, fun w hS => ?x17⟩) hS6 ?_
                    case x17 => obtain ⟨s1, s2, s3, s4⟩ := hS; go_simp
                    try simp only [Act.put, List.getElem_toArray, List.getElem_cons_zero, List.getElem_cons_succ, List.setIfInBounds_toArray, List.set_cons_zero, List.set_cons_succ]
                    refine wpAnyR_take (fun W' => W'.cell? ⟨w5.heap.size, 0, none⟩ = some (.int .i64 (l.length : Int)) ∧ W'.cell? ⟨w'.heap.size + 1, 0, none⟩ = some (.slice p1 l.length cp1) ∧ W'.cell? ⟨W.heap.size, 0, none⟩ = some (.int .i64 mm) ∧ W'.cell? ⟨w.heap.size, 0, none⟩ = some (.int .u8 st)) (i := 18) (v := .bool true) (fun j => decide (21 ≤ j)) rfl (by kernel_rfl) (by kernel_rfl) (by kernel_rfl) (by kernel_rfl) rfl (by kernel_rfl) (fun _ _ _ h => h) (fun j w hb hR => hR (blk_lt hb (by omega))) (fun w hS _ => hS) (.inl ⟨by rfl, fun w hS => ?x18⟩) hS6 ?_
                    case x18 => obtain ⟨s1, s2, s3, s4⟩ := hS; go_simp
                    try simp only [Act.put, List.getElem_toArray, List.getElem_cons_zero, List.getElem_cons_succ, List.setIfInBounds_toArray, List.set_cons_zero, List.set_cons_succ]
                    try simp only [Act.put, List.getElem_toArray, List.getElem_cons_zero, List.getElem_cons_succ, List.setIfInBounds_toArray, List.set_cons_zero, List.set_cons_succ]
                    refine wpAnyR_ready (rs := [19]) (by kernel_rfl) (by simp) ?_
                    refine AllR.call rfl (by rfl) (f := 13) (args := #[]) (w1 := w6) ?x19 (HW.out _ hb6) ?c19 AllR.nil
                    case x19 => go_simp
                    case c19 =>
                      rintro e w7 ⟨rfl, hb7⟩
                      have m7 := m6.belowW hb7
                      have hS7 : (fun W' => W'.cell? ⟨w5.heap.size, 0, none⟩ = some (.int .i64 (l.length : Int)) ∧ W'.cell? ⟨w'.heap.size + 1, 0, none⟩ = some (.slice p1 l.length cp1) ∧ W'.cell? ⟨W.heap.size, 0, none⟩ = some (.int .i64 mm) ∧ W'.cell? ⟨w.heap.size, 0, none⟩ = some (.int .u8 st)) w7 := ⟨m7.n.cell, by rw [← hv1]; exact m7.a3.rows.x1.cell, m7.k.cell, m7.a3.two_.one.stop.cell⟩
                      obtain ⟨⟨r1, r2⟩, r3, r4, r5, r6, r7⟩ := HF.out _ _ hb6 hb7
                      refine ⟨_, rfl, fun _ => hS7, ?_⟩
                      try simp only [Act.put, List.getElem_toArray, List.getElem_cons_zero, List.getElem_cons_succ, List.setIfInBounds_toArray, List.set_cons_zero, List.set_cons_succ]
                      refine wpAnyR_take (fun W' => W'.cell? ⟨w5.heap.size, 0, none⟩ = some (.int .i64 (l.length : Int)) ∧ W'.cell? ⟨w'.heap.size + 1, 0, none⟩ = some (.slice p1 l.length cp1) ∧ W'.cell? ⟨W.heap.size, 0, none⟩ = some (.int .i64 mm) ∧ W'.cell? ⟨w.heap.size, 0, none⟩ = some (.int .u8 st)) (i := 20) (v := .bool true) (fun j => decide (21 ≤ j)) rfl (by kernel_rfl) (by kernel_rfl) (by kernel_rfl) (by kernel_rfl) rfl (by kernel_rfl) (fun _ _ _ h => h) (fun j w hb hR => hR (blk_lt hb (by omega))) (fun w hS _ => hS) (.inl ⟨by rfl, fun w hS => ?x20⟩) hS7 ?_
                      case x20 => obtain ⟨s1, s2, s3, s4⟩ := hS; go_simp
                      try simp only [Act.put, List.getElem_toArray, List.getElem_cons_zero, List.getElem_cons_succ, List.setIfInBounds_toArray, List.set_cons_zero, List.set_cons_succ]
                      try simp only [Act.put, List.getElem_toArray, List.getElem_cons_zero, List.getElem_cons_succ, List.setIfInBounds_toArray, List.set_cons_zero, List.set_cons_succ]
                      refine wpAnyR_ready (rs := [21]) (by kernel_rfl) (by simp) ?_
                      refine AllR.skip rfl (by rfl) (w' := w7.setCell ⟨w.heap.size + 1, 0, none⟩ (.bool true)) ?x21 (fun h => absurd h (by omega)) ?c21 AllR.nil
                      case x21 =>
                        clear r3 r4 r5 r6 r7
                        go_simp
                      case c21 =>
                        refine wpAnyR_done (by kernel_rfl) ?_
                        show K0 _ _
                        refine hK0 _ _ ?_
                        try simp only [Act.put, List.getElem_toArray, List.getElem_cons_zero, List.getElem_cons_succ, List.setIfInBounds_toArray, List.set_cons_zero, List.set_cons_succ]
                        gi_wp2
                        refine ⟨by simp, .inl ⟨_, _, rfl, run_takeDeferred r3, ?_⟩⟩
                        refine ⟨by simp, .inl ⟨_, _, rfl, run_takeDeferred r4, ?_⟩⟩
                        refine ⟨by simp, .inl ⟨_, _, rfl, run_takeDeferred r5, ?_⟩⟩
                        refine ⟨.bool true, ?_, ⟨rfl, r7⟩⟩
                        simp [results, Tryz.f6, go_sem, r6]
                case stop3 =>
                  rintro D3 c3 k3 W5 hD3 hk3' ⟨rfl, hln, hI⟩ hK3
                  rw [List.length_take, List.length_finRange, Nat.min_eq_left hk3'] at hln
                  obtain ⟨mm, hmm⟩ : ∃ mm : Int, mm = st := ⟨_, rfl⟩
                  have hD2W : D2 < W.heap.size := (Array.getElem?_eq_some_iff.1 hK2).1
                  have hDW2 : D < w5.heap.size := (Array.getElem?_eq_some_iff.1 (a3'.ds D (by simp))).1
                  have a5 : A5 w (w.heap.size + 1 + 1 + 1) (w.heap.size + 1 + 1) _ _ g (w'.heap.size + 1) (w'.heap.size + 1 + 1) (w'.heap.size + 1) w5.heap.size W.heap.size D3 [D2, D] bs (1 + iv % 20) (1 + cp % 12) st l lc' v1 v2 mm W5 := ⟨a4.belowW hI.2, hn3.kept (below_grown hI.2 none) (by simp), by rw [hmm]; exact hI.1, hK3⟩
                  have hst : st + 1 ≤ (l.length : Int) := by omega
                  have hlen := len_ok a5.a3.two_.one.at_.drew
                  have hwk := fun w1 (hb : Below W5.drew.heap.size W5.drew w1) => hw w1 (a5.a3.two_.one.below.drew.trans (hb.mono a5.a3.two_.one.below.size))
                  have hfin := fun w1 w2 (hb : Below W5.drew.heap.size W5.drew w1) (hb2 : Below w1.heap.size w1 w2) => a5.fin (by omega) (by omega) (by omega) (by omega) (by omega) (by omega) hb hb2
                  have hmid := fun w1 (hb : Below W5.drew.heap.size W5.drew w1) => a5.belowW ((Below.refl _ W5).drew.trans hb)
                  have g1 := a5.n.cell
                  have g2 := a5.k.cell
                  have g3 := a5.a3.two_.one.stop.cell
                  have g4 := a5.a3.rows.x1.cell
                  have hw8 : IntKind.i64.wrap st = st := wrap_small hs0 (by omega)
                  have hl12 := a5.a3.two_.one.len
                  have hmn : min (l.length : Int) st = mm := by omega
                  obtain ⟨p1, cp1, hv1⟩ := row_slice a5.a3.rows.r1
                  rw [hv1] at g4
                  have hlv1 : ∀ W, (Builtin.len_ #[27] 3 #[.slice p1 l.length cp1]).run Tryz.prog W = .ok (.int .i64 (l.length : Int)) W := fun W => by simp [Builtin.len_, run_underlying Tryz.underlying27, go_sem]
                  have HM := Lib.hid hmid
                  have HF := Lib.hid hfin
                  have HW := Lib.hid hwk
                  clear hw hI hln hk3' a4 a3W a3' hA3 hA2 hb2 hn2 hBl2 hb3 hk3 hBl3 hK2 hn3 hBW hK3 hmid hfin hwk hst hl12 hlv hlu h20 h20' hmm
                  gi_wp2
                  rename_i K0 hK0
                  refine wpIn_mono (Q := fun e a' w' => match e with | .normal => K0 a' w' | _ => False) ?_ (by intro e a' w' hm; cases e with | normal => exact hm | _ => exact hm.elim)
                  refine wpIn_wide.2 (wp_region_R (R := fun j => fun W' => j < 21 → (fun W' => W'.cell? ⟨w5.heap.size, 0, none⟩ = some (.int .i64 (l.length : Int)) ∧ W'.cell? ⟨w'.heap.size + 1, 0, none⟩ = some (.slice p1 l.length cp1) ∧ W'.cell? ⟨W.heap.size, 0, none⟩ = some (.int .i64 mm) ∧ W'.cell? ⟨w.heap.size, 0, none⟩ = some (.int .u8 st)) W') (by kernel_rfl) ?_)
                  change wpAnyR Tryz.prog .any _ _ _ 22 (Array.replicate 22 false) _ _
                  have hS : (fun W' => W'.cell? ⟨w5.heap.size, 0, none⟩ = some (.int .i64 (l.length : Int)) ∧ W'.cell? ⟨w'.heap.size + 1, 0, none⟩ = some (.slice p1 l.length cp1) ∧ W'.cell? ⟨W.heap.size, 0, none⟩ = some (.int .i64 mm) ∧ W'.cell? ⟨w.heap.size, 0, none⟩ = some (.int .u8 st)) W5.drew := ⟨g1, g4, g2, g3⟩
                  refine wpAnyR_take (fun W' => W'.cell? ⟨w5.heap.size, 0, none⟩ = some (.int .i64 (l.length : Int)) ∧ W'.cell? ⟨w'.heap.size + 1, 0, none⟩ = some (.slice p1 l.length cp1) ∧ W'.cell? ⟨W.heap.size, 0, none⟩ = some (.int .i64 mm) ∧ W'.cell? ⟨w.heap.size, 0, none⟩ = some (.int .u8 st)) (i := 0) (v := .int .i64 (l.length : Int)) (fun j => decide (21 ≤ j)) rfl (by kernel_rfl) (by kernel_rfl) (by kernel_rfl) (by kernel_rfl) rfl (by kernel_rfl) (fun _ _ _ h => h) (fun j w hb hR => hR (blk_lt hb (by omega))) (fun w hS _ => hS) (.inl ⟨by rfl, fun w hS => ?x0⟩) hS ?_
                  case x0 => obtain ⟨s1, s2, s3, s4⟩ := hS; go_simp
                  try simp only [Act.put, List.getElem_toArray, List.getElem_cons_zero, List.getElem_cons_succ, List.setIfInBounds_toArray, List.set_cons_zero, List.set_cons_succ]
                  refine wpAnyR_take (fun W' => W'.cell? ⟨w5.heap.size, 0, none⟩ = some (.int .i64 (l.length : Int)) ∧ W'.cell? ⟨w'.heap.size + 1, 0, none⟩ = some (.slice p1 l.length cp1) ∧ W'.cell? ⟨W.heap.size, 0, none⟩ = some (.int .i64 mm) ∧ W'.cell? ⟨w.heap.size, 0, none⟩ = some (.int .u8 st)) (i := 1) (v := .slice p1 l.length cp1) (fun j => decide (21 ≤ j)) rfl (by kernel_rfl) (by kernel_rfl) (by kernel_rfl) (by kernel_rfl) rfl (by kernel_rfl) (fun _ _ _ h => h) (fun j w hb hR => hR (blk_lt hb (by omega))) (fun w hS _ => hS) (.inl ⟨by rfl, fun w hS => ?x1⟩) hS ?_
                  case x1 => obtain ⟨s1, s2, s3, s4⟩ := hS; go_simp
                  try simp only [Act.put, List.getElem_toArray, List.getElem_cons_zero, List.getElem_cons_succ, List.setIfInBounds_toArray, List.set_cons_zero, List.set_cons_succ]
                  refine wpAnyR_take (fun W' => W'.cell? ⟨w5.heap.size, 0, none⟩ = some (.int .i64 (l.length : Int)) ∧ W'.cell? ⟨w'.heap.size + 1, 0, none⟩ = some (.slice p1 l.length cp1) ∧ W'.cell? ⟨W.heap.size, 0, none⟩ = some (.int .i64 mm) ∧ W'.cell? ⟨w.heap.size, 0, none⟩ = some (.int .u8 st)) (i := 2) (v := .int .i64 (l.length : Int)) (fun j => decide (21 ≤ j)) rfl (by kernel_rfl) (by kernel_rfl) (by kernel_rfl) (by kernel_rfl) rfl (by kernel_rfl) (fun _ _ _ h => h) (fun j w hb hR => hR (blk_lt hb (by omega))) (fun w hS _ => hS) (.inl ⟨by rfl, fun w hS => ?x2⟩) hS ?_
                  case x2 => obtain ⟨s1, s2, s3, s4⟩ := hS; go_simp
                  try simp only [Act.put, List.getElem_toArray, List.getElem_cons_zero, List.getElem_cons_succ, List.setIfInBounds_toArray, List.set_cons_zero, List.set_cons_succ]
                  refine wpAnyR_take (fun W' => W'.cell? ⟨w5.heap.size, 0, none⟩ = some (.int .i64 (l.length : Int)) ∧ W'.cell? ⟨w'.heap.size + 1, 0, none⟩ = some (.slice p1 l.length cp1) ∧ W'.cell? ⟨W.heap.size, 0, none⟩ = some (.int .i64 mm) ∧ W'.cell? ⟨w.heap.size, 0, none⟩ = some (.int .u8 st)) (i := 3) (v := .bool true) (fun j => decide (21 ≤ j)) rfl (by kernel_rfl) (by kernel_rfl) (by kernel_rfl) (by kernel_rfl) rfl (by kernel_rfl) (fun _ _ _ h => h) (fun j w hb hR => hR (blk_lt hb (by omega))) (fun w hS _ => hS) (.inl ⟨by rfl, fun w hS => ?x3⟩) hS ?_
                  case x3 => obtain ⟨s1, s2, s3, s4⟩ := hS; go_simp
                  try simp only [Act.put, List.getElem_toArray, List.getElem_cons_zero, List.getElem_cons_succ, List.setIfInBounds_toArray, List.set_cons_zero, List.set_cons_succ]
                  refine wpAnyR_take (fun W' => W'.cell? ⟨w5.heap.size, 0, none⟩ = some (.int .i64 (l.length : Int)) ∧ W'.cell? ⟨w'.heap.size + 1, 0, none⟩ = some (.slice p1 l.length cp1) ∧ W'.cell? ⟨W.heap.size, 0, none⟩ = some (.int .i64 mm) ∧ W'.cell? ⟨w.heap.size, 0, none⟩ = some (.int .u8 st)) (i := 4) (v := .bool true) (fun j => decide (21 ≤ j)) rfl (by kernel_rfl) (by kernel_rfl) (by kernel_rfl) (by kernel_rfl) rfl (by kernel_rfl) (fun _ _ _ h => h) (fun j w hb hR => hR (blk_lt hb (by omega))) (fun w hS _ => hS) (.inl ⟨by rfl, fun w hS => ?x4⟩) hS ?_
                  case x4 => obtain ⟨s1, s2, s3, s4⟩ := hS; go_simp
                  try simp only [Act.put, List.getElem_toArray, List.getElem_cons_zero, List.getElem_cons_succ, List.setIfInBounds_toArray, List.set_cons_zero, List.set_cons_succ]
                  refine wpAnyR_take (fun W' => W'.cell? ⟨w5.heap.size, 0, none⟩ = some (.int .i64 (l.length : Int)) ∧ W'.cell? ⟨w'.heap.size + 1, 0, none⟩ = some (.slice p1 l.length cp1) ∧ W'.cell? ⟨W.heap.size, 0, none⟩ = some (.int .i64 mm) ∧ W'.cell? ⟨w.heap.size, 0, none⟩ = some (.int .u8 st)) (i := 5) (v := .int .i64 (l.length : Int)) (fun j => decide (21 ≤ j)) rfl (by kernel_rfl) (by kernel_rfl) (by kernel_rfl) (by kernel_rfl) rfl (by kernel_rfl) (fun _ _ _ h => h) (fun j w hb hR => hR (blk_lt hb (by omega))) (fun w hS _ => hS) (.inl ⟨by rfl, fun w hS => ?x5⟩) hS ?_
                  case x5 => obtain ⟨s1, s2, s3, s4⟩ := hS; go_simp
                  try simp only [Act.put, List.getElem_toArray, List.getElem_cons_zero, List.getElem_cons_succ, List.setIfInBounds_toArray, List.set_cons_zero, List.set_cons_succ]
                  refine wpAnyR_take (fun W' => W'.cell? ⟨w5.heap.size, 0, none⟩ = some (.int .i64 (l.length : Int)) ∧ W'.cell? ⟨w'.heap.size + 1, 0, none⟩ = some (.slice p1 l.length cp1) ∧ W'.cell? ⟨W.heap.size, 0, none⟩ = some (.int .i64 mm) ∧ W'.cell? ⟨w.heap.size, 0, none⟩ = some (.int .u8 st)) (i := 6) (v := .pointer (some ⟨w.heap.size + 1 + 1 + 1, 0, none⟩)) (fun j => decide (21 ≤ j)) rfl (by kernel_rfl) (by kernel_rfl) (by kernel_rfl) (by kernel_rfl) rfl (by kernel_rfl) (fun _ _ _ h => h) (fun j w hb hR => hR (blk_lt hb (by omega))) (fun w hS _ => hS) (.inl ⟨by rfl, fun w hS => ?x6⟩) hS ?_
                  case x6 => obtain ⟨s1, s2, s3, s4⟩ := hS; go_simp
                  try simp only [Act.put, List.getElem_toArray, List.getElem_cons_zero, List.getElem_cons_succ, List.setIfInBounds_toArray, List.set_cons_zero, List.set_cons_succ]
                  refine wpAnyR_ready (rs := [7]) (by kernel_rfl) (by simp) ?_
                  refine AllR.call rfl (by rfl) (f := 15) (args := #[.pointer (some ⟨w.heap.size + 1 + 1 + 1, 0, none⟩)]) (w1 := W5.drew) ?x7 hlen ?c7 AllR.nil
                  case x7 => go_simp
                  case c7 =>
                    rintro e w6 ⟨rfl, hb6⟩
                    have m6 := HM.out _ hb6
                    have hS6 : (fun W' => W'.cell? ⟨w5.heap.size, 0, none⟩ = some (.int .i64 (l.length : Int)) ∧ W'.cell? ⟨w'.heap.size + 1, 0, none⟩ = some (.slice p1 l.length cp1) ∧ W'.cell? ⟨W.heap.size, 0, none⟩ = some (.int .i64 mm) ∧ W'.cell? ⟨w.heap.size, 0, none⟩ = some (.int .u8 st)) w6 := ⟨m6.n.cell, by rw [← hv1]; exact m6.a3.rows.x1.cell, m6.k.cell, m6.a3.two_.one.stop.cell⟩
                    refine ⟨_, rfl, fun _ => hS6, ?_⟩
                    try simp only [Act.put, List.getElem_toArray, List.getElem_cons_zero, List.getElem_cons_succ, List.setIfInBounds_toArray, List.set_cons_zero, List.set_cons_succ]
                    refine wpAnyR_take (fun W' => W'.cell? ⟨w5.heap.size, 0, none⟩ = some (.int .i64 (l.length : Int)) ∧ W'.cell? ⟨w'.heap.size + 1, 0, none⟩ = some (.slice p1 l.length cp1) ∧ W'.cell? ⟨W.heap.size, 0, none⟩ = some (.int .i64 mm) ∧ W'.cell? ⟨w.heap.size, 0, none⟩ = some (.int .u8 st)) (i := 8) (v := .bool true) (fun j => decide (21 ≤ j)) rfl (by kernel_rfl) (by kernel_rfl) (by kernel_rfl) (by kernel_rfl) rfl (by kernel_rfl) (fun _ _ _ h => h) (fun j w hb hR => hR (blk_lt hb (by omega))) (fun w hS _ => hS) (.inl ⟨by rfl, fun w hS => ?x8⟩) hS6 ?_
                    case x8 => obtain ⟨s1, s2, s3, s4⟩ := hS; go_simp
                    try simp only [Act.put, List.getElem_toArray, List.getElem_cons_zero, List.getElem_cons_succ, List.setIfInBounds_toArray, List.set_cons_zero, List.set_cons_succ]
                    refine wpAnyR_take (fun W' => W'.cell? ⟨w5.heap.size, 0, none⟩ = some (.int .i64 (l.length : Int)) ∧ W'.cell? ⟨w'.heap.size + 1, 0, none⟩ = some (.slice p1 l.length cp1) ∧ W'.cell? ⟨W.heap.size, 0, none⟩ = some (.int .i64 mm) ∧ W'.cell? ⟨w.heap.size, 0, none⟩ = some (.int .u8 st)) (i := 9) (v := .bool true) (fun j => decide (21 ≤ j)) rfl (by kernel_rfl) (by kernel_rfl) (by kernel_rfl) (by kernel_rfl) rfl (by kernel_rfl) (fun _ _ _ h => h) (fun j w hb hR => hR (blk_lt hb (by omega))) (fun w hS _ => hS) (.inl ⟨by rfl, fun w hS => ?x9⟩) hS6 ?_
                    case x9 => obtain ⟨s1, s2, s3, s4⟩ := hS; go_simp
                    try simp only [Act.put, List.getElem_toArray, List.getElem_cons_zero, List.getElem_cons_succ, List.setIfInBounds_toArray, List.set_cons_zero, List.set_cons_succ]
                    refine wpAnyR_take (fun W' => W'.cell? ⟨w5.heap.size, 0, none⟩ = some (.int .i64 (l.length : Int)) ∧ W'.cell? ⟨w'.heap.size + 1, 0, none⟩ = some (.slice p1 l.length cp1) ∧ W'.cell? ⟨W.heap.size, 0, none⟩ = some (.int .i64 mm) ∧ W'.cell? ⟨w.heap.size, 0, none⟩ = some (.int .u8 st)) (i := 10) (v := .bool true) (fun j => decide (21 ≤ j)) rfl (by kernel_rfl) (by kernel_rfl) (by kernel_rfl) (by kernel_rfl) rfl (by kernel_rfl) (fun _ _ _ h => h) (fun j w hb hR => hR (blk_lt hb (by omega))) (fun w hS _ => hS) (.inl ⟨by rfl, fun w hS => ?x10⟩) hS6 ?_
                    case x10 => obtain ⟨s1, s2, s3, s4⟩ := hS; go_simp
                    try simp only [Act.put, List.getElem_toArray, List.getElem_cons_zero, List.getElem_cons_succ, List.setIfInBounds_toArray, List.set_cons_zero, List.set_cons_succ]
                    refine wpAnyR_take (fun W' => W'.cell? ⟨w5.heap.size, 0, none⟩ = some (.int .i64 (l.length : Int)) ∧ W'.cell? ⟨w'.heap.size + 1, 0, none⟩ = some (.slice p1 l.length cp1) ∧ W'.cell? ⟨W.heap.size, 0, none⟩ = some (.int .i64 mm) ∧ W'.cell? ⟨w.heap.size, 0, none⟩ = some (.int .u8 st)) (i := 11) (v := .int .i64 mm) (fun j => decide (21 ≤ j)) rfl (by kernel_rfl) (by kernel_rfl) (by kernel_rfl) (by kernel_rfl) rfl (by kernel_rfl) (fun _ _ _ h => h) (fun j w hb hR => hR (blk_lt hb (by omega))) (fun w hS _ => hS) (.inl ⟨by rfl, fun w hS => ?x11⟩) hS6 ?_
                    case x11 => obtain ⟨s1, s2, s3, s4⟩ := hS; go_simp
                    try simp only [Act.put, List.getElem_toArray, List.getElem_cons_zero, List.getElem_cons_succ, List.setIfInBounds_toArray, List.set_cons_zero, List.set_cons_succ]
                    refine wpAnyR_take (fun W' => W'.cell? ⟨w5.heap.size, 0, none⟩ = some (.int .i64 (l.length : Int)) ∧ W'.cell? ⟨w'.heap.size + 1, 0, none⟩ = some (.slice p1 l.length cp1) ∧ W'.cell? ⟨W.heap.size, 0, none⟩ = some (.int .i64 mm) ∧ W'.cell? ⟨w.heap.size, 0, none⟩ = some (.int .u8 st)) (i := 12) (v := .int .i64 (l.length : Int)) (fun j => decide (21 ≤ j)) rfl (by kernel_rfl) (by kernel_rfl) (by kernel_rfl) (by kernel_rfl) rfl (by kernel_rfl) (fun _ _ _ h => h) (fun j w hb hR => hR (blk_lt hb (by omega))) (fun w hS _ => hS) (.inl ⟨by rfl, fun w hS => ?x12⟩) hS6 ?_
                    case x12 => obtain ⟨s1, s2, s3, s4⟩ := hS; go_simp
                    try simp only [Act.put, List.getElem_toArray, List.getElem_cons_zero, List.getElem_cons_succ, List.setIfInBounds_toArray, List.set_cons_zero, List.set_cons_succ]
                    refine wpAnyR_take (fun W' => W'.cell? ⟨w5.heap.size, 0, none⟩ = some (.int .i64 (l.length : Int)) ∧ W'.cell? ⟨w'.heap.size + 1, 0, none⟩ = some (.slice p1 l.length cp1) ∧ W'.cell? ⟨W.heap.size, 0, none⟩ = some (.int .i64 mm) ∧ W'.cell? ⟨w.heap.size, 0, none⟩ = some (.int .u8 st)) (i := 13) (v := .int .u8 st) (fun j => decide (21 ≤ j)) rfl (by kernel_rfl) (by kernel_rfl) (by kernel_rfl) (by kernel_rfl) rfl (by kernel_rfl) (fun _ _ _ h => h) (fun j w hb hR => hR (blk_lt hb (by omega))) (fun w hS _ => hS) (.inl ⟨by rfl, fun w hS => ?x13⟩) hS6 ?_
                    case x13 => obtain ⟨s1, s2, s3, s4⟩ := hS; go_simp
                    try simp only [Act.put, List.getElem_toArray, List.getElem_cons_zero, List.getElem_cons_succ, List.setIfInBounds_toArray, List.set_cons_zero, List.set_cons_succ]
                    refine wpAnyR_take (fun W' => W'.cell? ⟨w5.heap.size, 0, none⟩ = some (.int .i64 (l.length : Int)) ∧ W'.cell? ⟨w'.heap.size + 1, 0, none⟩ = some (.slice p1 l.length cp1) ∧ W'.cell? ⟨W.heap.size, 0, none⟩ = some (.int .i64 mm) ∧ W'.cell? ⟨w.heap.size, 0, none⟩ = some (.int .u8 st)) (i := 14) (v := .int .i64 st) (fun j => decide (21 ≤ j)) rfl (by kernel_rfl) (by kernel_rfl) (by kernel_rfl) (by kernel_rfl) rfl (by kernel_rfl) (fun _ _ _ h => h) (fun j w hb hR => hR (blk_lt hb (by omega))) (fun w hS _ => hS) (.inl ⟨by rfl, fun w hS => ?x14⟩) hS6 ?_
                    case x14 => obtain ⟨s1, s2, s3, s4⟩ := hS; go_simp
                    try simp only [Act.put, List.getElem_toArray, List.getElem_cons_zero, List.getElem_cons_succ, List.setIfInBounds_toArray, List.set_cons_zero, List.set_cons_succ]
                    refine wpAnyR_take (fun W' => W'.cell? ⟨w5.heap.size, 0, none⟩ = some (.int .i64 (l.length : Int)) ∧ W'.cell? ⟨w'.heap.size + 1, 0, none⟩ = some (.slice p1 l.length cp1) ∧ W'.cell? ⟨W.heap.size, 0, none⟩ = some (.int .i64 mm) ∧ W'.cell? ⟨w.heap.size, 0, none⟩ = some (.int .u8 st)) (i := 15) (v := .int .i64 mm) (fun j => decide (21 ≤ j)) rfl (by kernel_rfl) (by kernel_rfl) (by kernel_rfl) (by kernel_rfl) rfl (by kernel_rfl) (fun _ _ _ h => h) (fun j w hb hR => hR (blk_lt hb (by omega))) (fun w hS _ => hS) (.inl ⟨by rfl, fun w hS => ?x15⟩) hS6 ?_
                    case x15 => obtain ⟨s1, s2, s3, s4⟩ := hS; go_simp
                    try simp only [Act.put, List.getElem_toArray, List.getElem_cons_zero, List.getElem_cons_succ, List.setIfInBounds_toArray, List.set_cons_zero, List.set_cons_succ]
                    refine wpAnyR_take (fun W' => W'.cell? ⟨w5.heap.size, 0, none⟩ = some (.int .i64 (l.length : Int)) ∧ W'.cell? ⟨w'.heap.size + 1, 0, none⟩ = some (.slice p1 l.length cp1) ∧ W'.cell? ⟨W.heap.size, 0, none⟩ = some (.int .i64 mm) ∧ W'.cell? ⟨w.heap.size, 0, none⟩ = some (.int .u8 st)) (i := 16) (v := .bool true) (fun j => decide (21 ≤ j)) rfl (by kernel_rfl) (by kernel_rfl) (by kernel_rfl) (by kernel_rfl) rfl (by kernel_rfl) (fun _ _ _ h => h) (fun j w hb hR => hR (blk_lt hb (by omega))) (fun w hS _ => hS) (.inl ⟨by rfl, fun w hS => ?x16⟩) hS6 ?_
                    case x16 => obtain ⟨s1, s2, s3, s4⟩ := hS; go_simp
                    try simp only [Act.put, List.getElem_toArray, List.getElem_cons_zero, List.getElem_cons_succ, List.setIfInBounds_toArray, List.set_cons_zero, List.set_cons_succ]
                    refine wpAnyR_take (fun W' => W'.cell? ⟨w5.heap.size, 0, none⟩ = some (.int .i64 (l.length : Int)) ∧ W'.cell? ⟨w'.heap.size + 1, 0, none⟩ = some (.slice p1 l.length cp1) ∧ W'.cell? ⟨W.heap.size, 0, none⟩ = some (.int .i64 mm) ∧ W'.cell? ⟨w.heap.size, 0, none⟩ = some (.int .u8 st)) (i := 17) (v := .bool true) (fun j => decide (21 ≤ j)) rfl (by kernel_rfl) (by kernel_rfl) (by kernel_rfl) (by kernel_rfl) rfl (by kernel_rfl) (fun _ _ _ h => h) (fun j w hb hR => hR (blk_lt hb (by omega))) (fun w hS _ => hS) (.inl ⟨by rfl, fun w hS => ?x17⟩) hS6 ?_
                    case x17 => obtain ⟨s1, s2, s3, s4⟩ := hS; go_simp
                    try simp only [Act.put, List.getElem_toArray, List.getElem_cons_zero, List.getElem_cons_succ, List.setIfInBounds_toArray, List.set_cons_zero, List.set_cons_succ]
                    refine wpAnyR_take (fun W' => W'.cell? ⟨w5.heap.size, 0, none⟩ = some (.int .i64 (l.length : Int)) ∧ W'.cell? ⟨w'.heap.size + 1, 0, none⟩ = some (.slice p1 l.length cp1) ∧ W'.cell? ⟨W.heap.size, 0, none⟩ = some (.int .i64 mm) ∧ W'.cell? ⟨w.heap.size, 0, none⟩ = some (.int .u8 st)) (i := 18) (v := .bool true) (fun j => decide (21 ≤ j)) rfl (by kernel_rfl) (by kernel_rfl) (by kernel_rfl) (by kernel_rfl) rfl (by kernel_rfl) (fun _ _ _ h => h) (fun j w hb hR => hR (blk_lt hb (by omega))) (fun w hS _ => hS) (.inl ⟨by rfl, fun w hS => ?x18⟩) hS6 ?_
                    case x18 => obtain ⟨s1, s2, s3, s4⟩ := hS; go_simp
                    try simp only [Act.put, List.getElem_toArray, List.getElem_cons_zero, List.getElem_cons_succ, List.setIfInBounds_toArray, List.set_cons_zero, List.set_cons_succ]
                    try simp only [Act.put, List.getElem_toArray, List.getElem_cons_zero, List.getElem_cons_succ, List.setIfInBounds_toArray, List.set_cons_zero, List.set_cons_succ]
                    refine wpAnyR_ready (rs := [19]) (by kernel_rfl) (by simp) ?_
                    refine AllR.call rfl (by rfl) (f := 13) (args := #[]) (w1 := w6) ?x19 (HW.out _ hb6) ?c19 AllR.nil
                    case x19 => go_simp
                    case c19 =>
                      rintro e w7 ⟨rfl, hb7⟩
                      have m7 := m6.belowW hb7
                      have hS7 : (fun W' => W'.cell? ⟨w5.heap.size, 0, none⟩ = some (.int .i64 (l.length : Int)) ∧ W'.cell? ⟨w'.heap.size + 1, 0, none⟩ = some (.slice p1 l.length cp1) ∧ W'.cell? ⟨W.heap.size, 0, none⟩ = some (.int .i64 mm) ∧ W'.cell? ⟨w.heap.size, 0, none⟩ = some (.int .u8 st)) w7 := ⟨m7.n.cell, by rw [← hv1]; exact m7.a3.rows.x1.cell, m7.k.cell, m7.a3.two_.one.stop.cell⟩
                      obtain ⟨⟨r1, r2⟩, r3, r4, r5, r6, r7⟩ := HF.out _ _ hb6 hb7
                      refine ⟨_, rfl, fun _ => hS7, ?_⟩
                      try simp only [Act.put, List.getElem_toArray, List.getElem_cons_zero, List.getElem_cons_succ, List.setIfInBounds_toArray, List.set_cons_zero, List.set_cons_succ]
                      refine wpAnyR_take (fun W' => W'.cell? ⟨w5.heap.size, 0, none⟩ = some (.int .i64 (l.length : Int)) ∧ W'.cell? ⟨w'.heap.size + 1, 0, none⟩ = some (.slice p1 l.length cp1) ∧ W'.cell? ⟨W.heap.size, 0, none⟩ = some (.int .i64 mm) ∧ W'.cell? ⟨w.heap.size, 0, none⟩ = some (.int .u8 st)) (i := 20) (v := .bool true) (fun j => decide (21 ≤ j)) rfl (by kernel_rfl) (by kernel_rfl) (by kernel_rfl) (by kernel_rfl) rfl (by kernel_rfl) (fun _ _ _ h => h) (fun j w hb hR => hR (blk_lt hb (by omega))) (fun w hS _ => hS) (.inl ⟨by rfl, fun w hS => ?x20⟩) hS7 ?_
                      case x20 => obtain ⟨s1, s2, s3, s4⟩ := hS; go_simp
                      try simp only [Act.put, List.getElem_toArray, List.getElem_cons_zero, List.getElem_cons_succ, List.setIfInBounds_toArray, List.set_cons_zero, List.set_cons_succ]
                      try simp only [Act.put, List.getElem_toArray, List.getElem_cons_zero, List.getElem_cons_succ, List.setIfInBounds_toArray, List.set_cons_zero, List.set_cons_succ]
                      refine wpAnyR_ready (rs := [21]) (by kernel_rfl) (by simp) ?_
                      refine AllR.skip rfl (by rfl) (w' := w7.setCell ⟨w.heap.size + 1, 0, none⟩ (.bool true)) ?x21 (fun h => absurd h (by omega)) ?c21 AllR.nil
                      case x21 =>
                        clear r3 r4 r5 r6 r7
                        go_simp
                      case c21 =>
                        refine wpAnyR_done (by kernel_rfl) ?_
                        show K0 _ _
                        refine hK0 _ _ ?_
                        try simp only [Act.put, List.getElem_toArray, List.getElem_cons_zero, List.getElem_cons_succ, List.setIfInBounds_toArray, List.set_cons_zero, List.set_cons_succ]
                        gi_wp2
                        refine ⟨by simp, .inl ⟨_, _, rfl, run_takeDeferred r3, ?_⟩⟩
                        refine ⟨by simp, .inl ⟨_, _, rfl, run_takeDeferred r4, ?_⟩⟩
                        refine ⟨by simp, .inl ⟨_, _, rfl, run_takeDeferred r5, ?_⟩⟩
                        refine ⟨.bool true, ?_, ⟨rfl, r7⟩⟩
                        simp [results, Tryz.f6, go_sem, r6]
end Go.St
/- The walk of StoreApart, at the arguments that a row hands. -/
namespace Go.St
open Go Go.Proofs Go.RowKit Go.Maps Go.Shelf Go.ChangeShapes Go.WideShapes
theorem cells5 : Tryz.prog.cellsOf 5 = 1 := by kernel_rfl
theorem u8s_of {H : Type} {enc : TypeId × Value → H} {W : World} {base : Nat} {sp : Nat → Bool} {held : Bool} {v : Value} {d : DataW H} {ps : List MemPlace} (h : DataW.Trod enc Tryz.prog W base sp held 48 v d ps) (hv : ∃ p n c, v = .slice p n c) : ∃ us, U8s W v us := by
  obtain ⟨p0, n0, c0, rfl⟩ := hv
  obtain ⟨fuel, hf⟩ := h
  rcases open_ints Tryz.underlying48 Tryz.underlying5 cells5 hf with ⟨h1, _⟩ | ⟨a, len, cap, zs, h1, _, hl, _, hz, _, hc, hw⟩
  · simp [Value.cells] at h1
    obtain ⟨rfl, rfl, rfl⟩ := h1
    exact ⟨[], .inl ⟨rfl, rfl⟩⟩
  · simp [Value.cells] at h1
    obtain ⟨rfl, rfl, rfl⟩ := h1
    have hlz : n0 ≤ zs.length := by rw [hz]; split <;> omega
    refine ⟨zs.take n0, .inr ⟨a, c0, by rw [List.length_take, Nat.min_eq_left hlz], fun j u hu => ?_⟩⟩
    rw [List.getElem?_take] at hu
    split at hu
    · have hjl := (List.getElem?_eq_some_iff.1 hu).1
      have h2 := hc j hjl
      rw [show zs.getD j 0 = u by rw [List.getD_eq_getElem?_getD, hu]; rfl] at h2
      exact ⟨h2, u8_bounds (hw u (List.mem_of_getElem? hu))⟩
    · cases hu
theorem trodAll_five' {H : Type} {enc : TypeId × Value → H} {P : Program} {w : World} {base : Nat} {spare : Nat → Bool} {held : Bool} {t t' t'' t3 t4 : TypeId} {args : Array Value} {ds : List (DataW H)} {ps : List MemPlace} (h : DataW.TrodAll enc P w base spare held [t, t', t'', t3, t4] args.toList ds ps) :
    ∃ v v' v'' v3 v4 d d' d'' d3 d4 p p' p'' p3 p4, args = #[v, v', v'', v3, v4] ∧ ds = [d, d', d'', d3, d4] ∧ ps = p ++ (p' ++ (p'' ++ (p3 ++ p4))) ∧ DataW.Trod enc P w base spare held t v d p ∧ DataW.Trod enc P w base spare held t' v' d' p' ∧ DataW.Trod enc P w base spare held t'' v'' d'' p'' ∧ DataW.Trod enc P w base spare held t3 v3 d3 p3 ∧ DataW.Trod enc P w base spare held t4 v4 d4 p4 := by
  obtain ⟨v, vs, d, ds', p, q, hargs, rfl, rfl, hd, hrest⟩ := trodAll_cons h
  obtain ⟨v', vs', d', ds'', p', q', rfl, rfl, rfl, hd', hrest'⟩ := trodAll_cons hrest
  obtain ⟨v'', vs'', d'', ds''', p'', q'', rfl, rfl, rfl, hd'', hrest''⟩ := trodAll_cons hrest'
  obtain ⟨v3, vs3, d3, ds3, p3, q3, rfl, rfl, rfl, hd3, hrest3⟩ := trodAll_cons hrest''
  obtain ⟨v4, vs4, d4, ds4, p4, q4, rfl, rfl, rfl, hd4, hrest4⟩ := trodAll_cons hrest3
  obtain ⟨rfl, rfl, rfl⟩ := trodAll_nil hrest4
  exact ⟨v, v', v'', v3, v4, d, d', d'', d3, d4, p, p', p'', p3, p4, by cases args; simp_all, rfl, by simp, hd, hd', hd'', hd3, hd4⟩
set_option maxRecDepth 100000 in
theorem apart_handed {H : Type} {enc : TypeId × Value → H} {W : World} {b0 : Nat} {args : Array Value} {ds : List (DataW H)} {p : List MemPlace} (hA : DataW.TrodAll enc Tryz.prog W 0 (fun _ => true) true [5, 5, 48, 48, 5] args.toList ds p)
    (hval : ∀ (j : Nat) t v, (#[5, 5, 48, 48, 5] : Array TypeId)[j]? = some t → args[j]? = some v → Value.okWide Tryz.prog W .any b0 t v)
    (hback : ∀ (W' : World) (v : Value) (d : DataW H) (ps : List MemPlace), Below W.heap.size W W' → DataW.Trod enc Tryz.prog W 0 (fun _ => true) true 48 v d ps → DataW.Trod enc Tryz.prog W' 0 (fun b => decide (b < W.heap.size)) true 48 v d ps)
    (hw : ∀ W1, Below W.heap.size W W1 → Calls Tryz.prog 13 #[] W1 (WorksE W1)) (hsn : ∀ W1, Below W.heap.size W W1 → Calls Tryz.prog 9 #[.int .i64 4] W1 (SnapsF W1)) :
    ∃ d0 d1 d2 d3 d4, ds = [d0, d1, d2, d3, d4] ∧ Calls Tryz.prog 6 args W (LawE W) ∧ ∀ W', Below W.heap.size W W' → DataW.TrodAll enc Tryz.prog W' 0 (fun b => decide (b < W.heap.size)) true [5, 5, 48, 48, 5] args.toList ds p := by
  obtain ⟨v0, v1, v2, v3, v4, d0, d1, d2, d3, d4, p0, p1, p2, p3, p4, rfl, rfl, rfl, h0, h1, h2, h3, h4⟩ := trodAll_five' hA
  obtain ⟨a0, rfl, rfl, rfl, w0⟩ := open_int Tryz.underlying5 (hval 0 5 v0 rfl rfl) h0
  obtain ⟨a1, rfl, rfl, rfl, w1⟩ := open_int Tryz.underlying5 (hval 1 5 v1 rfl rfl) h1
  obtain ⟨a4, rfl, rfl, rfl, w4⟩ := open_int Tryz.underlying5 (hval 4 5 v4 rfl rfl) h4
  obtain ⟨us, hus⟩ := u8s_of h2 (by
    obtain ⟨a, n, c, rfl⟩ := okWide_slice Tryz.underlying48 (hval 2 48 v2 rfl rfl)
    exact ⟨a, n, c, rfl⟩)
  obtain ⟨ms, hms⟩ := u8s_of h3 (by
    obtain ⟨a, n, c, rfl⟩ := okWide_slice Tryz.underlying48 (hval 3 48 v3 rfl rfl)
    exact ⟨a, n, c, rfl⟩)
  refine ⟨_, _, _, _, _, rfl, ?_, fun W' hb => ?_⟩
  · exact callsIn_wide.1 (apart_ok hw hsn (u8_bounds w0).1 (u8_bounds w0).2 (u8_bounds w1).1 (u8_bounds w1).2 (u8_bounds w4).1 (u8_bounds w4).2 hus hms)
  · exact ⟨_, _, shut_int Tryz.underlying5 w0, trodAll_mk4 (shut_int Tryz.underlying5 w1) (hback W' _ _ _ hb h2) (hback W' _ _ _ hb h3) (shut_int Tryz.underlying5 w4), rfl⟩
end Go.St
