/- The walk of package store: All, and what a loop over it does. -/
import Derived.Test.YtlgngfiiaoodjaaGreatDoorStWalks
import Derived.Maps.AppendAt
import Derived.Maps.OwnIn
set_option linter.unusedVariables false
set_option linter.unusedSimpArgs false
/- The walk of package store: All, and what a loop over it does. -/
namespace Go.St
open Go Go.Proofs Go.RowKit Go.Maps Go.Shelf Go.Ev
attribute [local go_sem] Oper.semAt_some
theorem all_ok (sb : Nat) (w : World) : Calls Tryz.prog 17 #[.pointer (some ⟨sb, 0, none⟩)] w fun e w' => e = .returned (.func (.func 37) #[] #[.pointer (some ⟨w.heap.size, 0, none⟩)]) ∧ w' = w.alloc (.cells #[.pointer (some ⟨sb, 0, none⟩)] 23) := by
  go_enter Tryz.func17, Tryz.ntmps17
  go_wp2
  go_ret
  exact ⟨rfl, rfl⟩
/-- what a round keeps: rows and maps, but for those in X (it may speak of the world); of what was there X gains none -/
def KB (X : World → Nat → Prop) (W W' : World) : Prop := W.heap.size ≤ W'.heap.size ∧ (∀ i o, W.heap[i]? = some o → ¬ X W i → (o.isCells = true ∨ o.isWalk = true) → W'.heap[i]? = some o) ∧ ∀ i, i < W.heap.size → X W' i → X W i
/-- X looks at rows below B alone -/
structure XOk (B : Nat) (X : World → Nat → Prop) : Prop where
  grown : ∀ {W W' : World} {i : Nat}, B ≤ W.heap.size → W.grownBy W' none → X W' i → X W i
  put : ∀ {W : World} {l : Nat} {o o' : Obj} {i : Nat}, B ≤ l → W.heap[l]? = some o → o.isCells = false → X (W.putObj l o') i → X W i
theorem KB.refl (X : World → Nat → Prop) (W : World) : KB X W W := ⟨Nat.le_refl _, fun _ _ h _ _ => h, fun _ _ h => h⟩
theorem KB.trans {X : World → Nat → Prop} {A B C : World} (h : KB X A B) (k : KB X B C) : KB X A C :=
  ⟨Nat.le_trans h.1 k.1, fun i o hi hx ho => k.2.1 i o (h.2.1 i o hi hx ho) (fun e => hx (h.2.2 i (Array.getElem?_eq_some_iff.1 hi).1 e)) ho, fun i hi e => h.2.2 i hi (k.2.2 i (Nat.lt_of_lt_of_le hi h.1) e)⟩
theorem KB.put {B : Nat} {X : World → Nat → Prop} (hX : XOk B X) (W : World) (l : Nat) (o o' : Obj) (hl : B ≤ l) (h : W.heap[l]? = some o) (hc : o.isCells = false) (hw : o.isWalk = false) : KB X W (W.putObj l o') := by
  refine ⟨by simp, fun i p hi _ hp => ?_, fun i _ e => hX.put hl h hc e⟩
  by_cases e : i = l
  · subst e
    rw [h] at hi; cases hi
    rw [hc, hw] at hp
    rcases hp with hp | hp <;> cases hp
  · rw [World.putObj_heap_other e]; exact hi
theorem KB.grown {B : Nat} {X : World → Nat → Prop} (hX : XOk B X) {W W' : World} (hB : B ≤ W.heap.size) (hg : W.grownBy W' none) : KB X W W' :=
  ⟨hg.size, fun i o hi hx _ => (hg.block i (Array.getElem?_eq_some_iff.1 hi).1 (fun e => by cases e)).trans hi, fun i _ e => hX.grown hB hg e⟩
theorem KB.cell {X : World → Nat → Prop} {W W' : World} (h : KB X W W') {b o : Nat} {v : Value} (hc : W.cell? ⟨b, o, none⟩ = some v) (hb : ¬ X W b) : W'.cell? ⟨b, o, none⟩ = some v := by
  have hl := World.block_lt_of_cell? _ _ hc
  cases hh : W.heap[b]? with
  | none => simp [World.cell?, hh] at hc
  | some ob =>
    have hcl : ob.isCells = true := by
      cases ob <;> first | rfl | (simp [World.cell?, hh] at hc)
    have := h.2.1 b ob hh hb (.inl hcl)
    simp only [World.cell?, hh] at hc
    simp only [World.cell?, this]
    exact hc
theorem At.kb {X : World → Nat → Prop} {w w' : World} {sb : Nat} {d room : Int} {mb : Nat} {l : List (Int × Value)} (h : At w sb d room mb l) (hk : KB X w w') (hs : ¬ X w sb) (hm : ¬ X w mb) : At w' sb d room mb l := by
  refine ⟨hk.cell h.c0 hs, hk.cell h.c1 hs, hk.cell h.c2 hs, ?_, h.inc, h.wf, h.few⟩
  obtain ⟨es, clock, hb, rest⟩ := h.own
  exact ⟨es, clock, hk.2.1 mb _ hb hm (.inr rfl), rest⟩
set_option maxRecDepth 100000 in
set_option maxHeartbeats 2000000 in
theorem all1_in (n : Nat) (hn : 2 ≤ n) (lp Bs : Nat) {sb mb : Nat} {d room : Int} {l : List (Int × Value)} {B : Nat} (X : World → Nat → Prop) (hX : XOk B X) (J Jx : List (Fin l.length) → World → Prop)
    (hY : ∀ pre x W, J pre W → pre.length < l.length → YieldAt Fence.wide (n - 1) Tryz.prog lp #[.int .i64 (kth l x.1), at? (kth l x.1) l] W fun e W' =>
      (e = .returned (.bool true) ∧ J (pre ++ [x]) W' ∧ KB X W W') ∨ (e = .returned (.bool false) ∧ Jx (pre ++ [x]) W'))
    (W : World) (hJ : AbidesFrom W.heap.size J) (hBW : B ≤ W.heap.size) (hXl : ∀ i, X W i → i < W.heap.size) (hXs : ¬ X W sb) (hXm : ¬ X W mb) (hXB : ¬ X W Bs) (hBs : W.cell? ⟨Bs, 0, none⟩ = some (.pointer (some ⟨sb, 0, none⟩))) (h : At W sb d room mb l) (h0 : J [] W) :
    CallsIn Fence.wide n Tryz.prog 37 #[.func (.yield lp) #[] #[], .pointer (some ⟨Bs, 0, none⟩)] W fun e W' => (∃ v, e = .returned v) ∧
      ((∃ ys, ys = List.finRange l.length ∧ J ys W') ∨ (∃ pre, (∃ k, k ≤ l.length ∧ pre = (List.finRange l.length).take k) ∧ Jx pre W')) := by
  have hs := callsIn_wide (n := n - 1).2 (indexes_ok h)
  refine callsIn_of_wp Tryz.func37 rfl trivial ?_ rfl
  simp only [Tryz.ntmps37, List.size_toArray, List.length_cons, List.length_nil, Nat.reduceAdd, Nat.reduceSub, Array.replicate_succ, Array.replicate_zero, List.push_toArray, List.append_toArray, List.nil_append, List.cons_append]
  gi_wp2_with (refine ⟨trivial, fun _ => Nat.le_of_succ_le hn, ?_⟩; gi_at_call 33; refine hs.mono ?_; rintro e w' ⟨v, rfl, hrow, hbl⟩; have hlen := hrow.len)
  have hkl := keys_length l
  have hJ1 : J [] w' := hJ _ _ _ none h0 (below_grown hbl none) (fun r e => by cases e)
  have hk1 : KB X W w' := KB.grown hX hBW (below_grown hbl none)
  rcases hrow with ⟨hv, hz⟩ | ⟨g, cap, hv, hne, hg, hgl, hcell⟩
  · have hl0 : l = [] := List.map_eq_nil_iff.1 hz
    subst hl0
    clear hs hlen hkl hz
    subst hv
    gi_loopw [8] (fun i wr => i = .int .i64 0 ∧ J [] wr) (fun _ _ => 0)
    case atStart => exact ⟨rfl, hJ1⟩
    case round =>
      obtain ⟨rfl, hJs⟩ := hrel
      have hz : ¬ 0 < (keys ([] : List (Int × Value))).length := by simp [keys]
      gi_wp2
      go_end0
      exact ⟨⟨_, rfl⟩, .inl ⟨_, rfl, hJs⟩⟩
  · have hXg : ¬ X w' g := fun e => by have := hXl g (hX.grown hBW (below_grown hbl none) e); omega
    have HK := Lib.hid hkl
    clear hs hlen hkl
    subst hv
    gi_loopw [8] (fun i wr => ∃ k : Nat, k ≤ (keys l).length ∧ i = .int .i64 k ∧ J ((List.finRange l.length).take k) wr ∧ KB X w' wr)
      (fun i _ => (keys l).length - (RowKit.intOf i).toNat)
    case atStart => exact ⟨0, Nat.zero_le _, rfl, hJ1, KB.refl _ _⟩
    case round =>
      obtain ⟨k, hk, rfl, hJs, hkb⟩ := hrel
      have hAW := h.kb (hk1.trans hkb) hXs hXm
      have hBsW := (hk1.trans hkb).cell hBs hXB
      have hcm := hAW.c2
      have hfew := h.few
      have hkl4 : (keys l).length ≤ 4096 := by rw [HK.out]; exact hfew
      by_cases hlt : k < (keys l).length
      · have hcx : wr.cell? ⟨g, k, none⟩ = some (.int .i64 (kth l k)) := hkb.cell (hcell k _ (kth_get hlt)) hXg
        obtain ⟨v, hv⟩ := kth_mem (l := l) hlt
        obtain ⟨_, hwf, av, hav⟩ := h.wf _ hv
        have hlk := look_ok hAW.own hwf
        have hatv : at? (kth l k) l = .pointer (some av) := by rw [at_of_mem h.inc hv]; exact hav
        obtain ⟨fn, tmps, assign, body, hy, hR⟩ := hY _ ⟨k, by rw [← HK.out]; exact hlt⟩ wr hJs (by rw [List.length_take, List.length_finRange]; have := HK.out; omega)
        dsimp only at hy
        rw [hatv] at hlk hy
        clear hcell hatv hav hv hwf hfew
        gi_wp2
        refine ⟨fun _ => Nat.le_of_succ_le hn, hR.mono ?_⟩
        have htk : ((List.finRange l.length).take k ++ [⟨k, by rw [← HK.out]; exact hlt⟩]) = (List.finRange l.length).take (k + 1) := by
          rw [List.take_add_one, List.getElem?_eq_getElem (by rw [List.length_finRange, ← HK.out]; exact hlt)]
          simp
        rintro e W3 (⟨rfl, hJ3, hk3⟩ | ⟨rfl, hJx3⟩)
        · rw [htk] at hJ3
          clear htk
          gi_wp2
          go_roundw
          case rel => exact ⟨k + 1, by omega, by simp, hJ3, hkb.trans hk3⟩
          case measure => simp [RowKit.intOf]; omega
        · rw [htk] at hJx3
          clear htk
          gi_wp2
          refine bodyPost_ret (results_none rfl _ _ _) rfl ?_
          exact ⟨⟨_, rfl⟩, .inr ⟨_, ⟨k + 1, by rw [← HK.out]; omega, rfl⟩, hJx3⟩⟩
      · have hkk : k = l.length := by rw [← HK.out]; omega
        clear hcell
        gi_wp2
        go_end0
        refine ⟨⟨_, rfl⟩, .inl ⟨_, rfl, ?_⟩⟩
        rw [hkk, List.take_of_length_le (by simp)] at hJs
        exact hJs
/-- a loop over All -/
theorem all_stops (n : Nat) (hn : 2 ≤ n) (Bs : Nat) {sb mb : Nat} {d room : Int} {l : List (Int × Value)} {B : Nat} (X : World → Nat → Prop) (hX : XOk B X) (w : World) (hBw : B ≤ w.heap.size) (hXl : ∀ i, X w i → i < w.heap.size) (hXs : ¬ X w sb) (hXm : ¬ X w mb) (hXB : ¬ X w Bs)
    (hBs : w.cell? ⟨Bs, 0, none⟩ = some (.pointer (some ⟨sb, 0, none⟩))) (h : At w sb d room mb l) :
    SeqStopsK Fence.wide n Tryz.prog 37 #[.pointer (some ⟨Bs, 0, none⟩)] (fun x : Fin l.length => #[Value.int .i64 (kth l x.1), at? (kth l x.1) l]) (KB X) (fun ys => ys = List.finRange l.length) (fun pre => ∃ k, k ≤ l.length ∧ pre = (List.finRange l.length).take k) l.length w := fun lp J Jx W hW hJ _ hY h0 =>
  have hg := below_grown hW none
  all1_in n hn lp Bs X hX J Jx hY W hJ (Nat.le_trans hBw hW.size) (fun i e => Nat.lt_of_lt_of_le (hXl i (hX.grown hBw hg e)) hW.size) (fun e => hXs (hX.grown hBw hg e)) (fun e => hXm (hX.grown hBw hg e)) (fun e => hXB (hX.grown hBw hg e)) ((hW.cell (p := ⟨Bs, 0, none⟩) (World.block_lt_of_cell? _ _ hBs)).trans hBs) (h.below hW) h0
end Go.St
/- The statements' function indexes: the indexes of a store, in order. -/
namespace Go.St
open Go Go.Proofs Go.RowKit Go.Maps Go.Shelf Go.Ev
attribute [local go_sem] Oper.semAt_some
theorem info3 : (Tryz.prog.info? 3).map (fun i => (i.zero, i.size, i.bytes)) = some (some (.int .i64 0), 1, 8) := by kernel_rfl
/-- what the rounds may change: the box M, and the row of the slice in it -/
def XBox (M : Nat) (W : World) (i : Nat) : Prop := i = M ∨ ∃ a n c, W.cell? ⟨M, 0, none⟩ = some (.slice (some a) n c) ∧ a.block = i
theorem xbox_ok (M : Nat) : XOk (M + 1) (XBox M) := by
  refine ⟨fun {W W' i} hB hg hx => ?_, fun {W l o o' i} hl ho hc hx => ?_⟩
  · rcases hx with rfl | ⟨a, n, c, h1, h2⟩
    · exact .inl rfl
    · refine .inr ⟨a, n, c, ?_, h2⟩
      have := hg.block M (by omega) (by simp)
      simpa [World.cell?, this] using h1
  · rcases hx with rfl | ⟨a, n, c, h1, h2⟩
    · exact .inl rfl
    · refine .inr ⟨a, n, c, ?_, h2⟩
      have := World.putObj_heap_other (w := W) (k := M) (r := l) (o := o') (by omega)
      simpa [World.cell?, this] using h1
theorem fn_eqIn (d f : Nat) (cs : Array Value) (W : World) : (Op.equalIn (d + 1) 45 (.func (.func f) #[] cs) .nilFunc).run Tryz.prog W = .ok false W := by
  simp [Op.equalIn, run_underlying Tryz.underlying45]
theorem fn_not_nil (f : Nat) (cs : Array Value) (W : World) : (binOp .eql 45 (.func (.func f) #[] cs) .nilFunc).run Tryz.prog W = .ok (.bool false) W := by
  simp only [binOp]
  simp [Op.equal, Op.maxDepth, fn_eqIn 9999]
/-- the indexes that have come -/
def outs (l : List (Int × Value)) (pre : List (Fin l.length)) : List Int := pre.map fun x => kth l x.1
/-- the world in which the loop begins -/
def w6 (w : World) (sb : Nat) (iv cp : Int) : World := ((((((w.alloc (.cells #[.int .i64 iv] 3)).alloc (.cells #[.int .i64 cp] 3)).alloc (.cells #[.slice none 0 0] 32)).alloc (.cells #[.bool false] 4)).alloc (.cells #[.slice none 0 0] 32)).alloc (.cells #[.pointer (some ⟨sb, 0, none⟩)] 23))
theorem w6_below (w : World) (sb : Nat) (iv cp : Int) : Below w.heap.size w (w6 w sb iv cp) := by
  unfold w6
  exact ((((((Below.refl _ w).alloc (Nat.le_refl _) _).alloc (by simp) _).alloc (by simp; omega) _).alloc (by simp; omega) _).alloc (by simp; omega) _).alloc (by simp; omega) _
/-- the boxes of indexes: the interval, the capacity, the results, what is collected -/
structure Six (N sb : Nat) (iv cp : Int) (v : Value) (W : World) : Prop where
  b0 : Boxed W N 3 (.int .i64 iv)
  b1 : Boxed W (N + 1) 3 (.int .i64 cp)
  b2 : Boxed W (N + 1 + 1) 32 (.slice none 0 0)
  b3 : Boxed W (N + 1 + 1 + 1) 4 (.bool false)
  b4 : Boxed W (N + 1 + 1 + 1 + 1) 32 v
theorem w6_boxed (w : World) (sb : Nat) (iv cp : Int) : Six w.heap.size sb iv cp (.slice none 0 0) (w6 w sb iv cp) ∧ Boxed (w6 w sb iv cp) (w.heap.size + 1 + 1 + 1 + 1 + 1) 23 (.pointer (some ⟨sb, 0, none⟩)) := by
  unfold w6
  refine ⟨⟨?_, ?_, ?_, ?_, ?_⟩, ?_⟩
  · exact (((((Boxed.new w 3 (.int .i64 iv)).alloc _).alloc _).alloc _).alloc _).alloc _
  · have := Boxed.new (w.alloc (.cells #[.int .i64 iv] 3)) 3 (.int .i64 cp)
    rw [World.size_alloc] at this
    exact (((this.alloc _).alloc _).alloc _).alloc _
  · have := Boxed.new ((w.alloc (.cells #[.int .i64 iv] 3)).alloc (.cells #[.int .i64 cp] 3)) 32 (.slice none 0 0)
    rw [World.size_alloc, World.size_alloc] at this
    exact ((this.alloc _).alloc _).alloc _
  · have := Boxed.new (((w.alloc (.cells #[.int .i64 iv] 3)).alloc (.cells #[.int .i64 cp] 3)).alloc (.cells #[.slice none 0 0] 32)) 4 (.bool false)
    rw [World.size_alloc, World.size_alloc, World.size_alloc] at this
    exact (this.alloc _).alloc _
  · have := Boxed.new ((((w.alloc (.cells #[.int .i64 iv] 3)).alloc (.cells #[.int .i64 cp] 3)).alloc (.cells #[.slice none 0 0] 32)).alloc (.cells #[.bool false] 4)) 32 (.slice none 0 0)
    rw [World.size_alloc, World.size_alloc, World.size_alloc, World.size_alloc] at this
    exact this.alloc _
  · have := Boxed.new (((((w.alloc (.cells #[.int .i64 iv] 3)).alloc (.cells #[.int .i64 cp] 3)).alloc (.cells #[.slice none 0 0] 32)).alloc (.cells #[.bool false] 4)).alloc (.cells #[.slice none 0 0] 32)) 23 (.pointer (some ⟨sb, 0, none⟩))
    rw [World.size_alloc, World.size_alloc, World.size_alloc, World.size_alloc, World.size_alloc] at this
    exact this
theorem Boxed.still {W W' : World} {row : Option Nat} {B : Nat} {t : TypeId} {v : Value} (h : Boxed W B t v) (hg : W.grownBy W' row) (hr : ∀ r, row = some r → ∃ o : Obj, W.heap[r]? = some o ∧ o.isCells = false) : Boxed W' B t v :=
  h.kept hg fun e => by
    obtain ⟨o, ho, hc⟩ := hr B e.symm
    rw [show W.heap[B]? = _ from h] at ho; cases ho; cases hc
theorem Six.still {N sb : Nat} {iv cp : Int} {v : Value} {W W' : World} {row : Option Nat} (h : Six N sb iv cp v W) (hg : W.grownBy W' row) (hr : ∀ r, row = some r → ∃ o : Obj, W.heap[r]? = some o ∧ o.isCells = false) : Six N sb iv cp v W' :=
  ⟨Boxed.still h.b0 hg hr, Boxed.still h.b1 hg hr, Boxed.still h.b2 hg hr, Boxed.still h.b3 hg hr, Boxed.still h.b4 hg hr⟩
theorem own_slice {v : Value} {i : Nat} (h : v.ownBlock = some i) : ∃ a n c, v = .slice (some a) n c ∧ a.block = i := by
  cases v <;> simp [Value.ownBlock] at h
  case slice a n c =>
    cases a with
    | none => simp at h
    | some a => exact ⟨a, n, c, rfl, by simpa using h⟩
theorem kb_appended {M : Nat} {W w1 : World} {v v' : Value} {tmp : Obj} (hb : Boxed W M 32 v) (hb2 : Boxed (w1.setCell ⟨M, 0, none⟩ v') M 32 v') (hgrow : (W.alloc tmp).grownBy w1 v.ownBlock) (hloc : v'.ownBlock = v.ownBlock ∨ v'.ownBlock = some (W.alloc tmp).heap.size) : KB (XBox M) W (w1.setCell ⟨M, 0, none⟩ v') := by
  have hs := hgrow.size
  simp only [World.size_alloc] at hs
  refine ⟨?_, fun i o hi hx _ => ?_, fun i hi hx => ?_⟩
  · have := (grownBy_setCell' w1 M v').size
    omega
  · have hil := (Array.getElem?_eq_some_iff.1 hi).1
    have h1 : (W.alloc tmp).heap[i]? = some o := (Below.heap_alloc _ _ _ hil).trans hi
    have hne : v.ownBlock ≠ some i := fun e => by
      obtain ⟨a, n, c, rfl, ha⟩ := own_slice e
      exact hx (.inr ⟨a, n, c, hb.cell, ha⟩)
    have h2 : w1.heap[i]? = some o := (hgrow.block i (by simp; omega) (fun e => hne e.symm)).trans h1
    exact (Below.heap_setCell w1 ⟨M, 0, none⟩ v' i (fun e => hx (.inl e))).trans h2
  · rcases hx with rfl | ⟨a, n, c, h1, h2⟩
    · exact .inl rfl
    · right
      rw [hb2.cell] at h1
      have hv' : v' = .slice (some a) n c := Option.some.inj h1
      have ho : v'.ownBlock = some i := by rw [hv']; simp [Value.ownBlock, h2]
      rcases hloc with e | e
      · rw [e] at ho
        obtain ⟨a', n', c', hv, ha⟩ := own_slice ho
        exact ⟨a', n', c', by rw [hb.cell, hv], ha⟩
      · rw [e] at ho
        have := Option.some.inj ho
        simp at this
        omega
theorem Six.appended {N sb : Nat} {iv cp : Int} {v v' : Value} {W w1 : World} {tmp : Obj} (h : Six N sb iv cp v W) (hne : ∀ i, v.ownBlock = some i → i ≠ N ∧ i ≠ N + 1 ∧ i ≠ N + 1 + 1 ∧ i ≠ N + 1 + 1 + 1) (hgrow : (W.alloc tmp).grownBy w1 v.ownBlock) (hb2 : Boxed (w1.setCell ⟨N + 1 + 1 + 1 + 1, 0, none⟩ v') (N + 1 + 1 + 1 + 1) 32 v') : Six N sb iv cp v' (w1.setCell ⟨N + 1 + 1 + 1 + 1, 0, none⟩ v') := by
  have key : ∀ B t u, Boxed W B t u → (∀ i, v.ownBlock = some i → i ≠ B) → B ≠ N + 1 + 1 + 1 + 1 → Boxed (w1.setCell ⟨N + 1 + 1 + 1 + 1, 0, none⟩ v') B t u := fun B t u hb hn hB =>
    ((hb.alloc tmp).kept hgrow (fun e => hn B e.symm rfl)).kept (grownBy_setCell' w1 _ v') (by simpa using hB)
  exact ⟨key _ _ _ h.b0 (fun i e => (hne i e).1) (by omega), key _ _ _ h.b1 (fun i e => (hne i e).2.1) (by omega), key _ _ _ h.b2 (fun i e => (hne i e).2.2.1) (by omega), key _ _ _ h.b3 (fun i e => (hne i e).2.2.2) (by omega), hb2⟩
def IdxLaw (l : List (Int × Value)) (w : World) (e : Ending) (w' : World) : Prop := ∃ v, e = .returned (.tuple #[v, .bool true]) ∧ Ints w.heap.size w' (keys l) v ∧ Below w.heap.size w w'
theorem outs_all (l : List (Int × Value)) : outs l (List.finRange l.length) = keys l := by
  apply List.ext_getElem
  · simp [outs, keys_length]
  · intro i h1 h2
    have := kth_get h2
    rw [List.getElem?_eq_getElem h2] at this
    simp [outs, Option.some.inj this]
theorem At.drew {w : World} {sb : Nat} {d room : Int} {mb : Nat} {l : List (Int × Value)} (h : At w sb d room mb l) : At w.drew sb d room mb l :=
  ⟨h.c0, h.c1, h.c2, h.own, h.inc, h.wf, h.few⟩
def IdxI (l : List (Int × Value)) (w : World) (sb : Nat) (iv cp : Int) (pre : List (Fin l.length)) (W : World) : Prop :=
  (∃ v, Six w.heap.size sb iv cp v W ∧ W.ownsRow w.heap.size 3 1 v (outs l pre).length ((outs l pre).map (Value.int .i64)) ∧ (v = .slice none 0 0 ↔ pre = []) ∧ (outs l pre).Pairwise (· < ·) ∧ (∀ i, v.ownBlock = some i → w.heap.size + 6 ≤ i)) ∧ w.heap.size + 6 ≤ W.heap.size ∧ Below w.heap.size w W
theorem idx_round {l : List (Int × Value)} {w W w1 : World} {sb : Nat} {iv cp : Int} {B0 : Nat} {pre : List (Fin l.length)} {x : Fin l.length} {v v' : Value} (hs6 : Six w.heap.size sb iv cp v W) (hrow : W.ownsRow w.heap.size 3 1 v (outs l pre).length ((outs l pre).map (Value.int .i64))) (hpos : ∀ i, v.ownBlock = some i → w.heap.size + 6 ≤ i) (hBW : Below w.heap.size w W) (hsW : w.heap.size + 6 ≤ W.heap.size)
    (hown' : w1.ownsRow w.heap.size 3 1 v' (pre.length + 1) ((outs l pre).map (Value.int .i64) ++ [.int .i64 (kth l x.1)])) (hgrow : (W.alloc (.cells #[.int .i64 (kth l x.1)] 3)).grownBy w1 v.ownBlock) (hloc : v'.ownBlock = v.ownBlock ∨ v'.ownBlock = some (W.alloc (.cells #[.int .i64 (kth l x.1)] 3)).heap.size) (hpw' : (outs l (pre ++ [x])).Pairwise (· < ·)) :
    w1.cell? ⟨w.heap.size + 1 + 1 + 1 + 1, 0, none⟩ = some v ∧ w1.frozen? ⟨w.heap.size + 1 + 1 + 1 + 1, 0, none⟩ = false ∧
    KeepsFrom B0 W (w1.setCell ⟨w.heap.size + 1 + 1 + 1 + 1, 0, none⟩ v') ∧ KB (XBox (w.heap.size + 1 + 1 + 1 + 1)) W (w1.setCell ⟨w.heap.size + 1 + 1 + 1 + 1, 0, none⟩ v') ∧ IdxI l w sb iv cp (pre ++ [x]) (w1.setCell ⟨w.heap.size + 1 + 1 + 1 + 1, 0, none⟩ v') := by
  have hpl : (outs l pre).length = pre.length := by unfold outs; simp
  obtain ⟨hv1, hv2, hr2, hk2, hb2⟩ := hs6.b4.appended (by decide) hrow hBW.size (by omega) hown' hgrow
  have hne : ∀ i, v.ownBlock = some i → i ≠ w.heap.size ∧ i ≠ w.heap.size + 1 ∧ i ≠ w.heap.size + 1 + 1 ∧ i ≠ w.heap.size + 1 + 1 + 1 := fun i e => by have := hpos i e; omega
  refine ⟨hv1.cell, hv1.frozen, hk2.from _, kb_appended hs6.b4 hv2 hgrow hloc, ⟨v', hs6.appended hne hgrow hv2, ?_, ?_, hpw', fun i e => ?_⟩, Nat.le_trans hsW hb2.size, hBW.trans hb2⟩
  · have e1 : outs l (pre ++ [x]) = outs l pre ++ [kth l x.1] := by unfold outs; simp
    rw [e1, List.length_append, hpl, List.map_append]
    exact hr2
  · have : v' ≠ .slice none 0 0 := fun e => by
      obtain ⟨g, cap, hg⟩ := ownsRow_succ hown'
      rw [hg] at e; cases e
    simp [this]
  · rcases hloc with e' | e'
    · rw [e'] at e; exact hpos i e
    · rw [e'] at e
      have := Option.some.inj e
      simp at this; omega
set_option maxRecDepth 100000 in
set_option maxHeartbeats 4000000 in
theorem idx_in {sb mb : Nat} {d room iv cp : Int} {l : List (Int × Value)} {w : World} (h : At w sb d room mb l) (hiv : 1 ≤ iv) (hdiv : ∀ p ∈ l, p.1 % iv = 0) (hcp : (l.length : Int) ≤ cp) :
    CallsIn Fence.wide 7 Tryz.prog 11 #[.pointer (some ⟨sb, 0, none⟩), .int .i64 iv, .int .i64 cp] w (IdxLaw l w) := by
  obtain ⟨i0, hi, hz0, hz1, hz2⟩ := info_parts info3
  have hnf := fn_not_nil
  have hall := fun W => callsIn_wide (n := 6).2 (all_ok sb W)
  refine callsIn_of_wp_marks Tryz.func11 rfl trivial ?_ rfl
  simp only [Tryz.ntmps11, List.size_toArray, List.length_cons, List.length_nil, Nat.reduceAdd, Nat.reduceSub, Array.replicate_succ, Array.replicate_zero, List.push_toArray, List.append_toArray, List.nil_append, List.cons_append]
  gi_wp2_with (refine ⟨trivial, ?_⟩; gi_at_call 17; refine (hall _).mono ?_; rintro e w' ⟨rfl, rfl⟩)
  have hB0 := w6_below w sb iv cp
  have hbx := w6_boxed w sb iv cp
  unfold w6 at hB0 hbx
  obtain ⟨W0, hW0⟩ : ∃ W0, ((((((w.alloc (.cells #[.int .i64 iv] 3)).alloc (.cells #[.int .i64 cp] 3)).alloc (.cells #[.slice none 0 0] 32)).alloc (.cells #[.bool false] 4)).alloc (.cells #[.slice none 0 0] 32)).alloc (.cells #[.pointer (some ⟨sb, 0, none⟩)] 23)) = W0 := ⟨_, rfl⟩
  have hsz : W0.heap.size = w.heap.size + 6 := by rw [← hW0]; simp
  rw [hW0] at hB0 hbx ⊢
  clear hW0
  have hA0 := h.below hB0
  obtain ⟨hsix, hb5⟩ := hbx
  refine wpIn_rangeFunc_ownG rfl (by omega) (gf := 37) (lb := #[.pointer (some ⟨w.heap.size + 1 + 1 + 1 + 1 + 1, 0, none⟩)]) rfl trivial (enters_of Tryz.func37 (by kernel_rfl) rfl)
    (all_stops 6 (by omega) (w.heap.size + 1 + 1 + 1 + 1 + 1) (XBox (w.heap.size + 1 + 1 + 1 + 1)) (xbox_ok _) W0 (by omega) ?xl ?xs ?xm ?xb hb5.cell hA0) (fun h k => h.trans k) (fun W l o o' hl h1 h2 h3 => KB.put (xbox_ok _) W l o o' (by omega) h1 h2 h3) (Below.refl _ _) (fun _ => rfl)
    (IdxI l w sb iv cp)
    (fun c pre W => ¬ (outs l pre).Pairwise (· < ·))
    ?own ?ownx ?start
    (fun x => { tmps := #[.pointer (some ⟨sb, 0, none⟩), .int .i64 iv, .int .i64 cp, undef, .pointer (some ⟨w.heap.size, 0, none⟩), .pointer (some ⟨w.heap.size + 1, 0, none⟩), .pointer (some ⟨w.heap.size + 1 + 1, 0, none⟩), .pointer (some ⟨w.heap.size + 1 + 1 + 1, 0, none⟩), .pointer (some ⟨w.heap.size + 1 + 1 + 1 + 1, 0, none⟩), .func (.func 37) #[] #[.pointer (some ⟨w.heap.size + 1 + 1 + 1 + 1 + 1, 0, none⟩)], .int .i64 (kth l x.1), at? (kth l x.1) l, .pointer (some ⟨sb, 0, none⟩), .func (.func 37) #[] #[.pointer (some ⟨w.heap.size + 1 + 1 + 1 + 1 + 1, 0, none⟩)], .func (.func 37) #[] #[.pointer (some ⟨w.heap.size + 1 + 1 + 1 + 1 + 1, 0, none⟩)], .bool false, .func (.func 37) #[] #[.pointer (some ⟨w.heap.size + 1 + 1 + 1 + 1 + 1, 0, none⟩)], .int .i64 (kth l x.1), at? (kth l x.1) l, undef, undef, undef, undef, undef, undef, undef, undef, undef, undef, undef, undef, undef, undef, undef, undef, undef, undef, undef, undef, undef, undef, undef, undef, undef, undef, undef, undef, undef, undef, undef, undef, undef, undef, undef, undef, undef, undef, undef, undef, undef, undef, undef], defers := [] }) ?assign ?body ?done ?stop
  case xl =>
    rintro i (rfl | ⟨a, n, c, h1, _⟩)
    · omega
    · rw [hsix.b4.cell] at h1; cases h1
  case xs =>
    have := World.block_lt_of_cell? _ _ h.c0
    simp only at this
    rintro (e | ⟨a, n, c, h1, _⟩)
    · omega
    · rw [hsix.b4.cell] at h1; cases h1
  case xm =>
    have := h.own.lt
    rintro (e | ⟨a, n, c, h1, _⟩)
    · omega
    · rw [hsix.b4.cell] at h1; cases h1
  case xb =>
    rintro (e | ⟨a, n, c, h1, _⟩)
    · omega
    · rw [hsix.b4.cell] at h1; cases h1
  case own =>
    rintro s A B row ⟨⟨v, h1, h2, h3, h4, h5⟩, h6, h7⟩ hg hr
    have hr' : ∀ r, row = some r → ∃ o : Obj, A.heap[r]? = some o ∧ o.isCells = false := fun r e => (hr r e).2
    refine ⟨⟨v, h1.still hg hr', h2.kept hg ?_, h3, h4, h5⟩, Nat.le_trans h6 hg.size, h7.grown hg h7.size (fun k e => by have := (hr k e).1; omega)⟩
    rcases h2.2 with ⟨rfl, _⟩ | ⟨g, cap, cur, rfl, _, hgb, _⟩
    · exact .inl rfl
    · refine .inr fun e' => ?_
      obtain ⟨o, ho, hc⟩ := hr' g (by simpa [Value.ownBlock] using e'.symm)
      rw [hgb] at ho; cases ho; cases hc
  case ownx => exact fun _ _ _ _ _ hs _ _ => hs
  case start => exact ⟨⟨_, hsix, World.ownsRow_nil _ _ _ _, by simp, by simp [outs], by simp [Value.ownBlock]⟩, by omega, hB0⟩
  case assign =>
    intro lp x W K hK
    gi_wp2
    exact hK
  case body =>
    rintro lp pre x W ⟨⟨v, hs6, hrow, hnil, hpw, hpos⟩, hsW, hBW⟩ hlt
    have hxl : x.1 < (keys l).length := by rw [keys_length]; exact x.2
    obtain ⟨u, hu⟩ := kth_mem (l := l) hxl
    obtain ⟨hk0, hwf, av, hav⟩ := h.wf _ hu
    have hat : at? (kth l x.1) l = .pointer (some av) := by rw [at_of_mem h.inc hu]; exact hav
    have hm0 : kth l x.1 % iv = 0 := hdiv _ hu
    have hk0' : 0 ≤ kth l x.1 := hk0
    have hkn : ¬ kth l x.1 < 0 := by omega
    have hiv0 : ¬ iv = 0 := by omega
    have hfew := h.few
    have hpl : (outs l pre).length = pre.length := by unfold outs; simp
    have hc0 := hs6.b0.cell
    have hc1 := hs6.b1.cell
    have hc4 := hs6.b4.cell
    have hc2 := hs6.b2.cell
    have hc3 := hs6.b3.cell
    have hf2 := hs6.b2.frozen
    have hf3 := hs6.b3.frozen
    have hend := fun (v' : Value) (w1 : World) (hown' : w1.ownsRow w.heap.size 3 1 v' (pre.length + 1) ((outs l pre).map (Value.int .i64) ++ [.int .i64 (kth l x.1)])) (hgrow : (W.alloc (.cells #[.int .i64 (kth l x.1)] 3)).grownBy w1 v.ownBlock) (hloc : v'.ownBlock = v.ownBlock ∨ v'.ownBlock = some (W.alloc (.cells #[.int .i64 (kth l x.1)] 3)).heap.size) (hpw' : (outs l (pre ++ [x])).Pairwise (· < ·)) => idx_round (l := l) (sb := sb) (iv := iv) (cp := cp) (B0 := w.heap.size + 6) hs6 hrow hpos hBW hsW hown' hgrow hloc hpw'
    rw [hat]
    rw [hpl] at hrow
    clear hat hu hav hk0 hxl
    by_cases hpre : pre = []
    · have hv := hnil.2 hpre
      subst hpre
      subst hv
      have hcp1 : 0 < cp := by simp at hlt; omega
      have hpw1 : (outs l ([] ++ [x])).Pairwise (· < ·) := by simp [outs]
      gi_wp2_with (gi_at_builtin; refine wpListIn_append_own_at _ rfl _ _ 32 rfl w.heap.size 3 i0 (.int .i64 0) 1 8 Tryz.underlying32 hi hz0 hz1 hz2 rfl (by decide) _ _ _ rfl (hrow.alloc _) ⟨W.heap.size, 0, none⟩ 1 1 [.int .i64 (kth l x.1)] rfl rfl (cell_one_new _ _ _) (by simp [Value.oneCell']) (by simp; unfold maxLen; omega) (by simp) (by simp; omega) ?_; intro v' w1 hown' hgrow _ hloc; obtain ⟨g', cap', rfl⟩ := ownsRow_succ hown'; obtain ⟨hc1', hf1', hE1, hE2, hE3⟩ := hend _ _ hown' hgrow hloc hpw1)
      exact ⟨hE1, hE2, hE3⟩
    · obtain ⟨ini, last, rfl⟩ : ∃ ini last, pre = ini ++ [last] := ⟨pre.dropLast, pre.getLast hpre, (List.dropLast_concat_getLast hpre).symm⟩
      have hql : (ini ++ [last]).length = ini.length + 1 := by simp
      have hcp1 : (ini.length : Int) + 1 < cp := by rw [hql] at hlt; omega
      have hq4 : ini.length + 1 ≤ 4096 := by rw [hql] at hlt; omega
      rw [hql] at hrow hend
      obtain ⟨g, cap, hv⟩ := ownsRow_succ hrow
      have hlc : W.cell? ⟨g, ini.length, none⟩ = some (.int .i64 (kth l last.1)) := by
        have := hrow.cells (g := g) (by rw [hv]; rfl) ini.length (.int .i64 (kth l last.1)) (by simp [outs])
        have e : (⟨g, 0, none⟩ : Addr).add ini.length = ⟨g, ini.length, none⟩ := by cases ini <;> simp [Addr.add]
        rw [e] at this; exact this
      have hpwl : kth l last.1 < kth l x.1 → (outs l ((ini ++ [last]) ++ [x])).Pairwise (· < ·) := fun hlt' => by
        have e1 : outs l ((ini ++ [last]) ++ [x]) = outs l (ini ++ [last]) ++ [kth l x.1] := by unfold outs; simp
        rw [e1, List.pairwise_append]
        refine ⟨hpw, by simp, fun a ha b hb => ?_⟩
        have hb : b = kth l x.1 := by simpa using hb
        rw [hb]
        have e2 : outs l (ini ++ [last]) = outs l ini ++ [kth l last.1] := by unfold outs; simp
        rw [e2] at ha hpw
        rcases List.mem_append.1 ha with ha | ha
        · have := (List.pairwise_append.1 hpw).2.2 a ha (kth l last.1) (by simp)
          omega
        · have : a = kth l last.1 := by simpa using ha
          omega
      have hnpw : ¬ kth l last.1 < kth l x.1 → ¬ (outs l ((ini ++ [last]) ++ [x])).Pairwise (· < ·) := fun hn hp => by
        have e1 : outs l ((ini ++ [last]) ++ [x]) = outs l ini ++ [kth l last.1] ++ [kth l x.1] := by unfold outs; simp
        rw [e1] at hp
        exact hn ((List.pairwise_append.1 hp).2.2 (kth l last.1) (by simp) (kth l x.1) (by simp))
      have HP := Lib.hid hpwl
      have HN := Lib.hid hnpw
      clear hpwl hnpw hpw hql hnil hlt hpl
      subst hv
      by_cases hlt' : kth l last.1 < kth l x.1
      · have hpw1 := HP.out hlt'
        gi_wp2_with (gi_at_builtin; refine wpListIn_append_own_at _ rfl _ _ 32 rfl w.heap.size 3 i0 (.int .i64 0) 1 8 Tryz.underlying32 hi hz0 hz1 hz2 rfl (by decide) _ _ _ rfl (hrow.alloc _) ⟨W.heap.size, 0, none⟩ 1 1 [.int .i64 (kth l x.1)] rfl rfl (cell_one_new _ _ _) (by simp [Value.oneCell']) (by unfold maxLen; omega) (by omega) (by simp; omega) ?_; intro v' w1 hown' hgrow _ hloc; obtain ⟨g', cap', rfl⟩ := ownsRow_succ hown'; obtain ⟨hc1', hf1', hE1, hE2, hE3⟩ := hend _ _ hown' hgrow hloc hpw1)
        exact ⟨hE1, hE2, by simpa using hE3⟩
      · have hnp1 := HN.out hlt'
        gi_wp2
        exact ⟨((KeepsOthers.setCell _ _ _).trans (KeepsOthers.setCell _ _ _)).from _, by simpa using hnp1⟩
  case done =>
    rintro D ys W hD rfl ⟨⟨v, hs6, hrow, hnil, hpw, hpos⟩, hsW, hBW⟩ hK
    rw [outs_all] at hrow
    have hnk : v = .slice none 0 0 ↔ keys l = [] := by
      rw [hnil]
      constructor <;> intro e
      · have e2 := congrArg List.length e
        have e3 := keys_length l
        rw [List.length_finRange, List.length_nil] at e2
        exact List.eq_nil_of_length_eq_zero (by omega)
      · have e2 := congrArg List.length e
        have e3 := keys_length l
        rw [List.length_nil] at e2
        exact List.eq_nil_of_length_eq_zero (by rw [List.length_finRange]; omega)
    have hints : Ints w.heap.size W (keys l) v := .of_row hrow rfl hnk (Nat.le_refl _)
    have hAW := h.below hBW
    have hlen := callsIn_wide (n := 6).2 (len_ok hAW.drew)
    have hlv := hints.len
    rw [keys_length] at hlv
    obtain ⟨pv, nv, cv, hvs⟩ : ∃ p n c, v = .slice p n c := by
      rcases hints with ⟨rfl, _⟩ | ⟨g, cap, rfl, _⟩
      · exact ⟨_, _, _, rfl⟩
      · exact ⟨_, _, _, rfl⟩
    have hs6' := hs6
    have hlv' := hlv
    rw [hvs] at hs6' hlv'
    have hc4 := hs6'.b4.cell
    have hc2 := hs6'.b2.cell
    have hc3 := hs6'.b3.cell
    have hf2 := hs6'.b2.frozen
    have hf3 := hs6'.b3.frozen
    gi_wp2
    gi_cut [] from 12 (fun wz => ∃ w1, Below W.heap.size W w1 ∧ wz = (w1.setCell ⟨w.heap.size + 1 + 1, 0, none⟩ (.slice pv nv cv)).setCell ⟨w.heap.size + 1 + 1 + 1, 0, none⟩ (.bool true))
    case first =>
      have hend : ∀ w1, Below W.drew.heap.size W.drew w1 →
          w1.cell? ⟨w.heap.size + 1 + 1, 0, none⟩ = some (.slice none 0 0) ∧ w1.cell? ⟨w.heap.size + 1 + 1 + 1, 0, none⟩ = some (.bool false) ∧ w1.frozen? ⟨w.heap.size + 1 + 1, 0, none⟩ = false ∧ w1.frozen? ⟨w.heap.size + 1 + 1 + 1, 0, none⟩ = false ∧ w1.cell? ⟨w.heap.size + 1 + 1 + 1 + 1, 0, none⟩ = some (.slice pv nv cv) ∧ Below W.heap.size W w1 := fun w1 hb => by
        have hg := (drewN_grown W 1 none).trans (below_grown hb none)
        have b2 := Boxed.kept hs6'.b2 hg (by simp)
        have b3 := Boxed.kept hs6'.b3 hg (by simp)
        have b4 := Boxed.kept hs6'.b4 hg (by simp)
        exact ⟨b2.cell, b3.cell, b2.frozen, b3.frozen, b4.cell, (Below.refl _ W).drew.trans hb⟩
      clear hall hnf h hAW hints hnk hpos hpw hnil hrow hs6 hs6' hlv hvs hA0 hsix hb5 hB0 hcp hdiv hiv hi hz0 hz1 hz2 hBW
      rename_i K0 hK0 J K' hJ hK'
      refine wpIn_mono (Q := fun e a' w' => match e with | .normal => Met J a' w' | _ => False) ?_ (by intro e a' w' hm; cases e with | normal => exact hK' _ _ hm | _ => exact hm.elim)
      gi_region_with (refine ⟨trivial, ?_⟩; gi_at_call 15; refine hlen.mono ?_; rintro e w1 ⟨rfl, hb⟩; obtain ⟨e1, e2, e3, e4, e5, e6⟩ := hend _ hb)
      all_goals
        refine Met.intro (hJ _ _ ?_)
        (repeat apply Exists.intro)
        refine ⟨?rel, rfl⟩
        case rel => exact ⟨_, e6, rfl⟩
    case rest =>
      obtain ⟨w1, hB1, rfl⟩ := hcut
      have hDW : D < W.heap.size := (Array.getElem?_eq_some_iff.1 hK).1
      have hK1 : w1.heap[D]? = some (.deferred (some [])) := (hB1.block D hDW).trans hK
      have hK' := ((KeepsOthers.setCell w1 ⟨w.heap.size + 1 + 1, 0, none⟩ (.slice pv nv cv)).trans (KeepsOthers.setCell _ ⟨w.heap.size + 1 + 1 + 1, 0, none⟩ (.bool true))).same D _ hK1 rfl
      have b2 := (Boxed.kept hs6'.b2 (below_grown hB1 none) (by simp)).set (.slice pv nv cv)
      have b3 := ((Boxed.kept hs6'.b3 (below_grown hB1 none) (by simp)).other (B' := w.heap.size + 1 + 1) (by omega) (.slice pv nv cv)).set (.bool true)
      have b2 := b2.other (B' := w.heap.size + 1 + 1 + 1) (by omega) (.bool true)
      have hput := grownBy_putObj' ((w1.setCell ⟨w.heap.size + 1 + 1, 0, none⟩ (.slice pv nv cv)).setCell ⟨w.heap.size + 1 + 1 + 1, 0, none⟩ (.bool true)) D (.deferred none)
      have g2 := (Boxed.still b2 hput (fun r e => by cases e; exact ⟨_, hK', rfl⟩)).cell
      have g3 := (Boxed.still b3 hput (fun r e => by cases e; exact ⟨_, hK', rfl⟩)).cell
      have r1 := hrow.kept (below_grown hB1 none) (by cases v.ownBlock <;> simp)
      have r2 := r1.kept (grownBy_setCell' w1 (w.heap.size + 1 + 1) (.slice pv nv cv)) (.inr fun e => by have := hpos _ e; omega)
      have r3 := r2.kept (grownBy_setCell' _ (w.heap.size + 1 + 1 + 1) (.bool true)) (.inr fun e => by have := hpos _ e; omega)
      have r4 := r3.kept hput (.inr fun e => by
        obtain ⟨a, n, c, hv, ha⟩ := own_slice e
        rcases r3.2 with ⟨h1, _⟩ | ⟨g, cap, cur, h1, _, hgb, _⟩
        · rw [hv] at h1; cases h1
        · rw [hv] at h1
          cases h1
          simp at ha
          subst ha
          rw [hK'] at hgb; cases hgb)
      have hI := Ints.of_row r4 rfl hnk (Nat.le_refl _)
      have hBF : Below w.heap.size w _ := (((hBW.trans (hB1.mono (by omega))).setCell (p := ⟨w.heap.size + 1 + 1, 0, none⟩) (by show w.heap.size ≤ w.heap.size + 1 + 1; omega) (.slice pv nv cv)).setCell (p := ⟨w.heap.size + 1 + 1 + 1, 0, none⟩) (by show w.heap.size ≤ w.heap.size + 1 + 1 + 1; omega) (.bool true)).trans (belowK_b (w := w) (Nat.le_refl _) _ D _ (.deferred none) (by omega) hK' rfl rfl)
      rw [hvs] at hI
      gi_wp2
      refine ⟨by simp, .inl ⟨_, _, rfl, run_takeDeferred hK', ?_⟩⟩
      refine ⟨.tuple #[.slice pv nv cv, .bool true], ?_, ⟨_, rfl, hI, hBF⟩⟩
      simp [results, Tryz.f11, go_sem, g2, g3]
  case stop =>
    rintro D c pre W hD ⟨k, hk, rfl⟩ hne hK
    exfalso
    apply hne
    have e1 : outs l ((List.finRange l.length).take k) = (keys l).take k := by
      rw [← outs_all l]; unfold outs; rw [List.map_take]
    rw [e1]
    have := h.inc
    unfold Inc at this
    exact this.sublist (List.take_sublist _ _)
end Go.St
