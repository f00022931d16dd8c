/- StorePlays: a store and the document's store side by side: what each call makes of the pair. -/
import Derived.Test.YtlgngfiiaoodjaaGreatDoorStItemss
import Derived.Test.YtlgngfiiaoodjaaGreatDoorStOffs
set_option linter.unusedVariables false
set_option linter.unusedSimpArgs false
/- StorePlays: a store and the document's store side by side: what each call makes of the pair. -/
namespace Go.St
open Go Go.Proofs Go.RowKit Go.Maps Go.Shelf Go.Ev
theorem inc_of_mapV {α β : Type} {f : α → β} {r : List (Int × α)} (h : Inc (mapV f r)) : Inc r := by
 unfold Inc at *
 rwa [keys_mapV] at h
/-- a block of the document's store is none of the store's -/
theorem RAt.ne_sb {A : World} {rb sb mb : Nat} {d room d' room' : Int} {r : List (Int × Int)} {v : Value} {l : List (Int × Value)} (hr : RAt A rb d' room' r v) (h : At A sb d room mb l) : rb ≠ sb := by
 rintro rfl
 have h1 := hr.c2
 rw [h.c2] at h1
 obtain ⟨p, c, rfl⟩ := hr.slice
 cases h1
theorem RAt.ne_mb {A : World} {rb sb mb : Nat} {d room d' room' : Int} {r : List (Int × Int)} {v : Value} {l : List (Int × Value)} (hr : RAt A rb d' room' r v) (h : At A sb d room mb l) : rb ≠ mb := by
 rintro rfl
 obtain ⟨es, clock, hb, _⟩ := h.own
 rw [hr.blk] at hb
 cases hb
theorem At.turn_r {A B : World} {rb sb mb : Nat} {d room d' room' : Int} {r : List (Int × Int)} {v : Value} {l : List (Int × Value)} (h : At A sb d room mb l) (hg : A.grownBy B (some rb)) (hr : RAt A rb d' room' r v) : At B sb d room mb l := by
 have h1 := hr.ne_sb h
 have h2 := hr.ne_mb h
 exact ⟨hg.cell h.c0 (fun e => h1 (by cases e; rfl)), hg.cell h.c1 (fun e => h1 (by cases e; rfl)), hg.cell h.c2 (fun e => h1 (by cases e; rfl)), h.own.kept hg (fun e => h2 (by cases e; rfl)), h.inc, h.wf, h.few⟩
theorem Snaps.turn_r {A B : World} {rb n g : Nat} {bs : Nat → Nat} {d' room' : Int} {r : List (Int × Int)} {v : Value} (h : Snaps A n g bs) (hg : A.grownBy B (some rb)) (hr : RAt A rb d' room' r v) : Snaps B n g bs := fun j hj => by
 obtain ⟨h1, a, h2⟩ := h j hj
 obtain ⟨h0, _⟩ := h 0 (by omega)
 have e0 := hr.c0
 refine ⟨hg.cell h1 (fun e => ?_), a, hg.cell h2 (fun e => ?_)⟩
 ·have e : g = rb := by cases e; rfl
  subst e
  rw [h0] at e0; cases e0
 ·have e : bs j = rb := by cases e; rfl
  rw [← e, h2] at e0; cases e0
theorem RAt.turn_r {A B : World} {rb rb' : Nat} {d room d' room' : Int} {r r' : List (Int × Int)} {v v' : Value} (h : RAt A rb d room r v) (hg : A.grownBy B (some rb')) (hr : RAt A rb' d' room' r' v') (hne : rb ≠ rb') : RAt B rb d room r v := by
 refine h.far hg (fun e => hne (by cases e; rfl)) (fun _ e => ?_)
 rcases h.row.2 with ⟨rfl, _⟩ | ⟨q, cap, cur, rfl, _, hq, _⟩
 ·simp [Value.ownBlock] at e
 ·have e : rb' = q := by simpa [Value.ownBlock] using e
  subst e
  rw [hr.blk] at hq
  cases hq
theorem RAt.turn_m {A B : World} {rb mb : Nat} {d room : Int} {r : List (Int × Int)} {v : Value} (h : RAt A rb d room r v) (hg : A.grownBy B (some mb)) (hF : Far A (some mb)) : RAt B rb d room r v := by
 refine ⟨(hg.block rb (Array.getElem?_eq_some_iff.1 h.blk).1 (fun e => ?_)).trans h.blk, Far.row hF hg h.row, h.few⟩
 rcases hF rb e.symm with h1 | ⟨o, ho, hc⟩
 ·have := (Array.getElem?_eq_some_iff.1 h.blk).1; omega
 ·rw [h.blk] at ho; cases ho; cases hc
/-- a pair: a store and the document's, which keep the same -/
structure PI (w : World) (bs : Nat → Nat) (d room : Int) (sb mb rb : Nat) (r : List (Int × Int)) (W : World) : Prop where
 at_ : At W sb d room mb (mapV (ptrOf bs) r)
 ra : ∃ v, RAt W rb d room r v
 hk : ∀ p ∈ r, 0 ≤ p.2 ∧ p.2 < 6
 len : (r.length : Int) ≤ room
 lo1 : w.heap.size ≤ mb
 lo2 : w.heap.size ≤ rb
variable {w W : World} {bs : Nat → Nat} {d room : Int} {sb mb rb sb' mb' rb' g c : Nat} {r r' : List (Int × Int)}
theorem PI.belowW {B : World} (h : PI w bs d room sb mb rb r W) (hb : Below W.heap.size W B) : PI w bs d room sb mb rb r B := by
 obtain ⟨v, hv⟩ := h.ra
 exact ⟨h.at_.below hb, ⟨v, hv.far (below_grown hb none) (by simp) (by simp)⟩, h.hk, h.len, h.lo1, h.lo2⟩
theorem PI.turn_r {A B : World} {v' : Value} {d' room' : Int} (h : PI w bs d room sb mb rb r A) (hg : A.grownBy B (some rb')) (hr : RAt A rb' d' room' r' v') (hne : rb ≠ rb') : PI w bs d room sb mb rb r B := by
 obtain ⟨v, hv⟩ := h.ra
 exact ⟨h.at_.turn_r hg hr, ⟨v, hv.turn_r hg hr hne⟩, h.hk, h.len, h.lo1, h.lo2⟩
theorem PI.turn_m {A B : World} (h : PI w bs d room sb mb rb r A) (hg : A.grownBy B (some mb')) (hF : Far A (some mb')) (hne : mb ≠ mb') : PI w bs d room sb mb rb r B := by
 obtain ⟨v, hv⟩ := h.ra
 exact ⟨hF.at hg h.at_ (fun e => hne (by cases e; rfl)), ⟨v, hv.turn_m hg hF⟩, h.hk, h.len, h.lo1, h.lo2⟩
/-- what the law has in hand: the snapshots, the pair that goes on, and the pair that was copied -/
structure ST (w : World) (g : Nat) (bs : Nat → Nat) (d room : Int) (sb rb sb' rb' : Nat) (W : World) : Prop where
 sn : Snaps W 6 g bs
 below : Below w.heap.size w W
 cur : ∃ mb r, PI w bs d room sb mb rb r W ∧ ((sb' = sb ∧ rb' = rb) ∨ ∃ mb' r', PI w bs d room sb' mb' rb' r' W ∧ mb' ≠ mb ∧ rb' ≠ rb)
theorem ST.belowW {B : World} (h : ST w g bs d room sb rb sb' rb' W) (hb : Below W.heap.size W B) : ST w g bs d room sb rb sb' rb' B := by
 obtain ⟨mb, r, h1, h2⟩ := h.cur
 refine ⟨(Far.none W).snaps (below_grown hb none) h.sn, h.below.trans (hb.mono h.below.size), mb, r, h1.belowW hb, ?_⟩
 rcases h2 with h2 | ⟨mb', r', h2, h3⟩
 ·exact .inl h2
 ·exact .inr ⟨mb', r', h2.belowW hb, h3⟩
/-- the store has done something, the document's has not yet -/
structure MID (w : World) (g : Nat) (bs : Nat → Nat) (d room : Int) (sb rb sb' rb' : Nat) (r r2 : List (Int × Int)) (W : World) : Prop where
 sn : Snaps W 6 g bs
 below : Below w.heap.size w W
 cur : ∃ mb, At W sb d room mb (mapV (ptrOf bs) r2) ∧ (∃ v, RAt W rb d room r v) ∧ w.heap.size ≤ mb ∧ w.heap.size ≤ rb ∧ ((sb' = sb ∧ rb' = rb) ∨ ∃ mb' r', PI w bs d room sb' mb' rb' r' W ∧ mb' ≠ mb ∧ rb' ≠ rb)
theorem MID.belowW {r2 : List (Int × Int)} {B : World} (h : MID w g bs d room sb rb sb' rb' r r2 W) (hb : Below W.heap.size W B) : MID w g bs d room sb rb sb' rb' r r2 B := by
 obtain ⟨mb, h1, ⟨v, h2⟩, h3, h4, h5⟩ := h.cur
 refine ⟨(Far.none W).snaps (below_grown hb none) h.sn, h.below.trans (hb.mono h.below.size), mb, h1.below hb, ⟨v, h2.far (below_grown hb none) (by simp) (by simp)⟩, h3, h4, ?_⟩
 rcases h5 with h5 | ⟨mb', r', h5, h6⟩
 ·exact .inl h5
 ·exact .inr ⟨mb', r', h5.belowW hb, h6⟩
/-- the store turns its map -/
theorem PI.mid {B : World} {r2 : List (Int × Int)} (sn : Snaps W 6 g bs) (below : Below w.heap.size w W) (h1 : PI w bs d room sb mb rb r W) (h2 : (sb' = sb ∧ rb' = rb) ∨ ∃ mb' r', PI w bs d room sb' mb' rb' r' W ∧ mb' ≠ mb ∧ rb' ≠ rb)
  (ha : At B sb d room mb (mapV (ptrOf bs) r2)) (hg : W.grownBy B (some mb)) : MID w g bs d room sb rb sb' rb' r r2 B := by
 have hF := h1.at_.map_row
 obtain ⟨v, hv⟩ := h1.ra
 refine ⟨hF.snaps hg sn, below.grown hg below.size (fun k e => by cases e; exact h1.lo1), mb, ha, ⟨v, hv.turn_m hg hF⟩, h1.lo1, h1.lo2, ?_⟩
 rcases h2 with h2 | ⟨mb', r', h2, h3, h4⟩
 ·exact .inl h2
 ·exact .inr ⟨mb', r', h2.turn_m hg hF h3, h3, h4⟩
/-- the document's store turns its block -/
theorem MID.turn {B : World} {r2 : List (Int × Int)} {v2 v : Value} (h : MID w g bs d room sb rb sb' rb' r r2 W) (h0 : RAt W rb d room r v) (hra : RAt B rb d room r2 v2) (hg : W.grownBy B (some rb)) (hk : ∀ p ∈ r2, 0 ≤ p.2 ∧ p.2 < 6) (hl : (r2.length : Int) ≤ room) : ST w g bs d room sb rb sb' rb' B := by
 obtain ⟨mb, h1, _, h3, h4, h5⟩ := h.cur
 refine ⟨h.sn.turn_r hg h0, h.below.grown hg h.below.size (fun k e => by cases e; exact h4), mb, r2, ⟨h1.turn_r hg h0, ⟨v2, hra⟩, hk, hl, h3, h4⟩, ?_⟩
 rcases h5 with h5 | ⟨mb', r', h5, h6, h7⟩
 ·exact .inl h5
 ·exact .inr ⟨mb', r', h5.turn_r hg h0 h7, h6, h7⟩
/-- blocks that hold steps of the script stay -/
def KX (W W1 : World) : Prop := ∀ (b : Nat) (cs : Array Value), W.heap[b]? = some (Obj.cells cs 56 (0, 0)) → W1.heap[b]? = some (Obj.cells cs 56 (0, 0))
theorem KX.refl (W : World) : KX W W := fun _ _ h => h
theorem KX.trans {A B C : World} (h : KX A B) (k : KX B C) : KX A C := fun b cs e => k b cs (h b cs e)
theorem KX.below {A B : World} (h : Below A.heap.size A B) : KX A B := fun b cs e => (h.block b (Array.getElem?_eq_some_iff.1 e).1).trans e
theorem KX.turn_m {A B : World} {mb : Nat} (hg : A.grownBy B (some mb)) (hF : Far A (some mb)) : KX A B := fun b cs e => by
 refine (hg.block b (Array.getElem?_eq_some_iff.1 e).1 (fun e' => ?_)).trans e
 rcases hF b e'.symm with h1 | ⟨o, ho, hc⟩
 ·have := (Array.getElem?_eq_some_iff.1 e).1; omega
 ·rw [e] at ho; cases ho; cases hc
theorem KX.turn_r {A B : World} {rb : Nat} {d room : Int} {r : List (Int × Int)} {v : Value} (hg : A.grownBy B (some rb)) (hr : RAt A rb d room r v) : KX A B := fun b cs e => by
 refine (hg.block b (Array.getElem?_eq_some_iff.1 e).1 (fun e' => ?_)).trans e
 have : b = rb := by cases e'; rfl
 subst this
 rw [hr.blk] at e
 cases e
/-- what the document's store does next, whenever it is asked -/
def Then (W : World) (f : Nat) (args : Array Value) (K : Ending → World → Prop) : Prop := ∀ W', Below W.heap.size W W' → Calls Tryz.prog f args W' fun e w2 => K e w2 ∧ KX W' w2

theorem below_drewN {B : Nat} {a w : World} (h : Below B a w) (n : Nat) : Below B a (w.drewN n) := ⟨h.os, h.tape, h.output, h.size, h.block⟩
/-- what the law has in hand, whether New refused or not: the snapshots, the pair that goes on (s, r), the pair that was copied (o, q) -/
def TS (w : World) (g : Nat) (bs : Nat → Nat) (s r o q : Value) (W : World) : Prop :=
 Snaps W 6 g bs ∧ Below w.heap.size w W ∧ ((s = .pointer none ∧ r = .pointer none ∧ o = .pointer none ∧ q = .pointer none) ∨
  ∃ d room sb rb sb' rb', 1 ≤ d ∧ 1 ≤ room ∧ room ≤ 100 ∧ s = .pointer (some ⟨sb, 0, none⟩) ∧ r = .pointer (some ⟨rb, 0, none⟩) ∧ o = .pointer (some ⟨sb', 0, none⟩) ∧ q = .pointer (some ⟨rb', 0, none⟩) ∧ ST w g bs d room sb rb sb' rb' W)
variable {s r0 o q : Value}
theorem TS.sn (h : TS w g bs s r0 o q W) : Snaps W 6 g bs := h.1
theorem TS.below (h : TS w g bs s r0 o q W) : Below w.heap.size w W := h.2.1
theorem TS.belowW {B : World} (h : TS w g bs s r0 o q W) (hb : Below W.heap.size W B) : TS w g bs s r0 o q B := by
 refine ⟨(Far.none W).snaps (below_grown hb none) h.1, h.2.1.trans (hb.mono h.2.1.size), h.2.2.imp id ?_⟩
 rintro ⟨d, room, sb, rb, sb', rb', h1, h2, h3, h4, h5, h6, h7, h8⟩
 exact ⟨d, room, sb, rb, sb', rb', h1, h2, h3, h4, h5, h6, h7, h8.belowW hb⟩
theorem ST.ts (h : ST w g bs d room sb rb sb' rb' W) (hd : 1 ≤ d) (hr1 : 1 ≤ room) (hr2 : room ≤ 100) : TS w g bs (.pointer (some ⟨sb, 0, none⟩)) (.pointer (some ⟨rb, 0, none⟩)) (.pointer (some ⟨sb', 0, none⟩)) (.pointer (some ⟨rb', 0, none⟩)) W :=
 ⟨h.sn, h.below, .inr ⟨d, room, sb, rb, sb', rb', hd, hr1, hr2, rfl, rfl, rfl, rfl, h⟩⟩
theorem TS.offer_at (h : TS w g bs s r0 o q W) {i k : Int} (hwf : (Lit.int .i64 i).wf = true) (hk0 : 0 ≤ k) (hk6 : k < 6) :
  Calls Tryz.prog 10 #[s, .int .i64 i, .pointer (some ⟨bs k.toNat, 0, none⟩)] W fun e W1 => (∃ b n, e = .returned (.tuple #[.bool b, .int .i64 n]) ∧
   Then W1 19 #[r0, .int .i64 i, .int .i64 k] fun e W2 => e = .returned (.tuple #[.bool b, .int .i64 n]) ∧ TS w g bs s r0 o q W2) ∧ KX W W1 := by
 rcases h.2.2 with ⟨rfl, rfl, rfl, rfl⟩ | ⟨d, room, sb, rb, sb', rb', hd, hr1, hr2, rfl, rfl, rfl, rfl, hS⟩
 ·refine (offer_nilstore _ W).mono ?_
  rintro e W1 ⟨rfl, n, rfl⟩
  have b1 := below_drewN (Below.refl W.heap.size W) n
  refine ⟨⟨_, _, rfl, fun W' hb => ?_⟩, KX.below b1⟩
  refine (roffer_nil W').mono ?_
  rintro e W2 ⟨rfl, m, rfl⟩
  have b2 := below_drewN (Below.refl W'.heap.size W') m
  exact ⟨⟨rfl, (h.belowW (b1.trans hb)).belowW b2⟩, KX.below b2⟩
 obtain ⟨mb, r, h1, h2⟩ := hS.cur
 obtain ⟨_, a, ha⟩ := hS.sn k.toNat (by omega)
 by_cases hi : i < 0
 ·refine (offer_neg h1.at_ ha hi).mono ?_
  rintro e W1 ⟨rfl, n, rfl⟩
  have b1 := below_drewN (Below.refl W.heap.size W) n
  refine ⟨⟨_, _, rfl, fun W' hb => ?_⟩, KX.below b1⟩
  have h' := hS.belowW (b1.trans hb)
  have h1' := h1.belowW (b1.trans hb)
  obtain ⟨v, hv⟩ := h1'.ra
  refine (roffer_neg hv hd hk0 hi).mono ?_
  rintro e W2 ⟨rfl, m, rfl⟩
  have b2 := below_drewN (Below.refl W'.heap.size W') m
  exact ⟨⟨rfl, (h'.belowW b2).ts hd hr1 hr2⟩, KX.below b2⟩
 ·have hi : 0 ≤ i := by omega
  have hf : (mapV (ptrOf bs) r).length < 4096 := by rw [length_mapV]; have := h1.len; omega
  refine (offer_ok h1.at_ ha hi hwf hd hr1 hf).mono ?_
  rw [show (Value.pointer (some ⟨bs k.toNat, 0, none⟩)) = ptrOf bs k from rfl, offer_mapV]
  rintro e W1 ⟨rfl, hat, hg⟩
  refine ⟨⟨_, _, rfl, fun W' hb => ?_⟩, KX.turn_m hg h1.at_.map_row⟩
  have hm := (PI.mid hS.sn hS.below h1 h2 hat hg).belowW hb
  obtain ⟨_, _, ⟨v, hv⟩, _⟩ := hm.cur
  refine (roffer_ok hv hd hi hk0 (by have := h1.len; omega) h1.len hr1).mono ?_
  rintro e W2 ⟨rfl, v2, hra, hg2⟩
  refine ⟨⟨rfl, (hm.turn hv hra hg2 (fun p hp => ?_) (length_offer h1.len)).ts hd hr1 hr2⟩, KX.turn_r hg2 hv⟩
  rcases mem_offer hp with hp | ⟨rfl, _⟩
  ·exact h1.hk p hp
  ·exact ⟨hk0, hk6⟩
theorem TS.offer_no (h : TS w g bs s r0 o q W) {i k : Int} (hk0 : k < 0) :
  Calls Tryz.prog 10 #[s, .int .i64 i, .pointer none] W fun e W1 => (e = .returned (.tuple #[.bool false, .int .i64 1]) ∧
   Then W1 19 #[r0, .int .i64 i, .int .i64 k] fun e W2 => e = .returned (.tuple #[.bool false, .int .i64 1]) ∧ TS w g bs s r0 o q W2) ∧ KX W W1 := by
 rcases h.2.2 with ⟨rfl, rfl, rfl, rfl⟩ | ⟨d, room, sb, rb, sb', rb', hd, hr1, hr2, rfl, rfl, rfl, rfl, hS⟩
 ·refine (offer_nilstore _ W).mono ?_
  rintro e W1 ⟨rfl, n, rfl⟩
  have b1 := below_drewN (Below.refl W.heap.size W) n
  refine ⟨⟨rfl, fun W' hb => ?_⟩, KX.below b1⟩
  refine (roffer_nil W').mono ?_
  rintro e W2 ⟨rfl, m, rfl⟩
  have b2 := below_drewN (Below.refl W'.heap.size W') m
  exact ⟨⟨rfl, (h.belowW (b1.trans hb)).belowW b2⟩, KX.below b2⟩
 obtain ⟨mb, r, h1, h2⟩ := hS.cur
 refine (offer_nilsnap h1.at_).mono ?_
 rintro e W1 ⟨rfl, n, rfl⟩
 have b1 := below_drewN (Below.refl W.heap.size W) n
 refine ⟨⟨rfl, fun W' hb => ?_⟩, KX.below b1⟩
 obtain ⟨v, hv⟩ := (h1.belowW (b1.trans hb)).ra
 refine (roffer_bad hv hd hk0).mono ?_
 rintro e W2 ⟨rfl, m, rfl⟩
 have b2 := below_drewN (Below.refl W'.heap.size W') m
 exact ⟨⟨rfl, (h.belowW (b1.trans hb)).belowW b2⟩, KX.below b2⟩
def BestP (w : World) (g : Nat) (bs : Nat → Nat) (s r o q : Value) (n : Int) (W1 : World) (e : Ending) : Prop :=
 (∃ a k, 0 ≤ k ∧ k < 6 ∧ e = .returned (.tuple #[.int .i64 a, .pointer (some ⟨bs k.toNat, 0, none⟩), .bool true]) ∧ Then W1 20 #[r, .int .i64 n] fun e W2 => e = .returned (.tuple #[.int .i64 a, .int .i64 k, .bool true]) ∧ TS w g bs s r o q W2) ∨
 (e = .returned (.tuple #[.int .i64 0, .pointer none, .bool false]) ∧ Then W1 20 #[r, .int .i64 n] fun e W2 => e = .returned (.tuple #[.int .i64 0, .int .i64 (-1), .bool false]) ∧ TS w g bs s r o q W2)
theorem TS.best (h : TS w g bs s r0 o q W) (n : Int) : Calls Tryz.prog 12 #[s, .int .i64 n] W fun e W1 => BestP w g bs s r0 o q n W1 e ∧ KX W W1 := by
 rcases h.2.2 with ⟨rfl, rfl, rfl, rfl⟩ | ⟨d, room, sb, rb, sb', rb', hd, hr1, hr2, rfl, rfl, rfl, rfl, hS⟩
 ·refine (Nl.best_nilstore W).mono ?_
  rintro e W1 ⟨rfl, b1⟩
  refine ⟨.inr ⟨rfl, fun W' hb => ?_⟩, KX.below b1⟩
  refine (rbest_nil W').mono ?_
  rintro e W2 ⟨rfl, rfl⟩
  exact ⟨⟨rfl, h.belowW (b1.trans (hb.mono b1.size))⟩, KX.refl _⟩
 obtain ⟨mb, r, h1, h2⟩ := hS.cur
 have hi := inc_of_mapV h1.at_.inc
 have key : ∀ W1, Below W.heap.size W W1 → Then W1 20 #[.pointer (some ⟨rb, 0, none⟩), .int .i64 n] fun e W2 => e = .returned (rbestV (St.best n r)) ∧ TS w g bs (.pointer (some ⟨sb, 0, none⟩)) (.pointer (some ⟨rb, 0, none⟩)) (.pointer (some ⟨sb', 0, none⟩)) (.pointer (some ⟨rb', 0, none⟩)) W2 := fun W1 hb W' hb' => by
  have h' := h.belowW (hb.trans (hb'.mono hb.size))
  obtain ⟨v, hv⟩ := (h1.belowW (hb.trans (hb'.mono hb.size))).ra
  refine (rbest_ok hv hi hd n).mono ?_
  rintro e W2 ⟨rfl, m, rfl⟩
  have b2 := below_drewN (Below.refl W'.heap.size W') m
  exact ⟨⟨rfl, h'.belowW b2⟩, KX.below b2⟩
 refine (best_ok h1.at_).mono ?_
 rw [best_mapV]
 rintro e W1 ⟨rfl, hb⟩
 have k1 := key W1 hb
 refine ⟨?_, KX.below hb⟩
 cases hbr : St.best n r with
 | none =>
  rw [hbr] at k1
  exact .inr ⟨rfl, k1⟩
 | some p =>
  rw [hbr] at k1
  obtain ⟨k0, k6⟩ := h1.hk p (best_some hbr).1
  exact .inl ⟨p.1, p.2, k0, k6, rfl, k1⟩
theorem TS.cut (h : TS w g bs s r0 o q W) (n : Int) :
  Calls Tryz.prog 14 #[s, .int .i64 n] W fun e W1 => (∃ c, e = .returned (.int .i64 c) ∧
   Then W1 21 #[r0, .int .i64 n] fun e W2 => e = .returned (.int .i64 c) ∧ TS w g bs s r0 o q W2) ∧ KX W W1 := by
 rcases h.2.2 with ⟨rfl, rfl, rfl, rfl⟩ | ⟨d, room, sb, rb, sb', rb', hd, hr1, hr2, rfl, rfl, rfl, rfl, hS⟩
 ·refine (cut_nil W).mono ?_
  rintro e W1 ⟨rfl, b1⟩
  refine ⟨⟨_, rfl, fun W' hb => ?_⟩, KX.below b1⟩
  refine (rcut_nil W').mono ?_
  rintro e W2 ⟨rfl, rfl⟩
  exact ⟨⟨rfl, h.belowW (b1.trans (hb.mono b1.size))⟩, KX.refl _⟩
 obtain ⟨mb, r, h1, h2⟩ := hS.cur
 refine (cut_ok' h1.at_).mono ?_
 rw [cut_mapV]
 rintro e W1 ⟨rfl, hat, hg⟩
 refine ⟨⟨_, rfl, fun W' hb => ?_⟩, KX.turn_m hg h1.at_.map_row⟩
 have hm := (PI.mid hS.sn hS.below h1 h2 hat hg).belowW hb
 obtain ⟨_, _, ⟨v, hv⟩, _⟩ := hm.cur
 refine (rcut_ok hv hd n).mono ?_
 rintro e W2 ⟨rfl, v2, hra, hg2⟩
 refine ⟨⟨rfl, (hm.turn hv hra hg2 (fun p hp => h1.hk p (mem_cut.1 hp).1) ?_).ts hd hr1 hr2⟩, KX.turn_r hg2 hv⟩
 have := List.length_filter_le (fun p : Int × Int => decide (p.1 ≤ n)) r
 have := h1.len
 unfold St.cut
 omega
theorem TS.copy (h : TS w g bs s r0 o q W) :
  Calls Tryz.prog 16 #[s] W fun e W1 => (∃ s1, e = .returned s1 ∧ Then W1 22 #[r0] fun e W2 => ∃ r1, e = .returned r1 ∧ TS w g bs s1 r1 s r0 W2) ∧ KX W W1 := by
 rcases h.2.2 with ⟨rfl, rfl, rfl, rfl⟩ | ⟨d, room, sb, rb, sb', rb', hd, hr1, hr2, rfl, rfl, rfl, rfl, hS⟩
 ·refine (copy_nil W).mono ?_
  rintro e W1 ⟨rfl, rfl⟩
  refine ⟨⟨_, rfl, fun W' hb => ?_⟩, KX.refl _⟩
  refine (rcopy_nil W').mono ?_
  rintro e W2 ⟨rfl, rfl⟩
  exact ⟨⟨_, rfl, h.belowW hb⟩, KX.refl _⟩
 obtain ⟨mb, r, h1, h2⟩ := hS.cur
 refine (copy_ok h1.at_).mono ?_
 rintro e W1 ⟨rfl, hat, hb1⟩
 refine ⟨⟨_, rfl, fun W' hb => ?_⟩, KX.below hb1⟩
 have h' := hS.belowW (hb1.trans (hb.mono hb1.size))
 have h1' := h1.belowW (hb1.trans (hb.mono hb1.size))
 obtain ⟨v, hv⟩ := h1'.ra
 refine (rcopy_ok hv hd).mono ?_
 rintro e W2 ⟨rb1, v1, rfl, hlo, hra, _, hb2⟩
 have hm : mb < W.heap.size := h1.at_.own.lt
 have hr := (Array.getElem?_eq_some_iff.1 hv.blk).1
 have hw := h'.below.size
 refine ⟨⟨_, rfl, ST.ts (d := d) (room := room) ⟨(Far.none W').snaps (below_grown hb2 none) h'.sn, h'.below.trans (hb2.mono hw), W.heap.size, r, ⟨(hat.below hb).below hb2, ⟨v1, hra⟩, h1.hk, h1.len, hS.below.size, by omega⟩, .inr ⟨mb, r, h1'.belowW hb2, by omega, by omega⟩⟩ hd hr1 hr2⟩, KX.below hb2⟩
theorem TS.items (h : TS w g bs s r0 o q W) : Calls Tryz.prog 23 #[s, r0, .slice (some ⟨g, 0, none⟩) 6 c] W fun e W1 => e = .returned (.bool true) ∧ TS w g bs s r0 o q W1 := by
 have hfin : ∀ e W1, LawE W e W1 → e = .returned (.bool true) ∧ TS w g bs s r0 o q W1 := by
  rintro e W1 ⟨rfl, hb⟩
  exact ⟨rfl, h.belowW hb⟩
 rcases h.2.2 with ⟨rfl, rfl, rfl, rfl⟩ | ⟨d, room, sb, rb, sb', rb', hd, hr1, hr2, rfl, rfl, rfl, rfl, hS⟩
 ·exact (callsIn_wide.1 items_nil).mono hfin
 ·obtain ⟨mb, r, h1, h2⟩ := hS.cur
  obtain ⟨v, hv⟩ := h1.ra
  exact (callsIn_wide.1 (items_ok h1.at_ hv hd hS.sn rfl h1.hk)).mono hfin
theorem TS.itemsOld (h : TS w g bs s r0 o q W) : Calls Tryz.prog 23 #[o, q, .slice (some ⟨g, 0, none⟩) 6 c] W fun e W1 => e = .returned (.bool true) ∧ Below w.heap.size w W1 := by
 have hfin : ∀ e W1, LawE W e W1 → e = .returned (.bool true) ∧ Below w.heap.size w W1 := by
  rintro e W1 ⟨rfl, hb⟩
  exact ⟨rfl, h.below.trans (hb.mono h.below.size)⟩
 rcases h.2.2 with ⟨rfl, rfl, rfl, rfl⟩ | ⟨d, room, sb, rb, sb', rb', hd, hr1, hr2, rfl, rfl, rfl, rfl, hS⟩
 ·exact (callsIn_wide.1 items_nil).mono hfin
 ·obtain ⟨mb, r, h1, h2⟩ := hS.cur
  rcases h2 with ⟨rfl, rfl⟩ | ⟨mb', r', h2, _⟩
  ·obtain ⟨v, hv⟩ := h1.ra
   exact (callsIn_wide.1 (items_ok h1.at_ hv hd hS.sn rfl h1.hk)).mono hfin
  ·obtain ⟨v, hv⟩ := h2.ra
   exact (callsIn_wide.1 (items_ok h2.at_ hv hd hS.sn rfl h2.hk)).mono hfin
end Go.St
/- StorePlays: the law's walk. -/
namespace Go.St
open Go Go.Proofs Go.RowKit Go.Maps Go.Shelf Go.Ev
/-- a step of the script: what to do, an index, a snapshot -/
structure Stp where
 d : Int
 n : Int
 s : Int
def Stps (w : World) (v : Value) (us : List Stp) : Prop := (v = .slice none 0 0 ∧ us = []) ∨ ∃ a c, v = .slice (some a) us.length c ∧ ∀ (j : Nat) (u : Stp), us[j]? = some u →
 (w.cell? (a.add (j * 3)) = some (.int .i64 u.d) ∧ w.cell? (a.add (j * 3 + 1)) = some (.int .i64 u.n) ∧ w.cell? (a.add (j * 3 + 2)) = some (.int .i8 u.s)) ∧ (Lit.int .i64 u.n).wf = true ∧ -128 ≤ u.s ∧ u.s < 128
theorem Stps.len {w : World} {v : Value} {us : List Stp} (h : Stps w v us) (W : World) : (Builtin.len_ #[50] 3 #[v]).run Tryz.prog W = .ok (.int .i64 (us.length : Int)) W := by
 rcases h with ⟨rfl, rfl⟩ | ⟨a, c, rfl, _⟩
 ·simp [Builtin.len_, run_underlying Tryz.underlying50, go_sem]
 ·simp [Builtin.len_, run_underlying Tryz.underlying50, go_sem]
set_option maxRecDepth 100000 in
set_option maxHeartbeats 4000000 in
theorem plays_long {w : World} (hw : ∀ W, Below w.heap.size w W → Calls Tryz.prog 13 #[] W (WorksE W)) {iv cp : Int} {v : Value} {us : List Stp} (hu : Stps w v us) (h60 : 60 < us.length) :
  Calls Tryz.prog 7 #[.int .i64 iv, .int .i64 cp, v] w (LawE w) := by
 have hlv := hu.len
 have hwk := hw w (Below.refl _ _)
 go_enter Tryz.func7, Tryz.ntmps7
 go_wp2_with (go_at_call 13; refine hwk.mono ?_; rintro e w' ⟨rfl, hb⟩)
 go_ret
 exact ⟨rfl, hb⟩
/-- is it nil? of a store, and of the document's -/
def NilS (s : Value) (b : Bool) : Prop := (∀ o1 o2 W, (eqGuard .eql 23 o1 o2 s (.pointer none)).run Tryz.prog W = .ok () W) ∧ ∀ W, (binOp .eql 23 s (.pointer none)).run Tryz.prog W = .ok (.bool b) W
def NilR (r : Value) (b : Bool) : Prop := (∀ o1 o2 W, (eqGuard .eql 51 o1 o2 r (.pointer none)).run Tryz.prog W = .ok () W) ∧ ∀ W, (binOp .eql 51 r (.pointer none)).run Tryz.prog W = .ok (.bool b) W
def NewR (w : World) (n : Int) (b : Bool) (s : Value) (e : Ending) (W2 : World) : Prop := ∃ r, e = .returned (.tuple #[r, .int .i64 n]) ∧ NilR r b ∧ Below w.heap.size w W2 ∧ ∀ W3 g bs, Below W2.heap.size W2 W3 → Snaps W3 6 g bs → TS w g bs s r s r W3
def NewP (w : World) (iv cp : Int) (e : Ending) (W1 : World) : Prop := ∃ s n b, e = .returned (.tuple #[s, .int .i64 n]) ∧ NilS s b ∧ ∀ W', Below W1.heap.size W1 W' → Calls Tryz.prog 18 #[.int .i64 iv, .int .i64 cp] W' (NewR w n b s)
theorem nilS_nil : NilS (.pointer none) true := ⟨fun _ _ W => by simp [eqGuard, go_sem], fun W => by simp [go_sem]⟩
theorem nilS_ptr (a : Addr) : NilS (.pointer (some a)) false := ⟨fun _ _ W => by simp [eqGuard, go_sem], fun W => by simp [go_sem]⟩
theorem nilR_nil : NilR (.pointer none) true := ⟨fun _ _ W => by simp [eqGuard, go_sem], fun W => by simp [go_sem]⟩
theorem nilR_ptr (a : Addr) : NilR (.pointer (some a)) false := ⟨fun _ _ W => by simp [eqGuard, go_sem], fun W => by simp [go_sem]⟩
theorem new_pair (w : World) (iv cp : Int) : Calls Tryz.prog 8 #[.int .i64 iv, .int .i64 cp] w (NewP w iv cp) := by
 by_cases hno : iv < 1 ∨ 10000 < iv ∨ cp < 1 ∨ 100 < cp
 ·refine (new_no hno w).mono ?_
  rintro e W1 ⟨rfl, rfl⟩
  refine ⟨_, _, _, rfl, nilS_nil, fun W' hb => (rnew_no hno W').mono ?_⟩
  rintro e W2 ⟨rfl, rfl⟩
  exact ⟨_, rfl, nilR_nil, hb, fun W3 g bs hb3 hs => ⟨hs, hb.trans (hb3.mono hb.size), .inl ⟨rfl, rfl, rfl, rfl⟩⟩⟩
 ·have h1 : 1 ≤ iv := by omega
  have h2 : iv ≤ 10000 := by omega
  have h3 : 1 ≤ cp := by omega
  have h4 : cp ≤ 100 := by omega
  clear hno
  have hA0 := at_new (d := iv) (room := cp) w
  have hB0 : Below w.heap.size w ((w.alloc (.map #[] 0)).alloc (.cells #[.int .i64 iv, .int .i64 cp, .map (some w.heap.size)] 65)) := ((Below.refl _ w).alloc (Nat.le_refl _) _).alloc (by simp) _
  refine (new_ok h1 h2 h3 h4 w).mono ?_
  rintro e W1 ⟨rfl, rfl⟩
  refine ⟨_, _, _, rfl, nilS_ptr _, fun W' hb => (rnew_ok h1 h2 h3 h4 W').mono ?_⟩
  rintro e W2 ⟨rfl, rfl⟩
  have hBW := hB0.trans (hb.mono hB0.size)
  have hB2 := hBW.alloc hBW.size (.cells #[.int .i64 iv, .int .i64 cp, .slice none 0 0] 96)
  refine ⟨_, rfl, nilR_ptr _, hB2, fun W3 g bs hb3 hs => ?_⟩
  have hra : RAt (W'.alloc (.cells #[.int .i64 iv, .int .i64 cp, .slice none 0 0] 96)) W'.heap.size iv cp [] (.slice none 0 0) := ⟨World.alloc_heap_new W' _, World.ownsRow_nil _ _ _ _, by simp⟩
  have hat := ((hA0.below hb).below ((Below.refl _ W').alloc (Nat.le_refl _) (.cells #[.int .i64 iv, .int .i64 cp, .slice none 0 0] 96))).below hb3
  refine ST.ts (d := iv) (room := cp) ⟨hs, hB2.trans (hb3.mono hB2.size), w.heap.size, [], ⟨hat, ⟨_, hra.far (below_grown hb3 none) (by simp) (by simp)⟩, by simp, by simp; omega, Nat.le_refl _, hBW.size⟩, .inl ⟨rfl, rfl⟩⟩ h1 h3 h4
end Go.St
