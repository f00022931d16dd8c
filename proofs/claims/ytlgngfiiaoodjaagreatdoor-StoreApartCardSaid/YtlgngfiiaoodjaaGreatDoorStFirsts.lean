/- What the statements of stores have in common: snapshots, stores with the index 0. -/
import Derived.Test.YtlgngfiiaoodjaaGreatDoorStIdxs
import Derived.Test.YtlgngfiiaoodjaaGreatDoorStBest
import Derived.LaidEqlPtr
import Derived.Test.YtlgngfiiaoodjaaGreatDoorStMaps
import Derived.ChangeSlices
import Derived.WideShapes
import Derived.ChangeShapes
set_option linter.unusedVariables false
set_option linter.unusedSimpArgs false
/- What the statements of stores have in common: snapshots, stores with the index 0. -/
namespace Go.St
open Go Go.Proofs Go.RowKit Go.Maps Go.Shelf Go.Ev
theorem info_snap : (Tryz.prog.info? 158).isSome = true := by kernel_rfl
/-- a pointer is equal to itself -/
theorem ptr_same (a : Addr) (w : World) : (binOp .eql 31 (.pointer (some a)) (.pointer (some a))).run Tryz.prog w = .ok (.bool true) w := by
  obtain ⟨j, hj⟩ := Option.isSome_iff_exists.1 info_snap
  exact run_eql_ptr_same w a Tryz.underlying31 hj
theorem ptr_nsame (a : Addr) (w : World) : (binOp .neq 31 (.pointer (some a)) (.pointer (some a))).run Tryz.prog w = .ok (.bool false) w := by
  obtain ⟨j, hj⟩ := Option.isSome_iff_exists.1 info_snap
  have h : ∀ d : Nat, (Op.equalIn (d + 1) 31 (.pointer (some a)) (.pointer (some a))).run Tryz.prog w = .ok true w := fun d => by
    simp [Op.equalIn, run_underlying Tryz.underlying31, sizeOf, typeInfo, hj, run_sameAddr_same]
  simp only [binOp]
  simp [Op.equal, Op.maxDepth, h 9999]
/-- a slice of n snapshots -/
def Snaps (W : World) (n : Nat) (g : Nat) (bs : Nat → Nat) : Prop := ∀ j, j < n → W.cell? ⟨g, j, none⟩ = some (.pointer (some ⟨bs j, 0, none⟩)) ∧ ∃ a, W.cell? ⟨bs j, 0, none⟩ = some (.pointer (some a))
def SnapsE (W : World) (n : Nat) (e : Ending) (w' : World) : Prop := ∃ g c bs, e = .returned (.slice (some ⟨g, 0, none⟩) n c) ∧ Snaps w' n g bs ∧ Below W.heap.size W w'
theorem Snaps.kept {W W' : World} {n g : Nat} {bs : Nat → Nat} {row : Option Nat} (h : Snaps W n g bs) (hg : W.grownBy W' row) (hr : ∀ r, row = some r → ∃ o : Obj, W.heap[r]? = some o ∧ o.isCells = false) : Snaps W' n g bs := fun j hj => by
  obtain ⟨h1, a, h2⟩ := h j hj
  exact ⟨cell_kept h1 hg hr, a, cell_kept h2 hg hr⟩
theorem At.row {W : World} {sb : Nat} {d room : Int} {mb : Nat} {l : List (Int × Value)} (h : At W sb d room mb l) : ∀ r, some mb = some r → ∃ o : Obj, W.heap[r]? = some o ∧ o.isCells = false := fun r e => by
  obtain ⟨es, clock, hb, _⟩ := h.own
  cases e
  exact ⟨_, hb, rfl⟩
theorem offer_stays {d room i : Int} {x x0 : Value} {l : List (Int × Value)} (h : Inc l) (hp : ∀ p ∈ l, 0 ≤ p.1) (h0 : (0, x0) ∈ l) : (0, x0) ∈ (offer d room i x l).2 := by
  unfold offer
  split
  · exact h0
  · split
    · exact h0
    · split
      · exact mem_ins.2 (.inr h0)
      · split
        · exact h0
        · next t ht =>
          obtain ⟨k, hk, _, _, rfl⟩ := less_gone h hp ht
          refine mem_ins.2 (.inr (List.mem_filter.2 ⟨h0, ?_⟩))
          simp
          omega
/-- a store in which the index 0 lies, and the snapshots that are offered -/
structure FI (w : World) (sb mb g : Nat) (bs : Nat → Nat) (d room : Int) (l : List (Int × Value)) (W : World) : Prop where
  at_ : At W sb d room mb l
  zero : (0, Value.pointer (some ⟨bs 0, 0, none⟩)) ∈ l
  mul : ∀ p ∈ l, p.1 % d = 0
  len : (l.length : Int) ≤ room
  sn : Snaps W 2 g bs
  below : Below w.heap.size w W
  lo : w.heap.size ≤ mb
variable {w W : World} {sb mb g : Nat} {bs : Nat → Nat} {d room : Int} {l : List (Int × Value)}
theorem FI.belowW {W' : World} (h : FI w sb mb g bs d room l W) (hb : Below W.heap.size W W') : FI w sb mb g bs d room l W' :=
  ⟨h.at_.below hb, h.zero, h.mul, h.len, h.sn.kept (below_grown hb none) (fun r e => by cases e), h.below.trans (hb.mono h.below.size), h.lo⟩
theorem FI.turned {W' : World} {l' : List (Int × Value)} (h : FI w sb mb g bs d room l W) (hg : W.grownBy W' (some mb)) (ha : At W' sb d room mb l') (hz : (0, Value.pointer (some ⟨bs 0, 0, none⟩)) ∈ l') (hm : ∀ p ∈ l', p.1 % d = 0) (hl : (l'.length : Int) ≤ room) : FI w sb mb g bs d room l' W' :=
  ⟨ha, hz, hm, hl, h.sn.kept hg h.at_.row, h.below.grown hg h.below.size (fun k e => by cases e; exact h.lo), h.lo⟩
def P0 (sb : Nat) : Value := .pointer (some ⟨sb, 0, none⟩)
/-- Best(0) -/
theorem FI.best0 (h : FI w sb mb g bs d room l W) : Calls Tryz.prog 12 #[.pointer (some ⟨sb, 0, none⟩), .int .i64 0] W fun e w' => e = .returned (.tuple #[.int .i64 0, .pointer (some ⟨bs 0, 0, none⟩), .bool true]) ∧ FI w sb mb g bs d room l w' := by
  have hb : best 0 l = some (0, .pointer (some ⟨bs 0, 0, none⟩)) := best_is h.at_.inc h.zero (by simp) (fun q hq h1 => by simpa using h1)
  refine (best_ok h.at_).mono ?_
  rw [hb]
  rintro e w' ⟨rfl, hbl⟩
  exact ⟨rfl, h.belowW hbl⟩
/-- Best of a great index, where all are at most k -/
theorem FI.bestBig (h : FI w sb mb g bs d room l W) {n k : Int} (hn : 0 ≤ n) (hk : ∀ p ∈ l, p.1 ≤ k) : Calls Tryz.prog 12 #[.pointer (some ⟨sb, 0, none⟩), .int .i64 n] W fun e w' => ∃ a p, a ≤ k ∧ e = .returned (.tuple #[.int .i64 a, p, .bool true]) ∧ FI w sb mb g bs d room l w' := by
  obtain ⟨p, hp⟩ : ∃ p, best n l = some p := by
    cases hb : best n l with
    | some p => exact ⟨p, rfl⟩
    | none =>
      have h1 := best_none.1 hb _ h.zero
      simp only at h1
      omega
  refine (best_ok h.at_).mono ?_
  rw [hp]
  rintro e w' ⟨rfl, hbl⟩
  exact ⟨p.1, p.2, hk _ (best_some hp).1, rfl, h.belowW hbl⟩
theorem FI.cut (h : FI w sb mb g bs d room l W) {k : Int} (hk : 0 ≤ k) : Calls Tryz.prog 14 #[.pointer (some ⟨sb, 0, none⟩), .int .i64 k] W fun e w' => e = .returned (.int .i64 0) ∧ FI w sb mb g bs d room (cut k l) w' := by
  refine (cut_ok' h.at_).mono ?_
  rintro e w' ⟨rfl, ha, hg⟩
  refine ⟨rfl, h.turned hg ha (mem_cut.2 ⟨h.zero, hk⟩) (fun p hp => h.mul p (mem_cut.1 hp).1) ?_⟩
  have := List.length_filter_le (fun p : Int × Value => decide (p.1 ≤ k)) l
  have := h.len
  unfold St.cut
  omega
theorem FI.offer (h : FI w sb mb g bs d room l W) {i : Int} (hi : 0 ≤ i) (hwf : (Lit.int .i64 i).wf = true) (hd : 1 ≤ d) (hr : 1 ≤ room) (hr2 : room ≤ 100) : Calls Tryz.prog 10 #[.pointer (some ⟨sb, 0, none⟩), .int .i64 i, .pointer (some ⟨bs 1, 0, none⟩)] W fun e w' => ∃ b l', e = .returned (.tuple #[.bool b, .int .i64 0]) ∧ FI w sb mb g bs d room l' w' := by
  obtain ⟨_, a, ha⟩ := h.sn 1 (by omega)
  refine (offer_ok h.at_ ha hi hwf hd hr (by have := h.len; omega)).mono ?_
  rintro e w' ⟨rfl, hat, hg⟩
  refine ⟨_, _, rfl, h.turned hg hat (offer_stays h.at_.inc (fun p hp => (h.at_.wf p hp).1) h.zero) (fun p hp => ?_) (length_offer h.len)⟩
  rcases mem_offer hp with hp | ⟨rfl, hm⟩
  · exact h.mul p hp
  · simpa [tmod_emod hi] using hm
theorem FI.idx (h : FI w sb mb g bs d room l W) (hd : 1 ≤ d) : Calls Tryz.prog 11 #[.pointer (some ⟨sb, 0, none⟩), .int .i64 d, .int .i64 room] W fun e w' => ∃ v, e = .returned (.tuple #[v, .bool true]) ∧ FI w sb mb g bs d room l w' := by
  refine (callsIn_wide.1 (idx_in h.at_ hd h.mul h.len)).mono ?_
  rintro e w' ⟨v, rfl, _, hb⟩
  exact ⟨v, rfl, h.belowW hb⟩
theorem wf_small {n : Int} (h0 : 0 ≤ n) (h1 : n < 1000000000000000000) : (Lit.int .i64 n).wf = true := by
  have e1 : IntKind.i64.min = -9223372036854775808 := by decide
  have e2 : IntKind.i64.max = 9223372036854775807 := by decide
  simp [Lit.wf, e1, e2]
  omega
/-- all is cut off -/
theorem FI.cutAll (h : FI w sb mb g bs d room l W) : Calls Tryz.prog 14 #[.pointer (some ⟨sb, 0, none⟩), .int .i64 (-1)] W fun e w' => e = .returned (.int .i64 0) ∧ At w' sb d room mb [] ∧ Below w.heap.size w w' := by
  have hc : St.cut (-1) l = [] := List.filter_eq_nil_iff.2 fun p hp => by
    have := (h.at_.wf p hp).1
    simp
    omega
  refine (cut_ok' h.at_).mono ?_
  rw [hc]
  rintro e w' ⟨rfl, ha, hg⟩
  exact ⟨rfl, ha, h.below.grown hg h.below.size (fun k e => by cases e; exact h.lo)⟩
theorem best_empty (h : At W sb d room mb []) (hb : Below w.heap.size w W) (n : Int) : Calls Tryz.prog 12 #[.pointer (some ⟨sb, 0, none⟩), .int .i64 n] W fun e w' => e = .returned (.tuple #[.int .i64 0, .pointer none, .bool false]) ∧ At w' sb d room mb [] ∧ Below w.heap.size w w' := by
  refine (best_ok h).mono ?_
  rintro e w' ⟨rfl, hbl⟩
  exact ⟨rfl, h.below hbl, hb.trans (hbl.mono hb.size)⟩
theorem len_empty (h : At W sb d room mb []) (hb : Below w.heap.size w W) : Calls Tryz.prog 15 #[.pointer (some ⟨sb, 0, none⟩)] W fun e w' => e = .returned (.int .i64 0) ∧ Below w.heap.size w w' := by
  refine (len_ok h).mono ?_
  rintro e w' ⟨rfl, hbl⟩
  exact ⟨rfl, hb.trans (hbl.mono hb.size)⟩
end Go.St
/- StoreFirst: the index 0 stays. -/
namespace Go.St
open Go Go.Proofs Go.RowKit Go.Maps Go.Shelf Go.Ev
def WorksE (W : World) (e : Ending) (w' : World) : Prop := e = .returned (.bool true) ∧ Below W.heap.size W w'
def LawE (w : World) (e : Ending) (w' : World) : Prop := e = .returned (.bool true) ∧ Below w.heap.size w w'
/-- a slice of uint16, as an argument -/
def U16s (w : World) (v : Value) (us : List Int) : Prop := (v = .slice none 0 0 ∧ us = []) ∨ ∃ a c, v = .slice (some a) us.length c ∧ ∀ j u, us[j]? = some u → w.cell? (a.add j) = some (.int .u16 u) ∧ 0 ≤ u ∧ u < 65536
theorem U16s.len {w : World} {v : Value} {us : List Int} (h : U16s w v us) (W : World) : (Builtin.len_ #[39] 3 #[v]).run Tryz.prog W = .ok (.int .i64 (us.length : Int)) W := by
  rcases h with ⟨rfl, rfl⟩ | ⟨a, c, rfl, _⟩
  · simp [Builtin.len_, run_underlying Tryz.underlying39, go_sem]
  · simp [Builtin.len_, run_underlying Tryz.underlying39, go_sem]
theorem offer_first {w W : World} {sb mb g : Nat} {bs : Nat → Nat} {d room : Int} (h : At W sb d room mb []) (hs : Snaps W 2 g bs) (hb : Below w.heap.size w W) (hlo : w.heap.size ≤ mb) (hd : 1 ≤ d) (hr : 1 ≤ room) :
    Calls Tryz.prog 10 #[.pointer (some ⟨sb, 0, none⟩), .int .i64 0, .pointer (some ⟨bs 0, 0, none⟩)] W fun e w' => e = .returned (.tuple #[.bool true, .int .i64 0]) ∧ FI w sb mb g bs d room [(0, .pointer (some ⟨bs 0, 0, none⟩))] w' := by
  obtain ⟨_, a, ha⟩ := hs 0 (by omega)
  have he : offer d room 0 (.pointer (some ⟨bs 0, 0, none⟩)) ([] : List (Int × Value)) = (true, [(0, .pointer (some ⟨bs 0, 0, none⟩))]) := by
    unfold offer
    rw [if_neg (by simp), if_neg (by simp [has]), if_pos (by simp; omega)]
    rfl
  refine (offer_ok h ha (Int.le_refl _) (by decide) hd hr (by simp)).mono ?_
  rw [he]
  rintro e w' ⟨rfl, hat, hg⟩
  exact ⟨rfl, hat, by simp, by simp, by simpa using hr, hs.kept hg h.row, hb.grown hg hb.size (fun k e => by cases e; exact hlo), hlo⟩
set_option maxRecDepth 100000 in
set_option maxHeartbeats 4000000 in
theorem first_ok {w : World} (hw : ∀ W, Below w.heap.size w W → Calls Tryz.prog 13 #[] W (WorksE W)) (hsn : ∀ W, Below w.heap.size w W → Calls Tryz.prog 9 #[.int .i64 2] W (SnapsE W 2))
    {iv cp : Int} (hi0 : 0 ≤ iv) (hi1 : iv < 256) (hc0 : 0 ≤ cp) (hc1 : cp < 256) {v : Value} {us : List Int} (hu : U16s w v us) :
    Calls Tryz.prog 4 #[.int .u8 iv, .int .u8 cp, v] w (LawE w) := by
  have hlv := hu.len
  by_cases h60 : 60 < us.length
  · have hwk := hw w (Below.refl _ _)
    go_enter Tryz.func4, Tryz.ntmps4
    go_wp2_with (go_at_call 13; refine hwk.mono ?_; rintro e w' ⟨rfl, hb⟩)
    go_ret
    exact ⟨rfl, hb⟩
  · have hd1 : 1 ≤ 1 + iv % 20 := by omega
    have hd2 : 1 + iv % 20 ≤ 20 := by omega
    have hr1 : 1 ≤ 1 + cp % 12 := by omega
    have hr2 : 1 + cp % 12 ≤ 12 := by omega
    have hnew := new_ok hd1 (by omega : 1 + iv % 20 ≤ 10000) hr1 (by omega : 1 + cp % 12 ≤ 100) w
    have hB0 : Below w.heap.size w ((w.alloc (.map #[] 0)).alloc (.cells #[.int .i64 (1 + iv % 20), .int .i64 (1 + cp % 12), .map (some w.heap.size)] 65)) := ((Below.refl _ w).alloc (Nat.le_refl _) _).alloc (by simp) _
    have hA0 := at_new (d := 1 + iv % 20) (room := 1 + cp % 12) w
    have hsn0 := hsn _ hB0
    go_enter Tryz.func4, Tryz.ntmps4
    go_wp2_with (first
      | (go_at_call 8; refine hnew.mono ?_; rintro e w' ⟨rfl, rfl⟩)
      | (go_at_call 9; refine hsn0.mono ?_; rintro e w' ⟨g, c, bs, rfl, hsn', hb⟩; have hA1 := hA0.below hb; have hB1 := hB0.trans (hb.mono hB0.size); have q0 := (hsn' 0 (by omega)).1)
      | (go_at_call 10; refine (offer_first (w := w) hA1 hsn' hB1 (Nat.le_refl _) hd1 hr1).mono ?_; rintro e w' ⟨rfl, fi⟩))
    clear hB0 hA0 hsn0 hnew hsn' hA1 hB1 q0 hb hsn
    have hpn := fun W => ptr_nsame ⟨bs 0, 0, none⟩ W
    go_loopw [14] (fun i wr => ∃ k : Nat, k ≤ us.length ∧ i = .int .i64 k ∧ ∃ l, FI w (w.heap.size + 1) w.heap.size g bs (1 + iv % 20) (1 + cp % 12) l wr) (fun i _ => us.length - (RowKit.intOf i).toNat)
    case atStart => exact ⟨0, by omega, rfl, _, fi⟩
    case round =>
      obtain ⟨k, hk, rfl, l, fi⟩ := hrel
      by_cases hlt : k < us.length
      · rcases hu with ⟨_, hus⟩ | ⟨a, c2, rfl, hus⟩
        · rw [hus] at hlt; simp at hlt
        · obtain ⟨hcell, hu0, hu1⟩ := hus k us[k] (by simp [hlt])
          have hcell := (fi.below.cell (World.block_lt_of_cell? _ _ hcell)).trans hcell
          generalize us[k] = u at hcell hu0 hu1
          clear hus hw
          have q0 := (fi.sn 0 (by omega)).1
          have q1 := (fi.sn 1 (by omega)).1
          have hk0 : 0 ≤ u / 2 := by omega
          have hk1 : u / 2 ≤ 32767 := by omega
          by_cases hodd : u % 2 = 1
          · go_wp2_with (first
              | (go_at_call 14; refine (fi.cut hk0).mono ?_; rintro e w' ⟨rfl, fi⟩; have q0 := (fi.sn 0 (by omega)).1; have hbig := fi.bestBig (n := 1099511627776) (k := u / 2) (by omega) (fun p hp => (mem_cut.1 hp).2))
              | (go_at_call 12; (with_reducible refine Calls.mono fi.best0 ?_); rintro e w' ⟨rfl, fi⟩; have q0 := (fi.sn 0 (by omega)).1)
              | (go_at_call 12; (with_reducible refine Calls.mono hbig ?_); rintro e w' ⟨a, p, ha, rfl, fi⟩; have q0 := (fi.sn 0 (by omega)).1)
              | (go_at_call 11; refine (fi.idx hd1).mono ?_; rintro e w' ⟨v', rfl, fi⟩))
            exact ⟨⟨k + 1, by omega, by simp, _, fi⟩, by simp [RowKit.intOf]; omega⟩
          · have hp0 : 0 ≤ u / 2 * (1 + iv % 20) := Int.mul_nonneg hk0 (by omega)
            have hp1 : u / 2 * (1 + iv % 20) ≤ 32767 * 20 := Int.mul_le_mul hk1 hd2 (by omega) (by omega)
            have hwf : (Lit.int .i64 (u / 2 * (1 + iv % 20))).wf = true := wf_small hp0 (by omega)
            go_wp2_with (first
              | (go_at_call 10; refine (fi.offer hp0 hwf hd1 hr1 (by omega)).mono ?_; rintro e w' ⟨b', l', rfl, fi⟩; have q0 := (fi.sn 0 (by omega)).1)
              | (go_at_call 12; (with_reducible refine Calls.mono fi.best0 ?_); rintro e w' ⟨rfl, fi⟩; have q0 := (fi.sn 0 (by omega)).1)
              | (go_at_call 11; refine (fi.idx hd1).mono ?_; rintro e w' ⟨v', rfl, fi⟩))
            exact ⟨⟨k + 1, by omega, by simp, _, fi⟩, by simp [RowKit.intOf]; omega⟩
      · have hke : k = us.length := by omega
        subst hke
        clear hu hlt hk
        have hcut := fi.cutAll
        clear fi
        go_wp2_with (first
          | (go_at_call 14; refine hcut.mono ?_; rintro e w' ⟨rfl, ha, hb⟩; have hbe := best_empty ha hb 1099511627776)
          | (go_at_call 12; (with_reducible refine Calls.mono hbe ?_); rintro e w' ⟨rfl, ha, hb⟩; have hle := len_empty ha hb)
          | (go_at_call 15; refine hle.mono ?_; rintro e w' ⟨rfl, hb⟩; have hwk := hw w' hb)
          | (go_at_call 13; refine hwk.mono ?_; rintro e w'' ⟨rfl, hb'⟩; have hbb := hb.trans (hb'.mono hb.size)))
        go_ret
        exact ⟨rfl, hbb⟩
end Go.St
/- StoreKeeps: the walk. -/
namespace Go.St
open Go Go.Proofs Go.RowKit Go.Maps Go.Shelf Go.Ev
theorem int_congr {a b : Int} (h : a = b) : Value.int .i64 a = Value.int .i64 b := by rw [h]
def wantI {α : Type} (r : Option (Int × α)) : Int := match r with | some p => p.1 | none => 0
def X3 (bs : Nat → Nat) (j : Nat) : Value := .pointer (some ⟨bs (j % 3), 0, none⟩)
structure KI (w : World) (sb mb g : Nat) (bs : Nat → Nat) (d room : Int) (rn n : Nat) (W : World) : Prop where
  at_ : At W sb d room mb (kept d rn (X3 bs) n)
  sn : Snaps W 3 g bs
  below : Below w.heap.size w W
  lo : w.heap.size ≤ mb
variable {w W : World} {sb mb g : Nat} {bs : Nat → Nat} {d room : Int} {rn n : Nat}
theorem KI.belowW {W' : World} (h : KI w sb mb g bs d room rn n W) (hb : Below W.heap.size W W') : KI w sb mb g bs d room rn n W' :=
  ⟨h.at_.below hb, h.sn.kept (below_grown hb none) (fun r e => by cases e), h.below.trans (hb.mono h.below.size), h.lo⟩
theorem KI.offer (h : KI w sb mb g bs d room rn n W) (hd : 1 ≤ d) (hd2 : d ≤ 20) (hr : 1 ≤ rn) (hrn : (rn : Int) = room) (hn : n ≤ 100) : Calls Tryz.prog 10 #[.pointer (some ⟨sb, 0, none⟩), .int .i64 ((n : Int) * d), .pointer (some ⟨bs (n % 3), 0, none⟩)] W fun e w' => e = .returned (.tuple #[.bool (decide (n = 0 ∨ 1 < rn)), .int .i64 0]) ∧ KI w sb mb g bs d room rn (n + 1) w' := by
  obtain ⟨_, a, ha⟩ := h.sn (n % 3) (by omega)
  have h0 : 0 ≤ (n : Int) * d := Int.mul_nonneg (by omega) (by omega)
  have h1 : (n : Int) * d ≤ 100 * 20 := Int.mul_le_mul (by omega) hd2 (by omega) (by omega)
  have he := offer_kept_eq (d := d) (room := rn) (X := X3 bs) hd hr n
  rw [hrn] at he
  refine (offer_ok h.at_ ha h0 (wf_small h0 (by omega)) hd (by omega) (by rw [length_kept hr]; omega)).mono ?_
  rw [show (Value.pointer (some ⟨bs (n % 3), 0, none⟩)) = X3 bs n from rfl, he]
  rintro e w' ⟨rfl, hat, hg⟩
  exact ⟨rfl, hat, h.sn.kept hg h.at_.row, h.below.grown hg h.below.size (fun k e => by cases e; exact h.lo), h.lo⟩
theorem KI.idx (h : KI w sb mb g bs d room rn n W) (hd : 1 ≤ d) (hr : 1 ≤ rn) (hrn : (rn : Int) = room) : Calls Tryz.prog 11 #[.pointer (some ⟨sb, 0, none⟩), .int .i64 d, .int .i64 room] W fun e w' => ∃ v, e = .returned (.tuple #[v, .bool true]) ∧ Ints W.heap.size w' (keys (kept d rn (X3 bs) n)) v ∧ KI w sb mb g bs d room rn n w' := by
  refine (callsIn_wide.1 (idx_in h.at_ hd (fun p hp => ?_) ?_)).mono ?_
  · obtain ⟨j, _, rfl⟩ := mem_kept hp
    exact Int.mul_emod_left _ _
  · rw [length_kept hr]; omega
  · rintro e w' ⟨v, rfl, hv, hb⟩
    exact ⟨v, rfl, hv, h.belowW hb⟩
theorem KI.best (h : KI w sb mb g bs d room rn n W) (i : Int) : Calls Tryz.prog 12 #[.pointer (some ⟨sb, 0, none⟩), .int .i64 i] W fun e w' => e = .returned (bestV (best i (kept d rn (X3 bs) n))) ∧ KI w sb mb g bs d room rn n w' := by
  refine (best_ok h.at_).mono ?_
  rintro e w' ⟨rfl, hb⟩
  exact ⟨rfl, h.belowW hb⟩
theorem ki_new (h : At W sb d room mb []) (hs : Snaps W 3 g bs) (hb : Below w.heap.size w W) (hlo : w.heap.size ≤ mb) : KI w sb mb g bs d room rn 0 W := ⟨h, hs, hb, hlo⟩
set_option maxRecDepth 100000 in
set_option maxHeartbeats 4000000 in
theorem keeps_ok {w : World} (hw : ∀ W, Below w.heap.size w W → Calls Tryz.prog 13 #[] W (WorksE W)) (hsn : ∀ W, Below w.heap.size w W → Calls Tryz.prog 9 #[.int .i64 3] W (SnapsE W 3))
    {iv cp many ix : Int} (hi0 : 0 ≤ iv) (hi1 : iv < 256) (hc0 : 0 ≤ cp) (hc1 : cp < 256) (hm0 : 0 ≤ many) (hm1 : many < 256) (hx0 : 0 ≤ ix) (hx1 : ix < 65536) :
    Calls Tryz.prog 3 #[.int .u8 iv, .int .u8 cp, .int .u8 many, .int .u16 ix] w (LawE w) := by
  have hd1 : 1 ≤ 1 + iv % 20 := by omega
  have hd2 : 1 + iv % 20 ≤ 20 := by omega
  have hr1 : 1 ≤ 1 + cp % 12 := by omega
  have hr2 : 1 + cp % 12 ≤ 12 := by omega
  obtain ⟨rn, hrn⟩ : ∃ rn : Nat, (rn : Int) = 1 + cp % 12 := ⟨(1 + cp % 12).toNat, by omega⟩
  obtain ⟨N, hN⟩ : ∃ N : Nat, (N : Int) = many % 101 := ⟨(many % 101).toNat, by omega⟩
  have hRN := Lib.hid hrn
  have hNN := Lib.hid hN
  have hrn1 : 1 ≤ rn := by omega
  have hN1 : N ≤ 100 := by omega
  clear hrn hN
  have hnew := new_ok hd1 (by omega : 1 + iv % 20 ≤ 10000) hr1 (by omega : 1 + cp % 12 ≤ 100) w
  have hB0 : Below w.heap.size w ((w.alloc (.map #[] 0)).alloc (.cells #[.int .i64 (1 + iv % 20), .int .i64 (1 + cp % 12), .map (some w.heap.size)] 65)) := ((Below.refl _ w).alloc (Nat.le_refl _) _).alloc (by simp) _
  have hA0 := at_new (d := 1 + iv % 20) (room := 1 + cp % 12) w
  have hsn0 := hsn _ hB0
  go_enter Tryz.func3, Tryz.ntmps3
  go_wp2_with (first
    | (go_at_call 8; refine hnew.mono ?_; rintro e w' ⟨rfl, rfl⟩)
    | (go_at_call 9; refine hsn0.mono ?_; rintro e w' ⟨g, c, bs, rfl, hsn', hb⟩; have hA1 := hA0.below hb; have hB1 := hB0.trans (hb.mono hB0.size); have ki := ki_new (w := w) (rn := rn) hA1 hsn' hB1 (Nat.le_refl _)))
  clear hB0 hA0 hsn0 hnew hsn' hA1 hB1 hb hsn
  go_loopw [15] (fun i wr => ∃ k : Nat, k ≤ N ∧ i = .int .i64 k ∧ KI w (w.heap.size + 1) w.heap.size g bs (1 + iv % 20) (1 + cp % 12) rn k wr) (fun i _ => N - (RowKit.intOf i).toNat)
  case atStart => exact ⟨0, by omega, rfl, ki⟩
  case round =>
    obtain ⟨k, hk, rfl, ki⟩ := hrel
    by_cases hlt : k < N
    · have hltm : (k : Int) < many % 101 := by have := hNN.out; omega
      have hof := ki.offer hd1 hd2 hrn1 hRN.out (by omega)
      have hp0 : 0 ≤ (k : Int) * (1 + iv % 20) := Int.mul_nonneg (by omega) (by omega)
      have hp1 : (k : Int) * (1 + iv % 20) ≤ 100 * 20 := Int.mul_le_mul (by omega) hd2 (by omega) (by omega)
      have q := (ki.sn (k % 3) (by omega)).1
      clear hw
      go_wp2_with (first
        | (go_at_call 10; refine hof.mono ?_; rintro e w' ⟨rfl, ki⟩))
      all_goals first
        | exact ⟨⟨k + 1, by omega, int_congr (by omega), ki⟩, by simp [RowKit.intOf]; omega⟩
        | (exfalso
           rename_i h1 h2
           have e1 : ((k : Int) == 0) = false := by simp; omega
           have e2 : decide (1 < 1 + cp % 12) = decide (1 < rn) := by
             have := hRN.out
             rw [decide_eq_decide]; omega
           rw [e1, e2] at h2
           revert h2
           cases decide (1 < rn) <;> simp)
    · have hke : k = N := by omega
      subst hke
      have hltm : ¬ (k : Int) < many % 101 := by have := hNN.out; omega
      obtain ⟨L, hL⟩ : ∃ L, L = min k rn := ⟨_, rfl⟩
      have hLI : (L : Int) = min (many % 101) (1 + cp % 12) := by have := hNN.out; have := hRN.out; omega
      obtain ⟨l, hl⟩ : ∃ l, l = kept (1 + iv % 20) rn (X3 bs) k := ⟨_, rfl⟩
      have hLk : (keys l).length = L := by rw [hl, keys_length, length_kept hrn1, hL]
      have hix := ki.idx hd1 hrn1 hRN.out
      rw [← hl] at hix
      have HLD := Lib.hid hl
      have HL := Lib.hid hL
      have HLI := Lib.hid hLI
      have HK := Lib.hid hLk
      clear hL hLI hLk ki hlt hk hl
      go_wp2_with (first
        | (go_at_call 11; refine hix.mono ?_; rintro e w' ⟨v, rfl, hv, ki⟩; have hlen := hv.len; rw [HK.out] at hlen))
      · exfalso
        rename_i h
        rw [HLI.out] at h
        simp at h
      clear hix
      go_loop [20, 21, 22] (fun a b i => ∃ k2 : Nat, k2 ≤ L ∧ i = .int .i64 k2 ∧ a = .int .i64 (wantI (best ix (l.take k2))) ∧ b = .bool (best ix (l.take k2)).isSome) (fun _ _ i => L - (RowKit.intOf i).toNat)
      case atStart => exact ⟨0, by omega, rfl, rfl, rfl⟩
      case round =>
        obtain ⟨k2, hk2, rfl, rfl, rfl⟩ := hrel
        by_cases hlt : k2 < L
        · have hlm : k2 < min k rn := by have := HL.out; omega
          have hat := kept_at (d := 1 + iv % 20) hrn1 (X3 bs) hlm
          rw [← HLD.out] at hat
          obtain ⟨J, hJ⟩ : ∃ J, J = (if k2 = 0 then 0 else k - min k rn + k2) := ⟨_, rfl⟩
          rw [← hJ] at hat
          have hkl : (keys l)[k2]? = some ((J : Int) * (1 + iv % 20)) := by unfold keys; rw [List.getElem?_map, hat]; rfl
          have htake : l.take (k2 + 1) = l.take k2 ++ [((J : Int) * (1 + iv % 20), X3 bs J)] := by rw [List.take_add_one, hat]; rfl
          have hbst := best_append (n := ix) (l.take k2) ((J : Int) * (1 + iv % 20), X3 bs J)
          rw [← htake] at hbst
          rcases hv with ⟨_, hv⟩ | ⟨g', cap, rfl, _, _, _, hgc⟩
          · rw [hv] at hkl; cases hkl
          have hcell := hgc _ _ hkl
          rw [HK.out] at *
          have hJ0 : 0 ≤ (J : Int) * (1 + iv % 20) := Int.mul_nonneg (by omega) (by omega)
          have hJk : J ≤ 100 := by have := HL.out; have := hNN.out; split at hJ <;> omega
          have hJ1 : (J : Int) * (1 + iv % 20) ≤ 100 * 20 := Int.mul_le_mul (by omega) hd2 (by omega) (by omega)
          have hL12 : L ≤ 12 := by have := HL.out; have := hRN.out; omega
          have hmL : (L : Int) ≤ many % 101 := by have := HL.out; have := hNN.out; omega
          have HB := Lib.hid hbst
          have HJ := Lib.hid hJ
          clear hbst htake hkl hat hlm hgc hw
          by_cases hk0 : k2 = 0
          · subst hk0
            have hJz : J = 0 := by have := HJ.out; simp at this; exact this
            rw [hJz] at hcell HB
            simp only [Int.natCast_zero, Int.zero_mul] at hcell HB
            clear hJ hJ0 hJ1 hJk HJ hJz
            go_wp2
            exact ⟨⟨1, hlt, rfl, by rw [HB.out, if_pos hx0]; rfl, by rw [HB.out, if_pos hx0]; rfl⟩, by simp [RowKit.intOf]; omega⟩
          · have hz : (0 : Int) < (k2 : Int) := by omega
            have hJv : (J : Int) = many % 101 - L + k2 := by have h1 := HJ.out; have := HL.out; have := hNN.out; rw [if_neg hk0] at h1; omega
            have hn0 : 0 ≤ many % 101 - L + k2 := by omega
            have hn1 : many % 101 - L + k2 ≤ 100 := by omega
            rw [hJv] at hcell HB hJ0 hJ1
            clear hJ hJk HJ hJv
            by_cases hle : (many % 101 - L + k2) * (1 + iv % 20) ≤ ix
            · go_wp2
              exact ⟨⟨k2 + 1, by omega, int_congr (by omega), by rw [HB.out, if_pos hle]; rfl, by rw [HB.out, if_pos hle]; rfl⟩, by simp [RowKit.intOf]; omega⟩
            · go_wp2
              exact ⟨⟨k2 + 1, by omega, int_congr (by omega), by rw [HB.out, if_neg hle], by rw [HB.out, if_neg hle]⟩, by simp [RowKit.intOf]; omega⟩
        · have hke : k2 = L := by omega
          subst hke
          have hall : l.take k2 = l := List.take_of_length_le (by rw [← HK.out, keys_length]; omega)
          rw [hall]
          have hbe := ki.best ix
          rw [← HLD.out] at hbe
          clear hv hlt hk2 hall
          cases hb : best ix l with
          | none =>
            rw [hb] at hbe
            simp only [bestV, wantI, Option.isSome] at hbe ⊢
            clear hb
            go_wp2_with (first
              | (go_at_call 12; refine hbe.mono ?_; rintro e w' ⟨rfl, ki⟩; have hwk := hw _ ki.below)
              | (go_at_call 13; refine hwk.mono ?_; rintro e w'' ⟨rfl, hb'⟩; have hbb := ki.below.trans (hb'.mono ki.below.size)))
            go_ret
            exact ⟨rfl, hbb⟩
          | some p =>
            have hm := (best_some hb).1
            rw [HLD.out] at hm
            obtain ⟨j, hj, rfl⟩ := mem_kept hm
            rw [hb] at hbe
            simp only [bestV, wantI, Option.isSome, X3] at hbe ⊢
            clear hb hm
            have hdiv : (j : Int) * (1 + iv % 20) / (1 + iv % 20) = (j : Int) := Int.mul_ediv_cancel _ (by omega)
            have hp0 : 0 ≤ (j : Int) * (1 + iv % 20) := Int.mul_nonneg (by omega) (by omega)
            have hp1 : (j : Int) * (1 + iv % 20) ≤ 100 * 20 := Int.mul_le_mul (by omega) hd2 (by omega) (by omega)
            have hpe := fun W => ptr_same ⟨bs (j % 3), 0, none⟩ W
            go_wp2_with (first
              | (go_at_call 12; refine hbe.mono ?_; rintro e w' ⟨rfl, ki⟩; have hwk := hw _ ki.below; have q := (ki.sn (j % 3) (by omega)).1)
              | (go_at_call 13; refine hwk.mono ?_; rintro e w'' ⟨rfl, hb'⟩; have hbb := ki.below.trans (hb'.mono ki.below.size)))
            go_ret
            exact ⟨rfl, hbb⟩
end Go.St
/- The arguments of the statements, as the row hands them. -/
namespace Go.St
open Go Go.Proofs Go.RowKit Go.Maps Go.Shelf Go.ChangeShapes Go.WideShapes
theorem cells22 : Tryz.prog.cellsOf 22 = 1 := by kernel_rfl
theorem u16_bounds {u : Int} (h : (Lit.int .u16 u).wf = true) : 0 ≤ u ∧ u < 65536 := by
  have e1 : IntKind.u16.min = 0 := by decide
  have e2 : IntKind.u16.max = 65535 := by decide
  simp [Lit.wf, e1, e2] at h
  omega
theorem u8_bounds {u : Int} (h : (Lit.int .u8 u).wf = true) : 0 ≤ u ∧ u < 256 := by
  have e1 : IntKind.u8.min = 0 := by decide
  have e2 : IntKind.u8.max = 255 := by decide
  simp [Lit.wf, e1, e2] at h
  omega
theorem u16s_of {H : Type} {enc : TypeId × Value → H} {W : World} {base : Nat} {sp : Nat → Bool} {held : Bool} {v : Value} {d : DataW H} {ps : List MemPlace} (h : DataW.Trod enc Tryz.prog W base sp held 39 v d ps) (hv : ∃ p n c, v = .slice p n c) : ∃ us, U16s W v us := by
  obtain ⟨p0, n0, c0, rfl⟩ := hv
  obtain ⟨fuel, hf⟩ := h
  rcases open_ints Tryz.underlying39 Tryz.underlying22 cells22 hf with ⟨h1, _⟩ | ⟨a, len, cap, zs, h1, _, hl, _, hz, _, hc, hw⟩
  · simp [Value.cells] at h1
    obtain ⟨rfl, rfl, rfl⟩ := h1
    exact ⟨[], .inl ⟨rfl, rfl⟩⟩
  · simp [Value.cells] at h1
    obtain ⟨rfl, rfl, rfl⟩ := h1
    have hlz : n0 ≤ zs.length := by rw [hz]; split <;> omega
    refine ⟨zs.take n0, .inr ⟨a, c0, by rw [List.length_take, Nat.min_eq_left hlz], fun j u hu => ?_⟩⟩
    rw [List.getElem?_take] at hu
    split at hu
    · have hjl := (List.getElem?_eq_some_iff.1 hu).1
      have h2 := hc j hjl
      rw [show zs.getD j 0 = u by rw [List.getD_eq_getElem?_getD, hu]; rfl] at h2
      exact ⟨h2, u16_bounds (hw u (List.mem_of_getElem? hu))⟩
    · cases hu
end Go.St
