/- items: a store keeps what the document's keeps. -/
import Derived.Test.YtlgngfiiaoodjaaGreatDoorStLoops
import Derived.Test.YtlgngfiiaoodjaaGreatDoorStDrops
import Derived.Test.YtlgngfiiaoodjaaGreatDoorStOffs
set_option linter.unusedVariables false
set_option linter.unusedSimpArgs false
/- items: a store keeps what the document's keeps. -/
namespace Go.St
open Go Go.Proofs Go.RowKit Go.Maps Go.Shelf Go.Ev
attribute [local go_sem] Oper.semAt_some
theorem At.drew1 {w : World} {sb : Nat} {d room : Int} {mb : Nat} {l : List (Int × Value)} (h : At w sb d room mb l) : At w.drew sb d room mb l := h.below (Below.refl _ w).drew
def SI2 (n1 n0 k rb g c m g9 cap9 : Nat) (p : Int × Int) (x : Nat) (W' : World) : Prop := W'.cell? ⟨n1, 0, none⟩ = some (.int .i64 (k : Int)) ∧ W'.cell? ⟨n0, 0, none⟩ = some (.pointer (some ⟨rb, 0, none⟩)) ∧ W'.cell? ⟨n0 + 1, 0, none⟩ = some (.slice (some ⟨g, 0, none⟩) 6 c) ∧ W'.cell? ⟨rb, 2, none⟩ = some (.slice (some ⟨g9, 0, none⟩) m cap9) ∧ W'.cell? ⟨g9, k * 2, none⟩ = some (.int .i64 p.1) ∧ W'.cell? ⟨g9, k * 2 + 1, none⟩ = some (.int .i64 p.2) ∧ W'.cell? ⟨g, p.2.toNat, none⟩ = some (.pointer (some ⟨x, 0, none⟩))
def ptrOf (bs : Nat → Nat) (k : Int) : Value := .pointer (some ⟨bs k.toNat, 0, none⟩)
structure IT (w : World) (sb mb rb g c : Nat) (bs : Nat → Nat) (d room d' room' : Int) (l : List (Int × Value)) (r : List (Int × Int)) (v : Value) (W : World) : Prop where
 rbx : Boxed W w.heap.size 51 (.pointer (some ⟨rb, 0, none⟩))
 lbx : Boxed W (w.heap.size + 1) 27 (.slice (some ⟨g, 0, none⟩) 6 c)
 res : Boxed W (w.heap.size + 1 + 1) 4 (.bool false)
 at_ : At W sb d room mb l
 ra : RAt W rb d' room' r v
 sn : Snaps W 6 g bs
 below : Below w.heap.size w W
variable {w W : World} {sb mb rb g c : Nat} {bs : Nat → Nat} {d room d' room' : Int} {l : List (Int × Value)} {r : List (Int × Int)} {v : Value}
theorem IT.belowW {W' : World} (h : IT w sb mb rb g c bs d room d' room' l r v W) (hb : Below W.heap.size W W') : IT w sb mb rb g c bs d room d' room' l r v W' :=
 have hg := below_grown hb none
 ⟨h.rbx.kept hg (by simp), h.lbx.kept hg (by simp), h.res.kept hg (by simp), h.at_.below hb, h.ra.far hg (by simp) (by simp), (Far.none W).snaps hg h.sn, h.below.trans (hb.mono h.below.size)⟩
theorem kth_mapV {n : Nat} {p : Int × Int} (hl : l = mapV (ptrOf bs) r) (hi : Inc l) (hp : r[n]? = some p) : kth l n = p.1 ∧ at? (kth l n) l = ptrOf bs p.2 := by
 have hn := (List.getElem?_eq_some_iff.1 hp).1
 have hln : l[n]? = some (p.1, ptrOf bs p.2) := by
  subst hl
  unfold mapV
  rw [List.getElem?_map, hp]; rfl
 have hk : kth l n = p.1 := by
  unfold kth keys
  rw [List.getElem?_map, hln]; rfl
 refine ⟨hk, ?_⟩
 rw [hk]
 exact at_of_mem hi (List.mem_of_getElem? hln)
theorem I2.round' {N : Nat} {WN W W5 : World} {pre : List (Fin l.length)} {x : Fin l.length} (hN : N ≤ WN.heap.size) (h : I2 l N WN pre W) (hb : Below W.heap.size W W5) (hx : x.1 = pre.length) {m : Int} (hm : m = ((pre.length + 1 : Nat) : Int)) (B0 : Nat) :
  KeepsFrom B0 W (W5.setCell ⟨N, 0, none⟩ (.int .i64 m)) ∧ KB (X1 N) W (W5.setCell ⟨N, 0, none⟩ (.int .i64 m)) ∧ I2 l N WN (pre ++ [x]) (W5.setCell ⟨N, 0, none⟩ (.int .i64 m)) := by
 have hg := below_grown hb none
 have h5 : I2 l N WN pre W5 := ⟨h.1, h.2.1.kept hg (by simp), h.2.2.trans (hb.mono (Nat.le_trans hN h.2.2.size))⟩
 obtain ⟨a1, a2, a3⟩ := h5.round hx hm B0
 exact ⟨(KeepsFrom.of_grownBy hg (fun j e => by cases e)).trans a1, (KB.grown (x1_ok N 0) (Nat.zero_le _) hg).trans a2, a3⟩
set_option maxRecDepth 100000 in
set_option maxHeartbeats 4000000 in
theorem items_ok (hA : At w sb d room mb l) (hR : RAt w rb d' room' r v) (hd : 1 ≤ d') (hS : Snaps w 6 g bs) (hl : l = mapV (ptrOf bs) r) (hk : ∀ p ∈ r, 0 ≤ p.2 ∧ p.2 < 6) :
  CallsIn Fence.wide 8 Tryz.prog 23 #[.pointer (some ⟨sb, 0, none⟩), .pointer (some ⟨rb, 0, none⟩), .slice (some ⟨g, 0, none⟩) 6 c] w (LawE w) := by
 have hlr : l.length = r.length := by rw [hl]; exact length_mapV _ _
 have HL := Lib.hid hl
 have HK := Lib.hid hk
 have hit0 : ∀ W0, W0 = ((w.alloc (.cells #[.pointer (some ⟨rb, 0, none⟩)] 51)).alloc (.cells #[.slice (some ⟨g, 0, none⟩) 6 c] 27)).alloc (.cells #[.bool false] 4) → IT w sb mb rb g c bs d room d' room' l r v W0 := by
  rintro W0 rfl
  have hb : Below w.heap.size w (((w.alloc (.cells #[.pointer (some ⟨rb, 0, none⟩)] 51)).alloc (.cells #[.slice (some ⟨g, 0, none⟩) 6 c] 27)).alloc (.cells #[.bool false] 4)) := (((Below.refl _ w).alloc (Nat.le_refl _) _).alloc (by simp) _).alloc (by simp; omega) _
  have k2 := (Boxed.new (w.alloc (.cells #[.pointer (some ⟨rb, 0, none⟩)] 51)) 27 (.slice (some ⟨g, 0, none⟩) 6 c)).alloc (.cells #[.bool false] 4)
  have k3 := Boxed.new ((w.alloc (.cells #[.pointer (some ⟨rb, 0, none⟩)] 51)).alloc (.cells #[.slice (some ⟨g, 0, none⟩) 6 c] 27)) 4 (.bool false)
  simp only [World.size_alloc] at k2 k3
  exact ⟨((Boxed.new w 51 _).alloc _).alloc _, k2, k3, hA.below hb, hR.far (below_grown hb none) (by simp) (by simp), (Far.none w).snaps (below_grown hb none) hS, hb⟩
 refine callsIn_of_wp_marks Tryz.func23 rfl trivial ?_ rfl
 simp only [Tryz.ntmps23, List.size_toArray, List.length_cons, List.length_nil, Nat.reduceAdd, Nat.reduceSub, Array.replicate_succ, Array.replicate_zero, List.push_toArray, List.append_toArray, List.nil_append, List.cons_append]
 clear hl hk
 gi_wp2
 obtain ⟨W0, hW0⟩ : ∃ W0, ((w.alloc (.cells #[.pointer (some ⟨rb, 0, none⟩)] 51)).alloc (.cells #[.slice (some ⟨g, 0, none⟩) 6 c] 27)).alloc (.cells #[.bool false] 4) = W0 := ⟨_, rfl⟩
 have it := hit0 W0 hW0.symm
 rw [hW0]
 clear hW0 hit0 hA hR hS
 have hlen := len_ok it.at_.drew1
 have hrl := fun W (i : IT w sb mb rb g c bs d room d' room' l r v W) => rlen_ok i.ra hd
 rw [← hlr] at hrl
 have g1 := it.rbx.cell
 rename_i K0 hK0
 refine wpIn_mono (Q := fun e a' w' => match e with | .normal => K0 a' w' | _ => False) ?_ (by intro e a' w' hm; cases e with | normal => exact hm | _ => exact hm.elim)
 refine wpIn_wide.2 (wp_region_R (R := fun _ => (fun W' : World => W'.cell? ⟨w.heap.size, 0, none⟩ = some (.pointer (some ⟨rb, 0, none⟩)))) (by kernel_rfl) ?_)
 change wpAnyR Tryz.prog .any _ _ _ 5 (Array.replicate 5 false) _ _
 have hS0 : (fun W' : World => W'.cell? ⟨w.heap.size, 0, none⟩ = some (.pointer (some ⟨rb, 0, none⟩))) W0.drew := g1
 refine wpAnyR_take (fun W' : World => W'.cell? ⟨w.heap.size, 0, none⟩ = some (.pointer (some ⟨rb, 0, none⟩))) (i := 0) (v := .pointer (some ⟨sb, 0, none⟩)) (fun _ => false) rfl (by kernel_rfl) (by kernel_rfl) (by kernel_rfl) (by kernel_rfl) rfl (by kernel_rfl) (fun _ _ _ h => h) (fun j w _ hR => hR) (fun w hS => hS) (.inl ⟨by rfl, fun w hS => ?a0⟩) hS0 ?_
 case a0 =>
  have s1 := hS
  go_simp
 try simp only [Act.put, List.getElem_toArray, List.getElem_cons_zero, List.getElem_cons_succ, List.setIfInBounds_toArray, List.set_cons_zero, List.set_cons_succ]
 refine wpAnyR_take (fun W' : World => W'.cell? ⟨w.heap.size, 0, none⟩ = some (.pointer (some ⟨rb, 0, none⟩))) (i := 2) (v := .pointer (some ⟨rb, 0, none⟩)) (fun _ => false) rfl (by kernel_rfl) (by kernel_rfl) (by kernel_rfl) (by kernel_rfl) rfl (by kernel_rfl) (fun _ _ _ h => h) (fun j w _ hR => hR) (fun w hS => hS) (.inl ⟨by rfl, fun w hS => ?a2⟩) hS0 ?_
 case a2 =>
  have s1 := hS
  go_simp
 try simp only [Act.put, List.getElem_toArray, List.getElem_cons_zero, List.getElem_cons_succ, List.setIfInBounds_toArray, List.set_cons_zero, List.set_cons_succ]
 refine wpAnyR_ready (rs := [1]) (by kernel_rfl) (by simp) ?_
 refine AllR.call rfl (by rfl) (f := 15) (args := #[.pointer (some ⟨sb, 0, none⟩)]) (w1 := W0.drew) ?a1 hlen ?ac1 AllR.nil
 case a1 => go_simp
 case ac1 =>
  rintro e w1 ⟨rfl, hb1⟩
  have it1 := it.belowW ((Below.refl _ W0).drew.trans hb1)
  clear hlen it g1
  have hS0 : (fun W' : World => W'.cell? ⟨w.heap.size, 0, none⟩ = some (.pointer (some ⟨rb, 0, none⟩))) w1 := it1.rbx.cell
  refine ⟨_, rfl, hS0, ?_⟩
  try simp only [Act.put, List.getElem_toArray, List.getElem_cons_zero, List.getElem_cons_succ, List.setIfInBounds_toArray, List.set_cons_zero, List.set_cons_succ]
  refine wpAnyR_ready (rs := [3]) (by kernel_rfl) (by simp) ?_
  refine AllR.call rfl (by rfl) (f := 39) (args := #[.pointer (some ⟨rb, 0, none⟩)]) (w1 := w1) ?a3 (hrl _ it1) ?ac3 AllR.nil
  case a3 => go_simp
  case ac3 =>
   rintro e w1' ⟨rfl, rfl⟩
   refine ⟨_, rfl, hS0, ?_⟩
   try simp only [Act.put, List.getElem_toArray, List.getElem_cons_zero, List.getElem_cons_succ, List.setIfInBounds_toArray, List.set_cons_zero, List.set_cons_succ]
   refine wpAnyR_take (fun W' : World => W'.cell? ⟨w.heap.size, 0, none⟩ = some (.pointer (some ⟨rb, 0, none⟩))) (i := 4) (v := .bool false) (fun _ => false) rfl (by kernel_rfl) (by kernel_rfl) (by kernel_rfl) (by kernel_rfl) rfl (by kernel_rfl) (fun _ _ _ h => h) (fun j w _ hR => hR) (fun w hS => hS) (.inl ⟨by rfl, fun w hS => ?a4⟩) hS0 ?_
   case a4 =>
    have s1 := hS
    go_simp
   try simp only [Act.put, List.getElem_toArray, List.getElem_cons_zero, List.getElem_cons_succ, List.setIfInBounds_toArray, List.set_cons_zero, List.set_cons_succ]
   refine wpAnyR_done (by kernel_rfl) ?_
   show K0 _ _
   refine hK0 _ _ ?_
   try simp only [Act.put, List.getElem_toArray, List.getElem_cons_zero, List.getElem_cons_succ, List.setIfInBounds_toArray, List.set_cons_zero, List.set_cons_succ]
   clear hK0
   have hall := fun W => callsIn_wide (n := 7).2 (all_ok sb W)
   have hnf := fn_not_nil
   gi_wp2_with (refine ⟨trivial, ?_⟩; gi_at_call 17; refine (hall _).mono ?_; rintro e w6 ⟨rfl, rfl⟩)
   clear hall
   have hW0 : ∀ W, W = ((w1.alloc (.cells #[.int .i64 0] 3)).alloc (.cells #[.pointer (some ⟨sb, 0, none⟩)] 23)) → W.heap.size = w1.heap.size + 2 ∧ Boxed W w1.heap.size 3 (.int .i64 0) ∧ Boxed W (w1.heap.size + 1) 23 (.pointer (some ⟨sb, 0, none⟩)) ∧ Below w1.heap.size w1 W := by
    rintro W rfl
    have k2 := Boxed.new (w1.alloc (.cells #[.int .i64 0] 3)) 23 (.pointer (some ⟨sb, 0, none⟩))
    rw [World.size_alloc] at k2
    exact ⟨by simp, (Boxed.new w1 3 (.int .i64 0)).alloc _, k2, ((Below.refl _ w1).alloc (Nat.le_refl _) _).alloc (by simp) _⟩
   obtain ⟨W2, hW2⟩ : ∃ W2, ((w1.alloc (.cells #[.int .i64 0] 3)).alloc (.cells #[.pointer (some ⟨sb, 0, none⟩)] 23)) = W2 := ⟨_, rfl⟩
   obtain ⟨hs2, hn2, hb2, hBl2⟩ := hW0 W2 hW2.symm
   rw [hW2]
   clear hW2 hW0
   have hA2 := (it1.belowW hBl2).at_
   have zs : sb < w1.heap.size := World.block_lt_of_cell? _ _ it1.at_.c0
   have zm : mb < w1.heap.size := it1.at_.own.lt
   have z3 : w.heap.size + 2 < w1.heap.size := World.block_lt_of_cell? _ _ it1.res.cell
   refine wpIn_all (m := 7) (by omega) (B := w1.heap.size + 2) rfl rfl (X1 w1.heap.size) (x1_ok _ _) (by omega) ?xl ?xs ?xm ?xb hb2.cell hA2
    (I2 l w1.heap.size w1) (fun c pre W => pre ≠ (List.finRange l.length).take pre.length) (i2_own (Nat.le_refl _) (by omega)) (fun _ _ _ _ _ hs _ _ => hs) ⟨rfl, hn2, hBl2⟩ ?round ?done ?stop
   case xl => rintro i rfl; omega
   case xs => intro e; have e : sb = w1.heap.size := e; omega
   case xm => intro e; have e : mb = w1.heap.size := e; omega
   case xb => intro e; have e : w1.heap.size + 1 = w1.heap.size := e; omega
   case stop =>
    intro D' c k' W hD' hk' hne _
    exfalso
    apply hne
    rw [List.length_take, List.length_finRange, Nat.min_eq_left hk']
   case round =>
    apply Exists.intro
    refine ⟨?assign, ?body⟩
    case assign =>
     intro lp x W K hK
     gi_wp2
     exact hK
    case body =>
     rintro lp pre x W hI hlt2
     have itW := it1.belowW hI.2.2
     have hpr : pre.length < r.length := by rw [← hlr]; exact hlt2
     have hp : r[pre.length]? = some r[pre.length] := by simp [hpr]
     generalize r[pre.length] = p at hp
     obtain ⟨hkp, hatp⟩ := kth_mapV HL.out itW.at_.inc hp
     obtain ⟨hp0, hp6⟩ := HK.out p (List.mem_of_getElem? hp)
     obtain ⟨g9, cap9, hv9, k0, k1⟩ := itW.ra.item hp
     subst hv9
     have cn := hI.2.1.cell
     have fn := hI.2.1.frozen
     have cr := itW.rbx.cell
     have cl := itW.lbx.cell
     have cres := itW.res.cell
     have fres := itW.res.frozen
     have c2 := itW.ra.c2
     have q := (itW.sn p.2.toNat (by omega)).1
     have hlenr := hrl _ (itW.belowW (Below.refl _ W).drew)
     have nge : ¬ (l.length : Int) ≤ (pre.length : Int) := by omega
     have hfew := itW.ra.few
     have hpl : (pre.length : Int) < 4097 := by omega
     have b0 : (0 : Int) ≤ (pre.length : Int) := by omega
     have b1 : (pre.length : Int) < (r.length : Int) := by omega
     by_cases hx : x.1 = pre.length
     ·have hkk : kth l x.1 = p.1 := by rw [hx]; exact hkp
      have hat : at? (kth l x.1) l = .pointer (some ⟨bs p.2.toNat, 0, none⟩) := by rw [hx]; exact hatp
      have hpn := fun W => ptr_nsame ⟨bs p.2.toNat, 0, none⟩ W
      have hend := I2.round' (Nat.le_refl _) hI ((Below.refl _ W).drew) hx (m := (pre.length : Int) + 1) (by omega) (w1.heap.size + 2)
      have HE := Lib.hid hend
      rw [hat, hkk]
      clear hend hat hkk hI itW hkp hatp hA2 hb2 hn2 hBl2 hx hlt2 hpr
      gi_wp2
      rename_i K0 hK0
      refine wpIn_mono (Q := fun e a' w' => match e with | .normal => K0 a' w' | _ => False) ?_ (by intro e a' w' hm; cases e with | normal => exact hm | _ => exact hm.elim)
      refine wpIn_region_R (R := fun _ => (SI2 w1.heap.size w.heap.size pre.length rb g c r.length g9 cap9 p (bs p.2.toNat))) (by kernel_rfl) (by kernel_rfl) (by rintro ⟨a', w', h⟩; exact h) ?_
      change wpAnyR Tryz.prog .any _ _ _ 31 (Array.replicate 31 false) _ _
      have hS0 : (SI2 w1.heap.size w.heap.size pre.length rb g c r.length g9 cap9 p (bs p.2.toNat)) W.drew := (show _ ∧ _ from ⟨cn, cr, cl, c2, k0, k1, q⟩)
      try simp only [Act.put, List.getElem_toArray, List.getElem_cons_zero, List.getElem_cons_succ, List.setIfInBounds_toArray, List.set_cons_zero, List.set_cons_succ]
      refine wpAnyR_take (SI2 w1.heap.size w.heap.size pre.length rb g c r.length g9 cap9 p (bs p.2.toNat)) (i := 0) (v := .int .i64 (pre.length : Int)) (fun _ => false) rfl (by kernel_rfl) (by kernel_rfl) (by kernel_rfl) (by kernel_rfl) rfl (by kernel_rfl) (fun _ _ _ h => h) (fun j w _ hR => hR) (fun w hS => hS) (.inl ⟨by rfl, fun w hS => ?u0⟩) hS0 ?_
      case u0 =>
       obtain ⟨s1, s2, s3, s4, s5, s6, s7⟩ := hS
       go_simp
      try simp only [Act.put, List.getElem_toArray, List.getElem_cons_zero, List.getElem_cons_succ, List.setIfInBounds_toArray, List.set_cons_zero, List.set_cons_succ]
      refine wpAnyR_take (SI2 w1.heap.size w.heap.size pre.length rb g c r.length g9 cap9 p (bs p.2.toNat)) (i := 1) (v := .pointer (some ⟨rb, 0, none⟩)) (fun _ => false) rfl (by kernel_rfl) (by kernel_rfl) (by kernel_rfl) (by kernel_rfl) rfl (by kernel_rfl) (fun _ _ _ h => h) (fun j w _ hR => hR) (fun w hS => hS) (.inl ⟨by rfl, fun w hS => ?u1⟩) hS0 ?_
      case u1 =>
       obtain ⟨s1, s2, s3, s4, s5, s6, s7⟩ := hS
       go_simp
      try simp only [Act.put, List.getElem_toArray, List.getElem_cons_zero, List.getElem_cons_succ, List.setIfInBounds_toArray, List.set_cons_zero, List.set_cons_succ]
      refine wpAnyR_ready (rs := [2]) (by kernel_rfl) (by simp) ?_
      refine AllR.call rfl (by rfl) (f := 39) (args := #[.pointer (some ⟨rb, 0, none⟩)]) (w1 := W.drew) ?u2 hlenr ?uc2 AllR.nil
      case u2 => go_simp
      case uc2 =>
       rintro e w9 ⟨rfl, rfl⟩
       refine ⟨_, rfl, hS0, ?_⟩
       try simp only [Act.put, List.getElem_toArray, List.getElem_cons_zero, List.getElem_cons_succ, List.setIfInBounds_toArray, List.set_cons_zero, List.set_cons_succ]
       refine wpAnyR_take (SI2 w1.heap.size w.heap.size pre.length rb g c r.length g9 cap9 p (bs p.2.toNat)) (i := 3) (v := .bool false) (fun _ => false) rfl (by kernel_rfl) (by kernel_rfl) (by kernel_rfl) (by kernel_rfl) rfl (by kernel_rfl) (fun _ _ _ h => h) (fun j w _ hR => hR) (fun w hS => hS) (.inl ⟨by rfl, fun w hS => ?u3⟩) hS0 ?_
       case u3 =>
        obtain ⟨s1, s2, s3, s4, s5, s6, s7⟩ := hS
        (go_simp; omega)
       try simp only [Act.put, List.getElem_toArray, List.getElem_cons_zero, List.getElem_cons_succ, List.setIfInBounds_toArray, List.set_cons_zero, List.set_cons_succ]
       refine wpAnyR_take (SI2 w1.heap.size w.heap.size pre.length rb g c r.length g9 cap9 p (bs p.2.toNat)) (i := 4) (v := .bool false) (fun _ => false) rfl (by kernel_rfl) (by kernel_rfl) (by kernel_rfl) (by kernel_rfl) rfl (by kernel_rfl) (fun _ _ _ h => h) (fun j w _ hR => hR) (fun w hS => hS) (.inl ⟨by rfl, fun w hS => ?u4⟩) hS0 ?_
       case u4 =>
        obtain ⟨s1, s2, s3, s4, s5, s6, s7⟩ := hS
        go_simp
       try simp only [Act.put, List.getElem_toArray, List.getElem_cons_zero, List.getElem_cons_succ, List.setIfInBounds_toArray, List.set_cons_zero, List.set_cons_succ]
       refine wpAnyR_take (SI2 w1.heap.size w.heap.size pre.length rb g c r.length g9 cap9 p (bs p.2.toNat)) (i := 5) (v := .pointer (some ⟨rb, 0, none⟩)) (fun _ => false) rfl (by kernel_rfl) (by kernel_rfl) (by kernel_rfl) (by kernel_rfl) rfl (by kernel_rfl) (fun _ _ _ h => h) (fun j w _ hR => hR) (fun w hS => hS) (.inl ⟨by rfl, fun w hS => ?u5⟩) hS0 ?_
       case u5 =>
        obtain ⟨s1, s2, s3, s4, s5, s6, s7⟩ := hS
        go_simp
       try simp only [Act.put, List.getElem_toArray, List.getElem_cons_zero, List.getElem_cons_succ, List.setIfInBounds_toArray, List.set_cons_zero, List.set_cons_succ]
       refine wpAnyR_take (SI2 w1.heap.size w.heap.size pre.length rb g c r.length g9 cap9 p (bs p.2.toNat)) (i := 6) (v := .pointer (some ⟨rb, 0, none⟩)) (fun _ => false) rfl (by kernel_rfl) (by kernel_rfl) (by kernel_rfl) (by kernel_rfl) rfl (by kernel_rfl) (fun _ _ _ h => h) (fun j w _ hR => hR) (fun w hS => hS) (.inl ⟨by rfl, fun w hS => ?u6⟩) hS0 ?_
       case u6 =>
        obtain ⟨s1, s2, s3, s4, s5, s6, s7⟩ := hS
        go_simp
       try simp only [Act.put, List.getElem_toArray, List.getElem_cons_zero, List.getElem_cons_succ, List.setIfInBounds_toArray, List.set_cons_zero, List.set_cons_succ]
       refine wpAnyR_take (SI2 w1.heap.size w.heap.size pre.length rb g c r.length g9 cap9 p (bs p.2.toNat)) (i := 7) (v := .pointer (some ⟨rb, 2, none⟩)) (fun _ => false) rfl (by kernel_rfl) (by kernel_rfl) (by kernel_rfl) (by kernel_rfl) rfl (by kernel_rfl) (fun _ _ _ h => h) (fun j w _ hR => hR) (fun w hS => hS) (.inl ⟨by rfl, fun w hS => ?u7⟩) hS0 ?_
       case u7 =>
        obtain ⟨s1, s2, s3, s4, s5, s6, s7⟩ := hS
        go_simp
       try simp only [Act.put, List.getElem_toArray, List.getElem_cons_zero, List.getElem_cons_succ, List.setIfInBounds_toArray, List.set_cons_zero, List.set_cons_succ]
       refine wpAnyR_take (SI2 w1.heap.size w.heap.size pre.length rb g c r.length g9 cap9 p (bs p.2.toNat)) (i := 8) (v := .slice (some ⟨g9, 0, none⟩) r.length cap9) (fun _ => false) rfl (by kernel_rfl) (by kernel_rfl) (by kernel_rfl) (by kernel_rfl) rfl (by kernel_rfl) (fun _ _ _ h => h) (fun j w _ hR => hR) (fun w hS => hS) (.inl ⟨by rfl, fun w hS => ?u8⟩) hS0 ?_
       case u8 =>
        obtain ⟨s1, s2, s3, s4, s5, s6, s7⟩ := hS
        go_simp
       try simp only [Act.put, List.getElem_toArray, List.getElem_cons_zero, List.getElem_cons_succ, List.setIfInBounds_toArray, List.set_cons_zero, List.set_cons_succ]
       refine wpAnyR_take (SI2 w1.heap.size w.heap.size pre.length rb g c r.length g9 cap9 p (bs p.2.toNat)) (i := 9) (v := .int .i64 (pre.length : Int)) (fun _ => false) rfl (by kernel_rfl) (by kernel_rfl) (by kernel_rfl) (by kernel_rfl) rfl (by kernel_rfl) (fun _ _ _ h => h) (fun j w _ hR => hR) (fun w hS => hS) (.inl ⟨by rfl, fun w hS => ?u9⟩) hS0 ?_
       case u9 =>
        obtain ⟨s1, s2, s3, s4, s5, s6, s7⟩ := hS
        go_simp
       try simp only [Act.put, List.getElem_toArray, List.getElem_cons_zero, List.getElem_cons_succ, List.setIfInBounds_toArray, List.set_cons_zero, List.set_cons_succ]
       refine wpAnyR_take (SI2 w1.heap.size w.heap.size pre.length rb g c r.length g9 cap9 p (bs p.2.toNat)) (i := 10) (v := .pointer (some ⟨g9, pre.length * 2, none⟩)) (fun _ => false) rfl (by kernel_rfl) (by kernel_rfl) (by kernel_rfl) (by kernel_rfl) rfl (by kernel_rfl) (fun _ _ _ h => h) (fun j w _ hR => hR) (fun w hS => hS) (.inl ⟨by rfl, fun w hS => ?u10⟩) hS0 ?_
       case u10 =>
        obtain ⟨s1, s2, s3, s4, s5, s6, s7⟩ := hS
        go_simp
       try simp only [Act.put, List.getElem_toArray, List.getElem_cons_zero, List.getElem_cons_succ, List.setIfInBounds_toArray, List.set_cons_zero, List.set_cons_succ]
       refine wpAnyR_take (SI2 w1.heap.size w.heap.size pre.length rb g c r.length g9 cap9 p (bs p.2.toNat)) (i := 11) (v := .pointer (some ⟨g9, pre.length * 2, none⟩)) (fun _ => false) rfl (by kernel_rfl) (by kernel_rfl) (by kernel_rfl) (by kernel_rfl) rfl (by kernel_rfl) (fun _ _ _ h => h) (fun j w _ hR => hR) (fun w hS => hS) (.inl ⟨by rfl, fun w hS => ?u11⟩) hS0 ?_
       case u11 =>
        obtain ⟨s1, s2, s3, s4, s5, s6, s7⟩ := hS
        go_simp
       try simp only [Act.put, List.getElem_toArray, List.getElem_cons_zero, List.getElem_cons_succ, List.setIfInBounds_toArray, List.set_cons_zero, List.set_cons_succ]
       refine wpAnyR_take (SI2 w1.heap.size w.heap.size pre.length rb g c r.length g9 cap9 p (bs p.2.toNat)) (i := 12) (v := .int .i64 p.1) (fun _ => false) rfl (by kernel_rfl) (by kernel_rfl) (by kernel_rfl) (by kernel_rfl) rfl (by kernel_rfl) (fun _ _ _ h => h) (fun j w _ hR => hR) (fun w hS => hS) (.inl ⟨by rfl, fun w hS => ?u12⟩) hS0 ?_
       case u12 =>
        obtain ⟨s1, s2, s3, s4, s5, s6, s7⟩ := hS
        go_simp
       try simp only [Act.put, List.getElem_toArray, List.getElem_cons_zero, List.getElem_cons_succ, List.setIfInBounds_toArray, List.set_cons_zero, List.set_cons_succ]
       refine wpAnyR_take (SI2 w1.heap.size w.heap.size pre.length rb g c r.length g9 cap9 p (bs p.2.toNat)) (i := 13) (v := .int .i64 p.1) (fun _ => false) rfl (by kernel_rfl) (by kernel_rfl) (by kernel_rfl) (by kernel_rfl) rfl (by kernel_rfl) (fun _ _ _ h => h) (fun j w _ hR => hR) (fun w hS => hS) (.inl ⟨by rfl, fun w hS => ?u13⟩) hS0 ?_
       case u13 =>
        obtain ⟨s1, s2, s3, s4, s5, s6, s7⟩ := hS
        go_simp
       try simp only [Act.put, List.getElem_toArray, List.getElem_cons_zero, List.getElem_cons_succ, List.setIfInBounds_toArray, List.set_cons_zero, List.set_cons_succ]
       refine wpAnyR_take (SI2 w1.heap.size w.heap.size pre.length rb g c r.length g9 cap9 p (bs p.2.toNat)) (i := 14) (v := .bool false) (fun _ => false) rfl (by kernel_rfl) (by kernel_rfl) (by kernel_rfl) (by kernel_rfl) rfl (by kernel_rfl) (fun _ _ _ h => h) (fun j w _ hR => hR) (fun w hS => hS) (.inl ⟨by rfl, fun w hS => ?u14⟩) hS0 ?_
       case u14 =>
        obtain ⟨s1, s2, s3, s4, s5, s6, s7⟩ := hS
        go_simp
       try simp only [Act.put, List.getElem_toArray, List.getElem_cons_zero, List.getElem_cons_succ, List.setIfInBounds_toArray, List.set_cons_zero, List.set_cons_succ]
       refine wpAnyR_take (SI2 w1.heap.size w.heap.size pre.length rb g c r.length g9 cap9 p (bs p.2.toNat)) (i := 15) (v := .bool false) (fun _ => false) rfl (by kernel_rfl) (by kernel_rfl) (by kernel_rfl) (by kernel_rfl) rfl (by kernel_rfl) (fun _ _ _ h => h) (fun j w _ hR => hR) (fun w hS => hS) (.inl ⟨by rfl, fun w hS => ?u15⟩) hS0 ?_
       case u15 =>
        obtain ⟨s1, s2, s3, s4, s5, s6, s7⟩ := hS
        go_simp
       try simp only [Act.put, List.getElem_toArray, List.getElem_cons_zero, List.getElem_cons_succ, List.setIfInBounds_toArray, List.set_cons_zero, List.set_cons_succ]
       refine wpAnyR_take (SI2 w1.heap.size w.heap.size pre.length rb g c r.length g9 cap9 p (bs p.2.toNat)) (i := 16) (v := .bool false) (fun _ => false) rfl (by kernel_rfl) (by kernel_rfl) (by kernel_rfl) (by kernel_rfl) rfl (by kernel_rfl) (fun _ _ _ h => h) (fun j w _ hR => hR) (fun w hS => hS) (.inl ⟨by rfl, fun w hS => ?u16⟩) hS0 ?_
       case u16 =>
        obtain ⟨s1, s2, s3, s4, s5, s6, s7⟩ := hS
        go_simp
       try simp only [Act.put, List.getElem_toArray, List.getElem_cons_zero, List.getElem_cons_succ, List.setIfInBounds_toArray, List.set_cons_zero, List.set_cons_succ]
       refine wpAnyR_take (SI2 w1.heap.size w.heap.size pre.length rb g c r.length g9 cap9 p (bs p.2.toNat)) (i := 17) (v := .slice (some ⟨g, 0, none⟩) 6 c) (fun _ => false) rfl (by kernel_rfl) (by kernel_rfl) (by kernel_rfl) (by kernel_rfl) rfl (by kernel_rfl) (fun _ _ _ h => h) (fun j w _ hR => hR) (fun w hS => hS) (.inl ⟨by rfl, fun w hS => ?u17⟩) hS0 ?_
       case u17 =>
        obtain ⟨s1, s2, s3, s4, s5, s6, s7⟩ := hS
        go_simp
       try simp only [Act.put, List.getElem_toArray, List.getElem_cons_zero, List.getElem_cons_succ, List.setIfInBounds_toArray, List.set_cons_zero, List.set_cons_succ]
       refine wpAnyR_take (SI2 w1.heap.size w.heap.size pre.length rb g c r.length g9 cap9 p (bs p.2.toNat)) (i := 18) (v := .pointer (some ⟨rb, 0, none⟩)) (fun _ => false) rfl (by kernel_rfl) (by kernel_rfl) (by kernel_rfl) (by kernel_rfl) rfl (by kernel_rfl) (fun _ _ _ h => h) (fun j w _ hR => hR) (fun w hS => hS) (.inl ⟨by rfl, fun w hS => ?u18⟩) hS0 ?_
       case u18 =>
        obtain ⟨s1, s2, s3, s4, s5, s6, s7⟩ := hS
        go_simp
       try simp only [Act.put, List.getElem_toArray, List.getElem_cons_zero, List.getElem_cons_succ, List.setIfInBounds_toArray, List.set_cons_zero, List.set_cons_succ]
       refine wpAnyR_take (SI2 w1.heap.size w.heap.size pre.length rb g c r.length g9 cap9 p (bs p.2.toNat)) (i := 19) (v := .pointer (some ⟨rb, 0, none⟩)) (fun _ => false) rfl (by kernel_rfl) (by kernel_rfl) (by kernel_rfl) (by kernel_rfl) rfl (by kernel_rfl) (fun _ _ _ h => h) (fun j w _ hR => hR) (fun w hS => hS) (.inl ⟨by rfl, fun w hS => ?u19⟩) hS0 ?_
       case u19 =>
        obtain ⟨s1, s2, s3, s4, s5, s6, s7⟩ := hS
        go_simp
       try simp only [Act.put, List.getElem_toArray, List.getElem_cons_zero, List.getElem_cons_succ, List.setIfInBounds_toArray, List.set_cons_zero, List.set_cons_succ]
       refine wpAnyR_take (SI2 w1.heap.size w.heap.size pre.length rb g c r.length g9 cap9 p (bs p.2.toNat)) (i := 20) (v := .pointer (some ⟨rb, 2, none⟩)) (fun _ => false) rfl (by kernel_rfl) (by kernel_rfl) (by kernel_rfl) (by kernel_rfl) rfl (by kernel_rfl) (fun _ _ _ h => h) (fun j w _ hR => hR) (fun w hS => hS) (.inl ⟨by rfl, fun w hS => ?u20⟩) hS0 ?_
       case u20 =>
        obtain ⟨s1, s2, s3, s4, s5, s6, s7⟩ := hS
        go_simp
       try simp only [Act.put, List.getElem_toArray, List.getElem_cons_zero, List.getElem_cons_succ, List.setIfInBounds_toArray, List.set_cons_zero, List.set_cons_succ]
       refine wpAnyR_take (SI2 w1.heap.size w.heap.size pre.length rb g c r.length g9 cap9 p (bs p.2.toNat)) (i := 21) (v := .slice (some ⟨g9, 0, none⟩) r.length cap9) (fun _ => false) rfl (by kernel_rfl) (by kernel_rfl) (by kernel_rfl) (by kernel_rfl) rfl (by kernel_rfl) (fun _ _ _ h => h) (fun j w _ hR => hR) (fun w hS => hS) (.inl ⟨by rfl, fun w hS => ?u21⟩) hS0 ?_
       case u21 =>
        obtain ⟨s1, s2, s3, s4, s5, s6, s7⟩ := hS
        go_simp
       try simp only [Act.put, List.getElem_toArray, List.getElem_cons_zero, List.getElem_cons_succ, List.setIfInBounds_toArray, List.set_cons_zero, List.set_cons_succ]
       refine wpAnyR_take (SI2 w1.heap.size w.heap.size pre.length rb g c r.length g9 cap9 p (bs p.2.toNat)) (i := 22) (v := .int .i64 (pre.length : Int)) (fun _ => false) rfl (by kernel_rfl) (by kernel_rfl) (by kernel_rfl) (by kernel_rfl) rfl (by kernel_rfl) (fun _ _ _ h => h) (fun j w _ hR => hR) (fun w hS => hS) (.inl ⟨by rfl, fun w hS => ?u22⟩) hS0 ?_
       case u22 =>
        obtain ⟨s1, s2, s3, s4, s5, s6, s7⟩ := hS
        go_simp
       try simp only [Act.put, List.getElem_toArray, List.getElem_cons_zero, List.getElem_cons_succ, List.setIfInBounds_toArray, List.set_cons_zero, List.set_cons_succ]
       refine wpAnyR_take (SI2 w1.heap.size w.heap.size pre.length rb g c r.length g9 cap9 p (bs p.2.toNat)) (i := 23) (v := .pointer (some ⟨g9, pre.length * 2, none⟩)) (fun _ => false) rfl (by kernel_rfl) (by kernel_rfl) (by kernel_rfl) (by kernel_rfl) rfl (by kernel_rfl) (fun _ _ _ h => h) (fun j w _ hR => hR) (fun w hS => hS) (.inl ⟨by rfl, fun w hS => ?u23⟩) hS0 ?_
       case u23 =>
        obtain ⟨s1, s2, s3, s4, s5, s6, s7⟩ := hS
        go_simp
       try simp only [Act.put, List.getElem_toArray, List.getElem_cons_zero, List.getElem_cons_succ, List.setIfInBounds_toArray, List.set_cons_zero, List.set_cons_succ]
       refine wpAnyR_take (SI2 w1.heap.size w.heap.size pre.length rb g c r.length g9 cap9 p (bs p.2.toNat)) (i := 24) (v := .pointer (some ⟨g9, pre.length * 2 + 1, none⟩)) (fun _ => false) rfl (by kernel_rfl) (by kernel_rfl) (by kernel_rfl) (by kernel_rfl) rfl (by kernel_rfl) (fun _ _ _ h => h) (fun j w _ hR => hR) (fun w hS => hS) (.inl ⟨by rfl, fun w hS => ?u24⟩) hS0 ?_
       case u24 =>
        obtain ⟨s1, s2, s3, s4, s5, s6, s7⟩ := hS
        go_simp
       try simp only [Act.put, List.getElem_toArray, List.getElem_cons_zero, List.getElem_cons_succ, List.setIfInBounds_toArray, List.set_cons_zero, List.set_cons_succ]
       refine wpAnyR_take (SI2 w1.heap.size w.heap.size pre.length rb g c r.length g9 cap9 p (bs p.2.toNat)) (i := 25) (v := .int .i64 p.2) (fun _ => false) rfl (by kernel_rfl) (by kernel_rfl) (by kernel_rfl) (by kernel_rfl) rfl (by kernel_rfl) (fun _ _ _ h => h) (fun j w _ hR => hR) (fun w hS => hS) (.inl ⟨by rfl, fun w hS => ?u25⟩) hS0 ?_
       case u25 =>
        obtain ⟨s1, s2, s3, s4, s5, s6, s7⟩ := hS
        go_simp
       try simp only [Act.put, List.getElem_toArray, List.getElem_cons_zero, List.getElem_cons_succ, List.setIfInBounds_toArray, List.set_cons_zero, List.set_cons_succ]
       refine wpAnyR_take (SI2 w1.heap.size w.heap.size pre.length rb g c r.length g9 cap9 p (bs p.2.toNat)) (i := 26) (v := .pointer (some ⟨g, p.2.toNat, none⟩)) (fun _ => false) rfl (by kernel_rfl) (by kernel_rfl) (by kernel_rfl) (by kernel_rfl) rfl (by kernel_rfl) (fun _ _ _ h => h) (fun j w _ hR => hR) (fun w hS => hS) (.inl ⟨by rfl, fun w hS => ?u26⟩) hS0 ?_
       case u26 =>
        obtain ⟨s1, s2, s3, s4, s5, s6, s7⟩ := hS
        go_simp
       try simp only [Act.put, List.getElem_toArray, List.getElem_cons_zero, List.getElem_cons_succ, List.setIfInBounds_toArray, List.set_cons_zero, List.set_cons_succ]
       refine wpAnyR_take (SI2 w1.heap.size w.heap.size pre.length rb g c r.length g9 cap9 p (bs p.2.toNat)) (i := 27) (v := .pointer (some ⟨bs p.2.toNat, 0, none⟩)) (fun _ => false) rfl (by kernel_rfl) (by kernel_rfl) (by kernel_rfl) (by kernel_rfl) rfl (by kernel_rfl) (fun _ _ _ h => h) (fun j w _ hR => hR) (fun w hS => hS) (.inl ⟨by rfl, fun w hS => ?u27⟩) hS0 ?_
       case u27 =>
        obtain ⟨s1, s2, s3, s4, s5, s6, s7⟩ := hS
        go_simp
       try simp only [Act.put, List.getElem_toArray, List.getElem_cons_zero, List.getElem_cons_succ, List.setIfInBounds_toArray, List.set_cons_zero, List.set_cons_succ]
       refine wpAnyR_take (SI2 w1.heap.size w.heap.size pre.length rb g c r.length g9 cap9 p (bs p.2.toNat)) (i := 28) (v := .pointer (some ⟨bs p.2.toNat, 0, none⟩)) (fun _ => false) rfl (by kernel_rfl) (by kernel_rfl) (by kernel_rfl) (by kernel_rfl) rfl (by kernel_rfl) (fun _ _ _ h => h) (fun j w _ hR => hR) (fun w hS => hS) (.inl ⟨by rfl, fun w hS => ?u28⟩) hS0 ?_
       case u28 =>
        obtain ⟨s1, s2, s3, s4, s5, s6, s7⟩ := hS
        go_simp
       try simp only [Act.put, List.getElem_toArray, List.getElem_cons_zero, List.getElem_cons_succ, List.setIfInBounds_toArray, List.set_cons_zero, List.set_cons_succ]
       refine wpAnyR_take (SI2 w1.heap.size w.heap.size pre.length rb g c r.length g9 cap9 p (bs p.2.toNat)) (i := 29) (v := .bool false) (fun _ => false) rfl (by kernel_rfl) (by kernel_rfl) (by kernel_rfl) (by kernel_rfl) rfl (by kernel_rfl) (fun _ _ _ h => h) (fun j w _ hR => hR) (fun w hS => hS) (.inl ⟨by rfl, fun w hS => ?u29⟩) hS0 ?_
       case u29 =>
        obtain ⟨s1, s2, s3, s4, s5, s6, s7⟩ := hS
        go_simp
       try simp only [Act.put, List.getElem_toArray, List.getElem_cons_zero, List.getElem_cons_succ, List.setIfInBounds_toArray, List.set_cons_zero, List.set_cons_succ]
       refine wpAnyR_take (SI2 w1.heap.size w.heap.size pre.length rb g c r.length g9 cap9 p (bs p.2.toNat)) (i := 30) (v := .bool false) (fun _ => false) rfl (by kernel_rfl) (by kernel_rfl) (by kernel_rfl) (by kernel_rfl) rfl (by kernel_rfl) (fun _ _ _ h => h) (fun j w _ hR => hR) (fun w hS => hS) (.inl ⟨by rfl, fun w hS => ?u30⟩) hS0 ?_
       case u30 =>
        obtain ⟨s1, s2, s3, s4, s5, s6, s7⟩ := hS
        go_simp
       try simp only [Act.put, List.getElem_toArray, List.getElem_cons_zero, List.getElem_cons_succ, List.setIfInBounds_toArray, List.set_cons_zero, List.set_cons_succ]
       refine wpAnyR_done (by kernel_rfl) ?_
       show K0 _ _
       refine hK0 _ _ ?_
       try simp only [Act.put, List.getElem_toArray, List.getElem_cons_zero, List.getElem_cons_succ, List.setIfInBounds_toArray, List.set_cons_zero, List.set_cons_succ]
       gi_wp2
       have h9 := HE.out
       simp only [World.setCell_drew] at h9
       have hw9 : wrap64 ((pre.length : Int) + 1) = (pre.length : Int) + 1 := by unfold wrap64; omega
       try rw [hw9]
       first | exact h9 | (rw [hs2]; exact h9)
     ·have hne := take_not hx
      have hkn : p.1 ≠ kth l x.1 := fun e => by
       rw [← hkp] at e
       have hi := itW.at_.inc
       have e1 := keys_length l
       rcases Nat.lt_or_gt_of_ne hx with h | h
       ·have := kth_lt hi h (by rw [e1]; exact hlt2); omega
       ·have := kth_lt hi h (by rw [e1]; exact x.2); omega
      have hkn' : (p.1 != kth l x.1) = true := by simpa using hkn
      have HN := Lib.hid hne
      clear hne hI itW hkp hatp hA2 hb2 hn2 hBl2 hlt2 hpr hx
      generalize kth l x.1 = kx at hkn hkn'
      generalize at? kx l = vx
      gi_wp2
      rename_i K0 hK0
      refine wpIn_mono (Q := fun e a' w' => match e with | .normal => K0 a' w' | _ => False) ?_ (by intro e a' w' hm; cases e with | normal => exact hm | _ => exact hm.elim)
      refine wpIn_region_R (R := fun _ => (SI2 w1.heap.size w.heap.size pre.length rb g c r.length g9 cap9 p (bs p.2.toNat))) (by kernel_rfl) (by kernel_rfl) (by rintro ⟨a', w', h⟩; exact h) ?_
      change wpAnyR Tryz.prog .any _ _ _ 31 (Array.replicate 31 false) _ _
      have hS0 : (SI2 w1.heap.size w.heap.size pre.length rb g c r.length g9 cap9 p (bs p.2.toNat)) W.drew := (show _ ∧ _ from ⟨cn, cr, cl, c2, k0, k1, q⟩)
      try simp only [Act.put, List.getElem_toArray, List.getElem_cons_zero, List.getElem_cons_succ, List.setIfInBounds_toArray, List.set_cons_zero, List.set_cons_succ]
      refine wpAnyR_take (SI2 w1.heap.size w.heap.size pre.length rb g c r.length g9 cap9 p (bs p.2.toNat)) (i := 0) (v := .int .i64 (pre.length : Int)) (fun _ => false) rfl (by kernel_rfl) (by kernel_rfl) (by kernel_rfl) (by kernel_rfl) rfl (by kernel_rfl) (fun _ _ _ h => h) (fun j w _ hR => hR) (fun w hS => hS) (.inl ⟨by rfl, fun w hS => ?z0⟩) hS0 ?_
      case z0 =>
       obtain ⟨s1, s2, s3, s4, s5, s6, s7⟩ := hS
       go_simp
      try simp only [Act.put, List.getElem_toArray, List.getElem_cons_zero, List.getElem_cons_succ, List.setIfInBounds_toArray, List.set_cons_zero, List.set_cons_succ]
      refine wpAnyR_take (SI2 w1.heap.size w.heap.size pre.length rb g c r.length g9 cap9 p (bs p.2.toNat)) (i := 1) (v := .pointer (some ⟨rb, 0, none⟩)) (fun _ => false) rfl (by kernel_rfl) (by kernel_rfl) (by kernel_rfl) (by kernel_rfl) rfl (by kernel_rfl) (fun _ _ _ h => h) (fun j w _ hR => hR) (fun w hS => hS) (.inl ⟨by rfl, fun w hS => ?z1⟩) hS0 ?_
      case z1 =>
       obtain ⟨s1, s2, s3, s4, s5, s6, s7⟩ := hS
       go_simp
      try simp only [Act.put, List.getElem_toArray, List.getElem_cons_zero, List.getElem_cons_succ, List.setIfInBounds_toArray, List.set_cons_zero, List.set_cons_succ]
      refine wpAnyR_ready (rs := [2]) (by kernel_rfl) (by simp) ?_
      refine AllR.call rfl (by rfl) (f := 39) (args := #[.pointer (some ⟨rb, 0, none⟩)]) (w1 := W.drew) ?z2 hlenr ?zc2 AllR.nil
      case z2 => go_simp
      case zc2 =>
       rintro e w9 ⟨rfl, rfl⟩
       refine ⟨_, rfl, hS0, ?_⟩
       try simp only [Act.put, List.getElem_toArray, List.getElem_cons_zero, List.getElem_cons_succ, List.setIfInBounds_toArray, List.set_cons_zero, List.set_cons_succ]
       refine wpAnyR_take (SI2 w1.heap.size w.heap.size pre.length rb g c r.length g9 cap9 p (bs p.2.toNat)) (i := 3) (v := .bool false) (fun _ => false) rfl (by kernel_rfl) (by kernel_rfl) (by kernel_rfl) (by kernel_rfl) rfl (by kernel_rfl) (fun _ _ _ h => h) (fun j w _ hR => hR) (fun w hS => hS) (.inl ⟨by rfl, fun w hS => ?z3⟩) hS0 ?_
       case z3 =>
        obtain ⟨s1, s2, s3, s4, s5, s6, s7⟩ := hS
        (go_simp; omega)
       try simp only [Act.put, List.getElem_toArray, List.getElem_cons_zero, List.getElem_cons_succ, List.setIfInBounds_toArray, List.set_cons_zero, List.set_cons_succ]
       refine wpAnyR_take (SI2 w1.heap.size w.heap.size pre.length rb g c r.length g9 cap9 p (bs p.2.toNat)) (i := 4) (v := .bool false) (fun _ => false) rfl (by kernel_rfl) (by kernel_rfl) (by kernel_rfl) (by kernel_rfl) rfl (by kernel_rfl) (fun _ _ _ h => h) (fun j w _ hR => hR) (fun w hS => hS) (.inl ⟨by rfl, fun w hS => ?z4⟩) hS0 ?_
       case z4 =>
        obtain ⟨s1, s2, s3, s4, s5, s6, s7⟩ := hS
        go_simp
       try simp only [Act.put, List.getElem_toArray, List.getElem_cons_zero, List.getElem_cons_succ, List.setIfInBounds_toArray, List.set_cons_zero, List.set_cons_succ]
       refine wpAnyR_take (SI2 w1.heap.size w.heap.size pre.length rb g c r.length g9 cap9 p (bs p.2.toNat)) (i := 5) (v := .pointer (some ⟨rb, 0, none⟩)) (fun _ => false) rfl (by kernel_rfl) (by kernel_rfl) (by kernel_rfl) (by kernel_rfl) rfl (by kernel_rfl) (fun _ _ _ h => h) (fun j w _ hR => hR) (fun w hS => hS) (.inl ⟨by rfl, fun w hS => ?z5⟩) hS0 ?_
       case z5 =>
        obtain ⟨s1, s2, s3, s4, s5, s6, s7⟩ := hS
        go_simp
       try simp only [Act.put, List.getElem_toArray, List.getElem_cons_zero, List.getElem_cons_succ, List.setIfInBounds_toArray, List.set_cons_zero, List.set_cons_succ]
       refine wpAnyR_take (SI2 w1.heap.size w.heap.size pre.length rb g c r.length g9 cap9 p (bs p.2.toNat)) (i := 6) (v := .pointer (some ⟨rb, 0, none⟩)) (fun _ => false) rfl (by kernel_rfl) (by kernel_rfl) (by kernel_rfl) (by kernel_rfl) rfl (by kernel_rfl) (fun _ _ _ h => h) (fun j w _ hR => hR) (fun w hS => hS) (.inl ⟨by rfl, fun w hS => ?z6⟩) hS0 ?_
       case z6 =>
        obtain ⟨s1, s2, s3, s4, s5, s6, s7⟩ := hS
        go_simp
       try simp only [Act.put, List.getElem_toArray, List.getElem_cons_zero, List.getElem_cons_succ, List.setIfInBounds_toArray, List.set_cons_zero, List.set_cons_succ]
       refine wpAnyR_take (SI2 w1.heap.size w.heap.size pre.length rb g c r.length g9 cap9 p (bs p.2.toNat)) (i := 7) (v := .pointer (some ⟨rb, 2, none⟩)) (fun _ => false) rfl (by kernel_rfl) (by kernel_rfl) (by kernel_rfl) (by kernel_rfl) rfl (by kernel_rfl) (fun _ _ _ h => h) (fun j w _ hR => hR) (fun w hS => hS) (.inl ⟨by rfl, fun w hS => ?z7⟩) hS0 ?_
       case z7 =>
        obtain ⟨s1, s2, s3, s4, s5, s6, s7⟩ := hS
        go_simp
       try simp only [Act.put, List.getElem_toArray, List.getElem_cons_zero, List.getElem_cons_succ, List.setIfInBounds_toArray, List.set_cons_zero, List.set_cons_succ]
       refine wpAnyR_take (SI2 w1.heap.size w.heap.size pre.length rb g c r.length g9 cap9 p (bs p.2.toNat)) (i := 8) (v := .slice (some ⟨g9, 0, none⟩) r.length cap9) (fun _ => false) rfl (by kernel_rfl) (by kernel_rfl) (by kernel_rfl) (by kernel_rfl) rfl (by kernel_rfl) (fun _ _ _ h => h) (fun j w _ hR => hR) (fun w hS => hS) (.inl ⟨by rfl, fun w hS => ?z8⟩) hS0 ?_
       case z8 =>
        obtain ⟨s1, s2, s3, s4, s5, s6, s7⟩ := hS
        go_simp
       try simp only [Act.put, List.getElem_toArray, List.getElem_cons_zero, List.getElem_cons_succ, List.setIfInBounds_toArray, List.set_cons_zero, List.set_cons_succ]
       refine wpAnyR_take (SI2 w1.heap.size w.heap.size pre.length rb g c r.length g9 cap9 p (bs p.2.toNat)) (i := 9) (v := .int .i64 (pre.length : Int)) (fun _ => false) rfl (by kernel_rfl) (by kernel_rfl) (by kernel_rfl) (by kernel_rfl) rfl (by kernel_rfl) (fun _ _ _ h => h) (fun j w _ hR => hR) (fun w hS => hS) (.inl ⟨by rfl, fun w hS => ?z9⟩) hS0 ?_
       case z9 =>
        obtain ⟨s1, s2, s3, s4, s5, s6, s7⟩ := hS
        go_simp
       try simp only [Act.put, List.getElem_toArray, List.getElem_cons_zero, List.getElem_cons_succ, List.setIfInBounds_toArray, List.set_cons_zero, List.set_cons_succ]
       refine wpAnyR_take (SI2 w1.heap.size w.heap.size pre.length rb g c r.length g9 cap9 p (bs p.2.toNat)) (i := 10) (v := .pointer (some ⟨g9, pre.length * 2, none⟩)) (fun _ => false) rfl (by kernel_rfl) (by kernel_rfl) (by kernel_rfl) (by kernel_rfl) rfl (by kernel_rfl) (fun _ _ _ h => h) (fun j w _ hR => hR) (fun w hS => hS) (.inl ⟨by rfl, fun w hS => ?z10⟩) hS0 ?_
       case z10 =>
        obtain ⟨s1, s2, s3, s4, s5, s6, s7⟩ := hS
        go_simp
       try simp only [Act.put, List.getElem_toArray, List.getElem_cons_zero, List.getElem_cons_succ, List.setIfInBounds_toArray, List.set_cons_zero, List.set_cons_succ]
       refine wpAnyR_take (SI2 w1.heap.size w.heap.size pre.length rb g c r.length g9 cap9 p (bs p.2.toNat)) (i := 11) (v := .pointer (some ⟨g9, pre.length * 2, none⟩)) (fun _ => false) rfl (by kernel_rfl) (by kernel_rfl) (by kernel_rfl) (by kernel_rfl) rfl (by kernel_rfl) (fun _ _ _ h => h) (fun j w _ hR => hR) (fun w hS => hS) (.inl ⟨by rfl, fun w hS => ?z11⟩) hS0 ?_
       case z11 =>
        obtain ⟨s1, s2, s3, s4, s5, s6, s7⟩ := hS
        go_simp
       try simp only [Act.put, List.getElem_toArray, List.getElem_cons_zero, List.getElem_cons_succ, List.setIfInBounds_toArray, List.set_cons_zero, List.set_cons_succ]
       refine wpAnyR_take (SI2 w1.heap.size w.heap.size pre.length rb g c r.length g9 cap9 p (bs p.2.toNat)) (i := 12) (v := .int .i64 p.1) (fun _ => false) rfl (by kernel_rfl) (by kernel_rfl) (by kernel_rfl) (by kernel_rfl) rfl (by kernel_rfl) (fun _ _ _ h => h) (fun j w _ hR => hR) (fun w hS => hS) (.inl ⟨by rfl, fun w hS => ?z12⟩) hS0 ?_
       case z12 =>
        obtain ⟨s1, s2, s3, s4, s5, s6, s7⟩ := hS
        go_simp
       try simp only [Act.put, List.getElem_toArray, List.getElem_cons_zero, List.getElem_cons_succ, List.setIfInBounds_toArray, List.set_cons_zero, List.set_cons_succ]
       refine wpAnyR_take (SI2 w1.heap.size w.heap.size pre.length rb g c r.length g9 cap9 p (bs p.2.toNat)) (i := 13) (v := .int .i64 kx) (fun _ => false) rfl (by kernel_rfl) (by kernel_rfl) (by kernel_rfl) (by kernel_rfl) rfl (by kernel_rfl) (fun _ _ _ h => h) (fun j w _ hR => hR) (fun w hS => hS) (.inl ⟨by rfl, fun w hS => ?z13⟩) hS0 ?_
       case z13 =>
        obtain ⟨s1, s2, s3, s4, s5, s6, s7⟩ := hS
        go_simp
       try simp only [Act.put, List.getElem_toArray, List.getElem_cons_zero, List.getElem_cons_succ, List.setIfInBounds_toArray, List.set_cons_zero, List.set_cons_succ]
       refine wpAnyR_take (SI2 w1.heap.size w.heap.size pre.length rb g c r.length g9 cap9 p (bs p.2.toNat)) (i := 14) (v := .bool true) (fun _ => false) rfl (by kernel_rfl) (by kernel_rfl) (by kernel_rfl) (by kernel_rfl) rfl (by kernel_rfl) (fun _ _ _ h => h) (fun j w _ hR => hR) (fun w hS => hS) (.inl ⟨by rfl, fun w hS => ?z14⟩) hS0 ?_
       case z14 =>
        obtain ⟨s1, s2, s3, s4, s5, s6, s7⟩ := hS
        go_simp
       try simp only [Act.put, List.getElem_toArray, List.getElem_cons_zero, List.getElem_cons_succ, List.setIfInBounds_toArray, List.set_cons_zero, List.set_cons_succ]
       refine wpAnyR_take (SI2 w1.heap.size w.heap.size pre.length rb g c r.length g9 cap9 p (bs p.2.toNat)) (i := 15) (v := .bool true) (fun _ => false) rfl (by kernel_rfl) (by kernel_rfl) (by kernel_rfl) (by kernel_rfl) rfl (by kernel_rfl) (fun _ _ _ h => h) (fun j w _ hR => hR) (fun w hS => hS) (.inl ⟨by rfl, fun w hS => ?z15⟩) hS0 ?_
       case z15 =>
        obtain ⟨s1, s2, s3, s4, s5, s6, s7⟩ := hS
        go_simp
       try simp only [Act.put, List.getElem_toArray, List.getElem_cons_zero, List.getElem_cons_succ, List.setIfInBounds_toArray, List.set_cons_zero, List.set_cons_succ]
       refine wpAnyR_take (SI2 w1.heap.size w.heap.size pre.length rb g c r.length g9 cap9 p (bs p.2.toNat)) (i := 16) (v := .bool true) (fun _ => false) rfl (by kernel_rfl) (by kernel_rfl) (by kernel_rfl) (by kernel_rfl) rfl (by kernel_rfl) (fun _ _ _ h => h) (fun j w _ hR => hR) (fun w hS => hS) (.inl ⟨by rfl, fun w hS => ?z16⟩) hS0 ?_
       case z16 =>
        obtain ⟨s1, s2, s3, s4, s5, s6, s7⟩ := hS
        go_simp
       try simp only [Act.put, List.getElem_toArray, List.getElem_cons_zero, List.getElem_cons_succ, List.setIfInBounds_toArray, List.set_cons_zero, List.set_cons_succ]
       refine wpAnyR_take (SI2 w1.heap.size w.heap.size pre.length rb g c r.length g9 cap9 p (bs p.2.toNat)) (i := 17) (v := undef) (fun _ => false) rfl (by kernel_rfl) (by kernel_rfl) (by kernel_rfl) (by kernel_rfl) rfl (by kernel_rfl) (fun _ _ _ h => h) (fun j w _ hR => hR) (fun w hS => hS) (.inr ⟨by rfl, rfl⟩) hS0 ?_
       try simp only [Act.put, List.getElem_toArray, List.getElem_cons_zero, List.getElem_cons_succ, List.setIfInBounds_toArray, List.set_cons_zero, List.set_cons_succ]
       refine wpAnyR_take (SI2 w1.heap.size w.heap.size pre.length rb g c r.length g9 cap9 p (bs p.2.toNat)) (i := 18) (v := undef) (fun _ => false) rfl (by kernel_rfl) (by kernel_rfl) (by kernel_rfl) (by kernel_rfl) rfl (by kernel_rfl) (fun _ _ _ h => h) (fun j w _ hR => hR) (fun w hS => hS) (.inr ⟨by rfl, rfl⟩) hS0 ?_
       try simp only [Act.put, List.getElem_toArray, List.getElem_cons_zero, List.getElem_cons_succ, List.setIfInBounds_toArray, List.set_cons_zero, List.set_cons_succ]
       refine wpAnyR_take (SI2 w1.heap.size w.heap.size pre.length rb g c r.length g9 cap9 p (bs p.2.toNat)) (i := 19) (v := undef) (fun _ => false) rfl (by kernel_rfl) (by kernel_rfl) (by kernel_rfl) (by kernel_rfl) rfl (by kernel_rfl) (fun _ _ _ h => h) (fun j w _ hR => hR) (fun w hS => hS) (.inr ⟨by rfl, rfl⟩) hS0 ?_
       try simp only [Act.put, List.getElem_toArray, List.getElem_cons_zero, List.getElem_cons_succ, List.setIfInBounds_toArray, List.set_cons_zero, List.set_cons_succ]
       refine wpAnyR_take (SI2 w1.heap.size w.heap.size pre.length rb g c r.length g9 cap9 p (bs p.2.toNat)) (i := 20) (v := undef) (fun _ => false) rfl (by kernel_rfl) (by kernel_rfl) (by kernel_rfl) (by kernel_rfl) rfl (by kernel_rfl) (fun _ _ _ h => h) (fun j w _ hR => hR) (fun w hS => hS) (.inr ⟨by rfl, rfl⟩) hS0 ?_
       try simp only [Act.put, List.getElem_toArray, List.getElem_cons_zero, List.getElem_cons_succ, List.setIfInBounds_toArray, List.set_cons_zero, List.set_cons_succ]
       refine wpAnyR_take (SI2 w1.heap.size w.heap.size pre.length rb g c r.length g9 cap9 p (bs p.2.toNat)) (i := 21) (v := undef) (fun _ => false) rfl (by kernel_rfl) (by kernel_rfl) (by kernel_rfl) (by kernel_rfl) rfl (by kernel_rfl) (fun _ _ _ h => h) (fun j w _ hR => hR) (fun w hS => hS) (.inr ⟨by rfl, rfl⟩) hS0 ?_
       try simp only [Act.put, List.getElem_toArray, List.getElem_cons_zero, List.getElem_cons_succ, List.setIfInBounds_toArray, List.set_cons_zero, List.set_cons_succ]
       refine wpAnyR_take (SI2 w1.heap.size w.heap.size pre.length rb g c r.length g9 cap9 p (bs p.2.toNat)) (i := 22) (v := undef) (fun _ => false) rfl (by kernel_rfl) (by kernel_rfl) (by kernel_rfl) (by kernel_rfl) rfl (by kernel_rfl) (fun _ _ _ h => h) (fun j w _ hR => hR) (fun w hS => hS) (.inr ⟨by rfl, rfl⟩) hS0 ?_
       try simp only [Act.put, List.getElem_toArray, List.getElem_cons_zero, List.getElem_cons_succ, List.setIfInBounds_toArray, List.set_cons_zero, List.set_cons_succ]
       refine wpAnyR_take (SI2 w1.heap.size w.heap.size pre.length rb g c r.length g9 cap9 p (bs p.2.toNat)) (i := 23) (v := undef) (fun _ => false) rfl (by kernel_rfl) (by kernel_rfl) (by kernel_rfl) (by kernel_rfl) rfl (by kernel_rfl) (fun _ _ _ h => h) (fun j w _ hR => hR) (fun w hS => hS) (.inr ⟨by rfl, rfl⟩) hS0 ?_
       try simp only [Act.put, List.getElem_toArray, List.getElem_cons_zero, List.getElem_cons_succ, List.setIfInBounds_toArray, List.set_cons_zero, List.set_cons_succ]
       refine wpAnyR_take (SI2 w1.heap.size w.heap.size pre.length rb g c r.length g9 cap9 p (bs p.2.toNat)) (i := 24) (v := undef) (fun _ => false) rfl (by kernel_rfl) (by kernel_rfl) (by kernel_rfl) (by kernel_rfl) rfl (by kernel_rfl) (fun _ _ _ h => h) (fun j w _ hR => hR) (fun w hS => hS) (.inr ⟨by rfl, rfl⟩) hS0 ?_
       try simp only [Act.put, List.getElem_toArray, List.getElem_cons_zero, List.getElem_cons_succ, List.setIfInBounds_toArray, List.set_cons_zero, List.set_cons_succ]
       refine wpAnyR_take (SI2 w1.heap.size w.heap.size pre.length rb g c r.length g9 cap9 p (bs p.2.toNat)) (i := 25) (v := undef) (fun _ => false) rfl (by kernel_rfl) (by kernel_rfl) (by kernel_rfl) (by kernel_rfl) rfl (by kernel_rfl) (fun _ _ _ h => h) (fun j w _ hR => hR) (fun w hS => hS) (.inr ⟨by rfl, rfl⟩) hS0 ?_
       try simp only [Act.put, List.getElem_toArray, List.getElem_cons_zero, List.getElem_cons_succ, List.setIfInBounds_toArray, List.set_cons_zero, List.set_cons_succ]
       refine wpAnyR_take (SI2 w1.heap.size w.heap.size pre.length rb g c r.length g9 cap9 p (bs p.2.toNat)) (i := 26) (v := undef) (fun _ => false) rfl (by kernel_rfl) (by kernel_rfl) (by kernel_rfl) (by kernel_rfl) rfl (by kernel_rfl) (fun _ _ _ h => h) (fun j w _ hR => hR) (fun w hS => hS) (.inr ⟨by rfl, rfl⟩) hS0 ?_
       try simp only [Act.put, List.getElem_toArray, List.getElem_cons_zero, List.getElem_cons_succ, List.setIfInBounds_toArray, List.set_cons_zero, List.set_cons_succ]
       refine wpAnyR_take (SI2 w1.heap.size w.heap.size pre.length rb g c r.length g9 cap9 p (bs p.2.toNat)) (i := 27) (v := undef) (fun _ => false) rfl (by kernel_rfl) (by kernel_rfl) (by kernel_rfl) (by kernel_rfl) rfl (by kernel_rfl) (fun _ _ _ h => h) (fun j w _ hR => hR) (fun w hS => hS) (.inr ⟨by rfl, rfl⟩) hS0 ?_
       try simp only [Act.put, List.getElem_toArray, List.getElem_cons_zero, List.getElem_cons_succ, List.setIfInBounds_toArray, List.set_cons_zero, List.set_cons_succ]
       refine wpAnyR_take (SI2 w1.heap.size w.heap.size pre.length rb g c r.length g9 cap9 p (bs p.2.toNat)) (i := 28) (v := undef) (fun _ => false) rfl (by kernel_rfl) (by kernel_rfl) (by kernel_rfl) (by kernel_rfl) rfl (by kernel_rfl) (fun _ _ _ h => h) (fun j w _ hR => hR) (fun w hS => hS) (.inr ⟨by rfl, rfl⟩) hS0 ?_
       try simp only [Act.put, List.getElem_toArray, List.getElem_cons_zero, List.getElem_cons_succ, List.setIfInBounds_toArray, List.set_cons_zero, List.set_cons_succ]
       refine wpAnyR_take (SI2 w1.heap.size w.heap.size pre.length rb g c r.length g9 cap9 p (bs p.2.toNat)) (i := 29) (v := undef) (fun _ => false) rfl (by kernel_rfl) (by kernel_rfl) (by kernel_rfl) (by kernel_rfl) rfl (by kernel_rfl) (fun _ _ _ h => h) (fun j w _ hR => hR) (fun w hS => hS) (.inr ⟨by rfl, rfl⟩) hS0 ?_
       try simp only [Act.put, List.getElem_toArray, List.getElem_cons_zero, List.getElem_cons_succ, List.setIfInBounds_toArray, List.set_cons_zero, List.set_cons_succ]
       refine wpAnyR_take (SI2 w1.heap.size w.heap.size pre.length rb g c r.length g9 cap9 p (bs p.2.toNat)) (i := 30) (v := .bool true) (fun _ => false) rfl (by kernel_rfl) (by kernel_rfl) (by kernel_rfl) (by kernel_rfl) rfl (by kernel_rfl) (fun _ _ _ h => h) (fun j w _ hR => hR) (fun w hS => hS) (.inl ⟨by rfl, fun w hS => ?z30⟩) hS0 ?_
       case z30 =>
        obtain ⟨s1, s2, s3, s4, s5, s6, s7⟩ := hS
        go_simp
       try simp only [Act.put, List.getElem_toArray, List.getElem_cons_zero, List.getElem_cons_succ, List.setIfInBounds_toArray, List.set_cons_zero, List.set_cons_succ]
       refine wpAnyR_done (by kernel_rfl) ?_
       show K0 _ _
       refine hK0 _ _ ?_
       try simp only [Act.put, List.getElem_toArray, List.getElem_cons_zero, List.getElem_cons_succ, List.setIfInBounds_toArray, List.set_cons_zero, List.set_cons_succ]
       gi_wp2
       exact ⟨(KeepsFrom.of_grownBy (below_grown (Below.refl _ W).drew none) (fun j e => by cases e)).trans ((KeepsOthers.setCell W.drew _ _).from _), HN.out⟩
   case done =>
    intro D W hD hI hK
    rw [I2, List.length_finRange] at hI
    obtain ⟨hpre, hn3, hBW⟩ := hI
    clear hpre
    have itW := (it1.belowW hBW).belowW (Below.refl _ W).drew
    have cn : W.drew.cell? ⟨w1.heap.size, 0, none⟩ = some (.int .i64 (l.length : Int)) := hn3.cell
    have cr := itW.rbx.cell
    have cres := itW.res.cell
    have fres := itW.res.frozen
    have hlenr := hrl _ itW
    have hK' := (KeepsOthers.setCell W.drew ⟨w.heap.size + 1 + 1, 0, none⟩ (.bool true)).same D _ (show W.drew.heap[D]? = _ from hK) rfl
    have hput := grownBy_putObj' (W.drew.setCell ⟨w.heap.size + 1 + 1, 0, none⟩ (.bool true)) D (.deferred none)
    have g6 := (Boxed.kept (itW.res.set (.bool true)) hput (fun e => by have := Option.some.inj e; omega)).cell
    have hfin := (itW.below.setCell (p := ⟨w.heap.size + 1 + 1, 0, none⟩) (by show w.heap.size ≤ w.heap.size + 1 + 1; omega) (.bool true)).trans (belowK_b (w := w) (Nat.le_refl _) _ D _ (.deferred none) (by omega) hK' rfl rfl)
    have HF := Lib.hid hfin
    have HG := Lib.hid g6
    have HD := Lib.hid hK'
    clear hfin g6 hK' hput hK itW hA2 hb2 hn2 hBl2 it1
    gi_wp2
    rename_i K0 hK0
    refine wpIn_mono (Q := fun e a' w' => match e with | .normal => K0 a' w' | _ => False) ?_ (by intro e a' w' hm; cases e with | normal => exact hm | _ => exact hm.elim)
    refine wpIn_wide.2 (wp_region_R (R := fun j => fun W' => j < 4 → (fun W' : World => W'.cell? ⟨w1.heap.size, 0, none⟩ = some (.int .i64 (l.length : Int)) ∧ W'.cell? ⟨w.heap.size, 0, none⟩ = some (.pointer (some ⟨rb, 0, none⟩))) W') (by kernel_rfl) ?_)
    change wpAnyR Tryz.prog .any _ _ _ 5 (Array.replicate 5 false) _ _
    have hS0 : (fun W' : World => W'.cell? ⟨w1.heap.size, 0, none⟩ = some (.int .i64 (l.length : Int)) ∧ W'.cell? ⟨w.heap.size, 0, none⟩ = some (.pointer (some ⟨rb, 0, none⟩))) W.drew := ⟨cn, cr⟩
    try simp only [Act.put, List.getElem_toArray, List.getElem_cons_zero, List.getElem_cons_succ, List.setIfInBounds_toArray, List.set_cons_zero, List.set_cons_succ]
    refine wpAnyR_take (fun W' : World => W'.cell? ⟨w1.heap.size, 0, none⟩ = some (.int .i64 (l.length : Int)) ∧ W'.cell? ⟨w.heap.size, 0, none⟩ = some (.pointer (some ⟨rb, 0, none⟩))) (i := 0) (v := .int .i64 (l.length : Int)) (fun j => decide (4 ≤ j)) rfl (by kernel_rfl) (by kernel_rfl) (by kernel_rfl) (by kernel_rfl) rfl (by kernel_rfl) (fun _ _ _ h => h) (fun j w hb hR => hR (blk_lt hb (by omega))) (fun w hS _ => hS) (.inl ⟨by rfl, fun w hS => ?e0⟩) hS0 ?_
    case e0 =>
     obtain ⟨s1, s2⟩ := hS
     go_simp
    try simp only [Act.put, List.getElem_toArray, List.getElem_cons_zero, List.getElem_cons_succ, List.setIfInBounds_toArray, List.set_cons_zero, List.set_cons_succ]
    refine wpAnyR_take (fun W' : World => W'.cell? ⟨w1.heap.size, 0, none⟩ = some (.int .i64 (l.length : Int)) ∧ W'.cell? ⟨w.heap.size, 0, none⟩ = some (.pointer (some ⟨rb, 0, none⟩))) (i := 1) (v := .pointer (some ⟨rb, 0, none⟩)) (fun j => decide (4 ≤ j)) rfl (by kernel_rfl) (by kernel_rfl) (by kernel_rfl) (by kernel_rfl) rfl (by kernel_rfl) (fun _ _ _ h => h) (fun j w hb hR => hR (blk_lt hb (by omega))) (fun w hS _ => hS) (.inl ⟨by rfl, fun w hS => ?e1⟩) hS0 ?_
    case e1 =>
     obtain ⟨s1, s2⟩ := hS
     go_simp
    try simp only [Act.put, List.getElem_toArray, List.getElem_cons_zero, List.getElem_cons_succ, List.setIfInBounds_toArray, List.set_cons_zero, List.set_cons_succ]
    refine wpAnyR_ready (rs := [2]) (by kernel_rfl) (by simp) ?_
    refine AllR.call rfl (by rfl) (f := 39) (args := #[.pointer (some ⟨rb, 0, none⟩)]) (w1 := W.drew) ?e2 hlenr ?ec2 AllR.nil
    case e2 => go_simp
    case ec2 =>
     rintro e w9 ⟨rfl, rfl⟩
     refine ⟨_, rfl, fun _ => hS0, ?_⟩
     try simp only [Act.put, List.getElem_toArray, List.getElem_cons_zero, List.getElem_cons_succ, List.setIfInBounds_toArray, List.set_cons_zero, List.set_cons_succ]
     refine wpAnyR_take (fun W' : World => W'.cell? ⟨w1.heap.size, 0, none⟩ = some (.int .i64 (l.length : Int)) ∧ W'.cell? ⟨w.heap.size, 0, none⟩ = some (.pointer (some ⟨rb, 0, none⟩))) (i := 3) (v := .bool true) (fun j => decide (4 ≤ j)) rfl (by kernel_rfl) (by kernel_rfl) (by kernel_rfl) (by kernel_rfl) rfl (by kernel_rfl) (fun _ _ _ h => h) (fun j w hb hR => hR (blk_lt hb (by omega))) (fun w hS _ => hS) (.inl ⟨by rfl, fun w hS => ?e3⟩) hS0 ?_
     case e3 =>
      obtain ⟨s1, s2⟩ := hS
      go_simp
     try simp only [Act.put, List.getElem_toArray, List.getElem_cons_zero, List.getElem_cons_succ, List.setIfInBounds_toArray, List.set_cons_zero, List.set_cons_succ]
     refine wpAnyR_ready (rs := [4]) (by kernel_rfl) (by simp) ?_
     refine AllR.skip rfl (by rfl) (w' := W.drew.setCell ⟨w.heap.size + 1 + 1, 0, none⟩ (.bool true)) ?e4 (fun h => absurd h (by omega)) ?ec4 AllR.nil
     case e4 => go_simp
     case ec4 =>
      refine wpAnyR_done (by kernel_rfl) ?_
      show K0 _ _
      refine hK0 _ _ ?_
      try simp only [Act.put, List.getElem_toArray, List.getElem_cons_zero, List.getElem_cons_succ, List.setIfInBounds_toArray, List.set_cons_zero, List.set_cons_succ]
      gi_wp2
      refine ⟨by simp, .inl ⟨_, _, rfl, run_takeDeferred HD.out, ?_⟩⟩
      refine ⟨.bool true, ?_, rfl, HF.out⟩
      have g6 := HG.out
      simp only [World.setCell_drew] at g6
      simp [results, Tryz.f23, go_sem, g6]
end Go.St
/- items: two nil stores keep the same. -/
namespace Go.St
open Go Go.Proofs Go.RowKit Go.Maps Go.Shelf Go.Ev
attribute [local go_sem] Oper.semAt_some
theorem wpIn_all_nil {gop : Operand} {ps : Array Tmp} {assign body : Code} {Q : Exit → Act → World → Prop} {a : Act} {W0 : World} {m : Nat} (hm : 2 ≤ m) {Bs n₀ : Nat}
  (hg : a.eval gop = .func (.func 37) #[] #[.pointer (some ⟨Bs, 0, none⟩)]) (hps : ps.size = 2) (hB : Bs < W0.heap.size) (hBs : W0.cell? ⟨Bs, 0, none⟩ = some (.pointer none)) (hn : n₀ ≤ W0.heap.size)
  (I : World → Prop) (hI : OwnFrom W0.heap.size (fun (_ : List (Fin 0)) W => I W)) (h0 : I W0)
  (hdone : ∀ (D : Nat) (W : World), W0.heap.size ≤ D → I W → W.heap[D]? = some (.deferred (some [])) → Q .normal { a with defers := { target := .collected D, args := #[] } :: a.defers } W) :
  (Code.rangeFunc gop ps assign body).wpIn Fence.wide (m + 1) Tryz.prog Q a W0 := by
 refine wpIn_rangeFunc_ownG rfl (by omega) (gf := 37) (lb := #[.pointer (some ⟨Bs, 0, none⟩)]) hg trivial (enters_of Tryz.func37 (by kernel_rfl) rfl)
  (all_nil_stops m hm Bs n₀ W0 hB hBs) belowK_t (belowK_b hn) (Below.refl _ _) (fun _ => hps.symm)
  (fun _ W => I W) (fun _ _ _ => False) hI (fun _ _ _ _ _ hs _ _ => hs) h0 (fun _ => a) (fun _ x => x.elim0) (fun _ _ x => x.elim0) ?_ ?_
 ·rintro D ys W hD rfl h1 h2
  exact hdone D W hD h1 h2
 ·rintro D c pre W hD h _ _
  exact h.elim
structure ITN (w : World) (g c : Nat) (W : World) : Prop where
 rbx : Boxed W w.heap.size 51 (.pointer none)
 lbx : Boxed W (w.heap.size + 1) 27 (.slice (some ⟨g, 0, none⟩) 6 c)
 res : Boxed W (w.heap.size + 1 + 1) 4 (.bool false)
 below : Below w.heap.size w W
variable {w W : World} {g c : Nat}
theorem ITN.belowW {W' : World} (h : ITN w g c W) (hb : Below W.heap.size W W') : ITN w g c W' :=
 have hg := below_grown hb none
 ⟨h.rbx.kept hg (by simp), h.lbx.kept hg (by simp), h.res.kept hg (by simp), h.below.trans (hb.mono h.below.size)⟩
set_option maxRecDepth 100000 in
set_option maxHeartbeats 4000000 in
theorem items_nil :
  CallsIn Fence.wide 8 Tryz.prog 23 #[.pointer none, .pointer none, .slice (some ⟨g, 0, none⟩) 6 c] w (LawE w) := by
 have hit0 : ∀ W0, W0 = ((w.alloc (.cells #[.pointer none] 51)).alloc (.cells #[.slice (some ⟨g, 0, none⟩) 6 c] 27)).alloc (.cells #[.bool false] 4) → ITN w g c W0 := by
  rintro W0 rfl
  have hb : Below w.heap.size w (((w.alloc (.cells #[.pointer none] 51)).alloc (.cells #[.slice (some ⟨g, 0, none⟩) 6 c] 27)).alloc (.cells #[.bool false] 4)) := (((Below.refl _ w).alloc (Nat.le_refl _) _).alloc (by simp) _).alloc (by simp; omega) _
  have k2 := (Boxed.new (w.alloc (.cells #[.pointer none] 51)) 27 (.slice (some ⟨g, 0, none⟩) 6 c)).alloc (.cells #[.bool false] 4)
  have k3 := Boxed.new ((w.alloc (.cells #[.pointer none] 51)).alloc (.cells #[.slice (some ⟨g, 0, none⟩) 6 c] 27)) 4 (.bool false)
  simp only [World.size_alloc] at k2 k3
  exact ⟨((Boxed.new w 51 _).alloc _).alloc _, k2, k3, hb⟩
 refine callsIn_of_wp_marks Tryz.func23 rfl trivial ?_ rfl
 simp only [Tryz.ntmps23, List.size_toArray, List.length_cons, List.length_nil, Nat.reduceAdd, Nat.reduceSub, Array.replicate_succ, Array.replicate_zero, List.push_toArray, List.append_toArray, List.nil_append, List.cons_append]
 gi_wp2
 obtain ⟨W0, hW0⟩ : ∃ W0, ((w.alloc (.cells #[.pointer none] 51)).alloc (.cells #[.slice (some ⟨g, 0, none⟩) 6 c] 27)).alloc (.cells #[.bool false] 4) = W0 := ⟨_, rfl⟩
 have it := hit0 W0 hW0.symm
 rw [hW0]
 clear hW0 hit0
 have hlen := len_nil W0.drew
 have hrl := rlen_nil
 have g1 := it.rbx.cell
 rename_i K0 hK0
 refine wpIn_mono (Q := fun e a' w' => match e with | .normal => K0 a' w' | _ => False) ?_ (by intro e a' w' hm; cases e with | normal => exact hm | _ => exact hm.elim)
 refine wpIn_wide.2 (wp_region_R (R := fun _ => (fun W' : World => W'.cell? ⟨w.heap.size, 0, none⟩ = some (.pointer none))) (by kernel_rfl) ?_)
 change wpAnyR Tryz.prog .any _ _ _ 5 (Array.replicate 5 false) _ _
 have hS0 : (fun W' : World => W'.cell? ⟨w.heap.size, 0, none⟩ = some (.pointer none)) W0.drew := g1
 refine wpAnyR_take (fun W' : World => W'.cell? ⟨w.heap.size, 0, none⟩ = some (.pointer none)) (i := 0) (v := .pointer none) (fun _ => false) rfl (by kernel_rfl) (by kernel_rfl) (by kernel_rfl) (by kernel_rfl) rfl (by kernel_rfl) (fun _ _ _ h => h) (fun j w _ hR => hR) (fun w hS => hS) (.inl ⟨by rfl, fun w hS => ?a0⟩) hS0 ?_
 case a0 =>
  have s1 := hS
  go_simp
 try simp only [Act.put, List.getElem_toArray, List.getElem_cons_zero, List.getElem_cons_succ, List.setIfInBounds_toArray, List.set_cons_zero, List.set_cons_succ]
 refine wpAnyR_take (fun W' : World => W'.cell? ⟨w.heap.size, 0, none⟩ = some (.pointer none)) (i := 2) (v := .pointer none) (fun _ => false) rfl (by kernel_rfl) (by kernel_rfl) (by kernel_rfl) (by kernel_rfl) rfl (by kernel_rfl) (fun _ _ _ h => h) (fun j w _ hR => hR) (fun w hS => hS) (.inl ⟨by rfl, fun w hS => ?a2⟩) hS0 ?_
 case a2 =>
  have s1 := hS
  go_simp
 try simp only [Act.put, List.getElem_toArray, List.getElem_cons_zero, List.getElem_cons_succ, List.setIfInBounds_toArray, List.set_cons_zero, List.set_cons_succ]
 refine wpAnyR_ready (rs := [1]) (by kernel_rfl) (by simp) ?_
 refine AllR.call rfl (by rfl) (f := 15) (args := #[.pointer none]) (w1 := W0.drew) ?a1 hlen ?ac1 AllR.nil
 case a1 => go_simp
 case ac1 =>
  rintro e w1 ⟨rfl, hb1⟩
  have it1 := it.belowW ((Below.refl _ W0).drew.trans hb1)
  clear hlen it g1
  have hS0 : (fun W' : World => W'.cell? ⟨w.heap.size, 0, none⟩ = some (.pointer none)) w1 := it1.rbx.cell
  refine ⟨_, rfl, hS0, ?_⟩
  try simp only [Act.put, List.getElem_toArray, List.getElem_cons_zero, List.getElem_cons_succ, List.setIfInBounds_toArray, List.set_cons_zero, List.set_cons_succ]
  refine wpAnyR_ready (rs := [3]) (by kernel_rfl) (by simp) ?_
  refine AllR.call rfl (by rfl) (f := 39) (args := #[.pointer none]) (w1 := w1) ?a3 (hrl _) ?ac3 AllR.nil
  case a3 => go_simp
  case ac3 =>
   rintro e w1' ⟨rfl, rfl⟩
   refine ⟨_, rfl, hS0, ?_⟩
   try simp only [Act.put, List.getElem_toArray, List.getElem_cons_zero, List.getElem_cons_succ, List.setIfInBounds_toArray, List.set_cons_zero, List.set_cons_succ]
   refine wpAnyR_take (fun W' : World => W'.cell? ⟨w.heap.size, 0, none⟩ = some (.pointer none)) (i := 4) (v := .bool false) (fun _ => false) rfl (by kernel_rfl) (by kernel_rfl) (by kernel_rfl) (by kernel_rfl) rfl (by kernel_rfl) (fun _ _ _ h => h) (fun j w _ hR => hR) (fun w hS => hS) (.inl ⟨by rfl, fun w hS => ?a4⟩) hS0 ?_
   case a4 =>
    have s1 := hS
    go_simp
   try simp only [Act.put, List.getElem_toArray, List.getElem_cons_zero, List.getElem_cons_succ, List.setIfInBounds_toArray, List.set_cons_zero, List.set_cons_succ]
   refine wpAnyR_done (by kernel_rfl) ?_
   show K0 _ _
   refine hK0 _ _ ?_
   try simp only [Act.put, List.getElem_toArray, List.getElem_cons_zero, List.getElem_cons_succ, List.setIfInBounds_toArray, List.set_cons_zero, List.set_cons_succ]
   clear hK0
   have hall := fun W => callsIn_wide (n := 7).2 (all_nil W)
   have hnf := fn_not_nil
   gi_wp2_with (refine ⟨trivial, ?_⟩; gi_at_call 17; refine (hall _).mono ?_; rintro e w6 ⟨rfl, rfl⟩)
   clear hall
   have hW0 : ∀ W, W = ((w1.alloc (.cells #[.int .i64 0] 3)).alloc (.cells #[.pointer none] 23)) → W.heap.size = w1.heap.size + 2 ∧ Boxed W w1.heap.size 3 (.int .i64 0) ∧ Boxed W (w1.heap.size + 1) 23 (.pointer none) ∧ Below w1.heap.size w1 W := by
    rintro W rfl
    have k2 := Boxed.new (w1.alloc (.cells #[.int .i64 0] 3)) 23 (.pointer none)
    rw [World.size_alloc] at k2
    exact ⟨by simp, (Boxed.new w1 3 (.int .i64 0)).alloc _, k2, ((Below.refl _ w1).alloc (Nat.le_refl _) _).alloc (by simp) _⟩
   obtain ⟨W2, hW2⟩ : ∃ W2, ((w1.alloc (.cells #[.int .i64 0] 3)).alloc (.cells #[.pointer none] 23)) = W2 := ⟨_, rfl⟩
   obtain ⟨hs2, hn2, hb2, hBl2⟩ := hW0 W2 hW2.symm
   rw [hW2]
   clear hW2 hW0
   have z3 : w.heap.size + 2 < w1.heap.size := World.block_lt_of_cell? _ _ it1.res.cell
   refine wpIn_all_nil (m := 7) (by omega) rfl rfl (by omega) hb2.cell (n₀ := w1.heap.size) (by omega)
    (fun W => Boxed W w1.heap.size 3 (.int .i64 0) ∧ Below w1.heap.size w1 W) (OwnFrom.and (Own.from (fun s A B row hs hg hr => Far.box (fun r e => .inr (hr r e)) hg hs) _) (ownFrom_below (Nat.le_refl _) (by omega))) ⟨hn2, hBl2⟩ ?done
   case done =>
    rintro D W hD ⟨hn3, hBW⟩ hK
    have itW := (it1.belowW hBW).belowW (Below.refl _ W).drew
    have cn : W.drew.cell? ⟨w1.heap.size, 0, none⟩ = some (.int .i64 0) := hn3.cell
    have cr := itW.rbx.cell
    have cres := itW.res.cell
    have fres := itW.res.frozen
    have hlenr := hrl W.drew
    have hK' := (KeepsOthers.setCell W.drew ⟨w.heap.size + 1 + 1, 0, none⟩ (.bool true)).same D _ (show W.drew.heap[D]? = _ from hK) rfl
    have hput := grownBy_putObj' (W.drew.setCell ⟨w.heap.size + 1 + 1, 0, none⟩ (.bool true)) D (.deferred none)
    have g6 := (Boxed.kept (itW.res.set (.bool true)) hput (fun e => by have := Option.some.inj e; omega)).cell
    have hfin := (itW.below.setCell (p := ⟨w.heap.size + 1 + 1, 0, none⟩) (by show w.heap.size ≤ w.heap.size + 1 + 1; omega) (.bool true)).trans (belowK_b (w := w) (Nat.le_refl _) _ D _ (.deferred none) (by omega) hK' rfl rfl)
    have HF := Lib.hid hfin
    have HG := Lib.hid g6
    have HD := Lib.hid hK'
    clear hfin g6 hK' hput hK itW hb2 hn2 hBl2 it1
    gi_wp2
    rename_i K0 hK0
    refine wpIn_mono (Q := fun e a' w' => match e with | .normal => K0 a' w' | _ => False) ?_ (by intro e a' w' hm; cases e with | normal => exact hm | _ => exact hm.elim)
    refine wpIn_wide.2 (wp_region_R (R := fun j => fun W' => j < 4 → (fun W' : World => W'.cell? ⟨w1.heap.size, 0, none⟩ = some (.int .i64 0) ∧ W'.cell? ⟨w.heap.size, 0, none⟩ = some (.pointer none)) W') (by kernel_rfl) ?_)
    change wpAnyR Tryz.prog .any _ _ _ 5 (Array.replicate 5 false) _ _
    have hS0 : (fun W' : World => W'.cell? ⟨w1.heap.size, 0, none⟩ = some (.int .i64 0) ∧ W'.cell? ⟨w.heap.size, 0, none⟩ = some (.pointer none)) W.drew := ⟨cn, cr⟩
    try simp only [Act.put, List.getElem_toArray, List.getElem_cons_zero, List.getElem_cons_succ, List.setIfInBounds_toArray, List.set_cons_zero, List.set_cons_succ]
    refine wpAnyR_take (fun W' : World => W'.cell? ⟨w1.heap.size, 0, none⟩ = some (.int .i64 0) ∧ W'.cell? ⟨w.heap.size, 0, none⟩ = some (.pointer none)) (i := 0) (v := .int .i64 0) (fun j => decide (4 ≤ j)) rfl (by kernel_rfl) (by kernel_rfl) (by kernel_rfl) (by kernel_rfl) rfl (by kernel_rfl) (fun _ _ _ h => h) (fun j w hb hR => hR (blk_lt hb (by omega))) (fun w hS _ => hS) (.inl ⟨by rfl, fun w hS => ?e0⟩) hS0 ?_
    case e0 =>
     obtain ⟨s1, s2⟩ := hS
     go_simp
    try simp only [Act.put, List.getElem_toArray, List.getElem_cons_zero, List.getElem_cons_succ, List.setIfInBounds_toArray, List.set_cons_zero, List.set_cons_succ]
    refine wpAnyR_take (fun W' : World => W'.cell? ⟨w1.heap.size, 0, none⟩ = some (.int .i64 0) ∧ W'.cell? ⟨w.heap.size, 0, none⟩ = some (.pointer none)) (i := 1) (v := .pointer none) (fun j => decide (4 ≤ j)) rfl (by kernel_rfl) (by kernel_rfl) (by kernel_rfl) (by kernel_rfl) rfl (by kernel_rfl) (fun _ _ _ h => h) (fun j w hb hR => hR (blk_lt hb (by omega))) (fun w hS _ => hS) (.inl ⟨by rfl, fun w hS => ?e1⟩) hS0 ?_
    case e1 =>
     obtain ⟨s1, s2⟩ := hS
     go_simp
    try simp only [Act.put, List.getElem_toArray, List.getElem_cons_zero, List.getElem_cons_succ, List.setIfInBounds_toArray, List.set_cons_zero, List.set_cons_succ]
    refine wpAnyR_ready (rs := [2]) (by kernel_rfl) (by simp) ?_
    refine AllR.call rfl (by rfl) (f := 39) (args := #[.pointer none]) (w1 := W.drew) ?e2 hlenr ?ec2 AllR.nil
    case e2 => go_simp
    case ec2 =>
     rintro e w9 ⟨rfl, rfl⟩
     refine ⟨_, rfl, fun _ => hS0, ?_⟩
     try simp only [Act.put, List.getElem_toArray, List.getElem_cons_zero, List.getElem_cons_succ, List.setIfInBounds_toArray, List.set_cons_zero, List.set_cons_succ]
     refine wpAnyR_take (fun W' : World => W'.cell? ⟨w1.heap.size, 0, none⟩ = some (.int .i64 0) ∧ W'.cell? ⟨w.heap.size, 0, none⟩ = some (.pointer none)) (i := 3) (v := .bool true) (fun j => decide (4 ≤ j)) rfl (by kernel_rfl) (by kernel_rfl) (by kernel_rfl) (by kernel_rfl) rfl (by kernel_rfl) (fun _ _ _ h => h) (fun j w hb hR => hR (blk_lt hb (by omega))) (fun w hS _ => hS) (.inl ⟨by rfl, fun w hS => ?e3⟩) hS0 ?_
     case e3 =>
      obtain ⟨s1, s2⟩ := hS
      go_simp
     try simp only [Act.put, List.getElem_toArray, List.getElem_cons_zero, List.getElem_cons_succ, List.setIfInBounds_toArray, List.set_cons_zero, List.set_cons_succ]
     refine wpAnyR_ready (rs := [4]) (by kernel_rfl) (by simp) ?_
     refine AllR.skip rfl (by rfl) (w' := W.drew.setCell ⟨w.heap.size + 1 + 1, 0, none⟩ (.bool true)) ?e4 (fun h => absurd h (by omega)) ?ec4 AllR.nil
     case e4 => go_simp
     case ec4 =>
      refine wpAnyR_done (by kernel_rfl) ?_
      show K0 _ _
      refine hK0 _ _ ?_
      try simp only [Act.put, List.getElem_toArray, List.getElem_cons_zero, List.getElem_cons_succ, List.setIfInBounds_toArray, List.set_cons_zero, List.set_cons_succ]
      gi_wp2
      refine ⟨by simp, .inl ⟨_, _, rfl, run_takeDeferred HD.out, ?_⟩⟩
      refine ⟨.bool true, ?_, rfl, HF.out⟩
      have g6 := HG.out
      simp only [World.setCell_drew] at g6
      simp [results, Tryz.f23, go_sem, g6]
end Go.St
