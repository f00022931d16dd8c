/- The walks of package store: valid, Unit, New, indexes, Len, Cut. -/
import Derived.Test.YtlgngfiiaoodjaaGreatDoorStMaps
import Derived.Test.YtlgngfiiaoodjaaGreatDoorEvLays
import Derived.Test.YtlgngfiiaoodjaaGreatDoorEvCut
import Derived.Shelf.SortM.SortNone
import Derived.WalkKit
import Derived.WalkSpells
import Derived.Maps.Ext
import Derived.RangeFuncOwn
import Derived.LoopTactic
import Derived.Deep.QuietTactic
import Derived.BigQuiet
import Derived.Outline
import Derived.Lib.Hide
import Derived.RangeFuncBox
import Derived.RangeFuncNested
import Derived.RangeFuncBound
import Derived.RangeFuncCalls
import Derived.RangeFuncLeaves
import Derived.Shelf.Abstract
import Derived.Shelf.RegionOpen
import Derived.OwnWalkIn
import Derived.TacticsInMore
import Derived.LoopNIn
import Derived.LoopIn
set_option linter.unusedVariables false
set_option linter.unusedSimpArgs false
/- The walks of package store: valid, Unit, New, indexes, Len, Cut. -/
namespace Go.St
open Go Go.Proofs Go.RowKit Go.Maps Go.Shelf Go.Ev
theorem law3 : Keyed Tryz.prog 3 := int_keyed Tryz.underlying3
/-- a store, as it lies in memory: what it keeps is l -/
structure At (w : World) (sb : Nat) (d room : Int) (mb : Nat) (l : List (Int × Value)) : Prop where
 c0 : w.cell? ⟨sb, 0, none⟩ = some (.int .i64 d)
 c1 : w.cell? ⟨sb, 1, none⟩ = some (.int .i64 room)
 c2 : w.cell? ⟨sb, 2, none⟩ = some (.map (some mb))
 own : w.ownsMap Tryz.prog 3 heldR mb l.length (datum l)
 inc : Inc l
 wf : ∀ p ∈ l, 0 ≤ p.1 ∧ (Lit.int .i64 p.1).wf = true ∧ ∃ a, p.2 = .pointer (some a)
 few : l.length ≤ 4096
theorem At.ne {w : World} {sb : Nat} {d room : Int} {mb : Nat} {l : List (Int × Value)} (h : At w sb d room mb l) : sb ≠ mb := by
 rintro rfl
 obtain ⟨es, clock, hb, _⟩ := h.own
 have := h.c0
 simp [World.cell?, hb] at this
theorem At.kept {w w' : World} {sb : Nat} {d room : Int} {mb : Nat} {l : List (Int × Value)} (h : At w sb d room mb l) (hg : w.grownBy w' none) : At w' sb d room mb l :=
 ⟨hg.cell h.c0 (by simp), hg.cell h.c1 (by simp), hg.cell h.c2 (by simp), h.own.kept hg (by simp), h.inc, h.wf, h.few⟩
theorem valid_ok (sb mb : Nat) (w : World) (c2 : w.cell? ⟨sb, 2, none⟩ = some (.map (some mb))) :
  Calls Tryz.prog 29 #[.pointer (some ⟨sb, 0, none⟩)] w fun e w' => e = .returned (.bool true) ∧ w = w' := by
 have hq := fun w => Go.run_neq_map_nil (P := Tryz.prog) w 63 3 31 (some mb) Tryz.underlying63
 go_enter Tryz.func29, Tryz.ntmps29
 go_wp2
 go_ret
 exact ⟨rfl, rfl⟩
theorem unit_ok (b : Nat) (a : Addr) (w : World) (c0 : w.cell? ⟨b, 0, none⟩ = some (.pointer (some a))) :
  Calls Tryz.prog 30 #[.pointer (some ⟨b, 0, none⟩)] w fun e w' => e = .returned (.pointer (some a)) ∧ w = w' := by
 go_enter Tryz.func30, Tryz.ntmps30
 go_wp2
 go_ret
 exact ⟨rfl, rfl⟩
theorem sorts_ok (m : Nat) : AnyZI.SortsIn Tryz.prog Tryz.sortedA_ren Fence.wide m :=
 ⟨fun blk off cap ss W hH hblk hsz => callsIn_wide.2 (AnyM.slices_Sort_int Tryz.sortA blk off cap ss W hH hblk hsz),
  fun p cap W => callsIn_wide.2 (AnyM.slices_Sort_int_none Tryz.sortA p cap W)⟩
/-- slices.Sorted(maps.Keys(m)), m in the block b -/
theorem sorted_ok (b mb : Nat) (l : List (Int × Value)) (w : World) (hc : w.cell? ⟨b, 0, none⟩ = some (.map (some mb))) (hown : w.ownsMap Tryz.prog 3 heldR mb l.length (datum l)) (hi : Inc l) (hn : l.length ≤ 4096) :
  Calls Tryz.prog 56 #[.func (.func 87) #[] #[.pointer (some ⟨b, 0, none⟩)]] w fun e w' => ∃ v : Value, e = .returned v ∧
   w'.ownsRow w.heap.size 3 1 v l.length ((keys l).map (Value.int .i64)) ∧ (v = .slice none 0 0 ↔ l = []) ∧ Below w.heap.size w w' := by
 have hb : b < w.heap.size := World.block_lt_of_cell? _ _ hc
 have L10 : SlLaysZI.n10 Tryz.prog Tryz.keysA_ren := { Tryz.keysA with }
 have hseq := AnyZI.keys_gives L10 Fence.wide 2 trivial rfl (by omega) b mb l.length (datum l) w hb hc hown
 have := AnyZI.sorted_in Tryz.sortedA Fence.wide 5 trivial trivial trivial trivial rfl (by omega) (sorts_ok _) (enters_of Tryz.func86 (by kernel_rfl) rfl) (Tryz.keysA_ren.f 10) #[.pointer (some ⟨b, 0, none⟩)] trivial
  (enters_of Tryz.func87 (by kernel_rfl) rfl) (fun ss => ss.Perm (intKeys (datum l))) (Maps.size (datum l)) (by rw [size_datum]; unfold maxLen; omega) (by rw [size_datum]; omega) w hseq
 refine (callsIn_wide.1 this).mono ?_
 rintro e w' ⟨v, ss, rfl, hp, hrow, hnil, hbl⟩
 rw [intKeys_datum] at hp
 have hl : ss.length = l.length := by rw [hp.length_eq]; unfold keys; rw [List.length_map]
 rw [sorted_keys hi hp, hl] at hrow
 refine ⟨v, rfl, hrow, hnil.trans ?_, hbl⟩
 constructor
 ·intro h; rw [h] at hl; exact List.length_eq_zero_iff.1 hl.symm
 ·intro h; rw [h] at hl; exact List.length_eq_zero_iff.1 hl
theorem cell_new1 (W : World) (v : Value) (t : TypeId) : (W.alloc (.cells #[v] t)).cell? ⟨W.heap.size, 0, none⟩ = some v := by
 have := World.alloc_heap_new W (.cells #[v] t)
 unfold World.cell?
 rw [this]
 rfl
/-- a slice of ints, in a block from lo on -/
def Ints (lo : Nat) (w : World) (ks : List Int) (v : Value) : Prop :=
 (v = .slice none 0 0 ∧ ks = []) ∨ ∃ g cap, v = .slice (some ⟨g, 0, none⟩) ks.length cap ∧ ks ≠ [] ∧ lo ≤ g ∧ g < w.heap.size ∧ ∀ j k, ks[j]? = some k → w.cell? ⟨g, j, none⟩ = some (.int .i64 k)
theorem Ints.of_row {lo lo' : Nat} {w : World} {ks : List Int} {v : Value} {n : Nat} (h : w.ownsRow lo' 3 1 v n (ks.map (Value.int .i64))) (hn : n = ks.length) (hnil : v = .slice none 0 0 ↔ ks = []) (hlo : lo ≤ lo') : Ints lo w ks v := by
 subst hn
 obtain ⟨hl, h⟩ := h
 rcases h with ⟨rfl, hz⟩ | ⟨g, cap, cur, rfl, hge, hgb, r1, r2, r3, r4⟩
 ·exact .inl ⟨rfl, hnil.1 rfl⟩
 ·refine .inr ⟨g, cap, rfl, fun hk => ?_, by omega, (Array.getElem?_eq_some_iff.1 hgb).1, fun j k hj => ?_⟩
  ·have := hnil.2 hk; cases this
  ·have hjl := (List.getElem?_eq_some_iff.1 hj).1
   have := congrArg (fun l => l[j]?) r4
   simp only [List.getElem?_map, hj, Option.map_some] at this
   rw [List.getElem?_take, if_pos (by omega), Array.getElem?_toList] at this
   simp [World.cell?, hgb, this]
def Idx (l : List (Int × Value)) (w : World) (e : Ending) (w' : World) : Prop := ∃ v : Value, e = .returned v ∧ Ints w.heap.size w' (keys l) v ∧ Below w.heap.size w w'
theorem indexes_ok {sb mb : Nat} {d room : Int} {l : List (Int × Value)} {w : World} (h : At w sb d room mb l) : Calls Tryz.prog 33 #[.pointer (some ⟨sb, 0, none⟩)] w (Idx l w) := by
 have c2 := h.c2
 have hv := valid_ok sb mb w c2
 have hs := sorted_ok w.heap.size mb l (w.alloc (.cells #[.map (some mb)] 63)) (cell_new1 w _ _) (h.own.alloc _) h.inc h.few
 clear h
 go_enter Tryz.func33, Tryz.ntmps33
 go_wp2_with (first
  | (go_at_call 29; refine hv.mono ?_; rintro e w' ⟨rfl, rfl⟩)
  | (go_at_call 56; refine hs.mono ?_; rintro e w' ⟨v, rfl, hrow, hnil, hbl⟩)
  | go_in)
 go_ret
 refine ⟨v, rfl, .of_row hrow (by unfold keys; simp) (hnil.trans (by unfold keys; simp)) (by simp), ((Below.refl _ _).alloc (Nat.le_refl _) _).trans (hbl.mono (by simp))⟩
theorem Ints.len {lo : Nat} {w : World} {ks : List Int} {v : Value} (h : Ints lo w ks v) (W : World) : (Builtin.len_ #[32] 3 #[v]).run Tryz.prog W = .ok (.int .i64 (ks.length : Int)) W := by
 rcases h with ⟨rfl, rfl⟩ | ⟨g, cap, rfl, _⟩
 ·simp [Builtin.len_, run_underlying Tryz.underlying32, go_sem]
 ·simp [Builtin.len_, run_underlying Tryz.underlying32, go_sem]
theorem keys_length {α : Type} (l : List (Int × α)) : (keys l).length = l.length := by unfold keys; simp
set_option maxRecDepth 20000 in
theorem len_ok {sb mb : Nat} {d room : Int} {l : List (Int × Value)} {w : World} (h : At w sb d room mb l) : Calls Tryz.prog 15 #[.pointer (some ⟨sb, 0, none⟩)] w fun e w' => e = .returned (.int .i64 l.length) ∧ Below w.heap.size w w' := by
 have hs := indexes_ok h
 clear h
 go_enter Tryz.func15, Tryz.ntmps15
 go_wp2_with (first
  | (go_at_call 33; refine hs.mono ?_; rintro e w' ⟨v, rfl, hrow, hbl⟩; have hl := hrow.len)
  | go_in)
 go_ret
 exact ⟨by rw [keys_length]; rfl, hbl⟩
theorem new_ok {d room : Int} (h1 : 1 ≤ d) (h2 : d ≤ 10000) (h3 : 1 ≤ room) (h4 : room ≤ 100) (w : World) :
  Calls Tryz.prog 8 #[.int .i64 d, .int .i64 room] w fun e w' => e = .returned (.tuple #[.pointer (some ⟨w.heap.size + 1, 0, none⟩), .int .i64 0]) ∧ w' = (w.alloc (.map #[] 0)).alloc (.cells #[.int .i64 d, .int .i64 room, .map (some w.heap.size)] 65) := by
 have hmm := @run_makeMap Tryz.prog
 have g1 : ¬ d < 1 := by omega
 have g2 : ¬ 10000 < d := by omega
 have g3 : ¬ room < 1 := by omega
 have g4 : ¬ 100 < room := by omega
 go_enter Tryz.func8, Tryz.ntmps8
 go_wp2
 go_ret2
 exact ⟨rfl, rfl⟩
theorem new_no {d room : Int} (h : d < 1 ∨ 10000 < d ∨ room < 1 ∨ 100 < room) (w : World) :
  Calls Tryz.prog 8 #[.int .i64 d, .int .i64 room] w fun e w' => e = .returned (.tuple #[.pointer none, .int .i64 2]) ∧ w' = w := by
 by_cases h1 : d < 1
 ·clear h
  go_enter Tryz.func8, Tryz.ntmps8
  go_wp2
  go_ret2
  exact ⟨rfl, rfl⟩
 by_cases h2 : 10000 < d
 ·clear h
  go_enter Tryz.func8, Tryz.ntmps8
  go_wp2
  go_ret2
  exact ⟨rfl, rfl⟩
 by_cases h3 : room < 1
 ·clear h
  go_enter Tryz.func8, Tryz.ntmps8
  go_wp2
  go_ret2
  exact ⟨rfl, rfl⟩
 have h4 : 100 < room := by omega
 clear h
 go_enter Tryz.func8, Tryz.ntmps8
 go_wp2
 go_ret2
 exact ⟨rfl, rfl⟩
theorem at_new {d room : Int} (w : World) : At ((w.alloc (.map #[] 0)).alloc (.cells #[.int .i64 d, .int .i64 room, .map (some w.heap.size)] 65)) (w.heap.size + 1) d room w.heap.size [] := by
 have hb : ((w.alloc (.map #[] 0)).alloc (.cells #[.int .i64 d, .int .i64 room, .map (some w.heap.size)] 65)).heap[w.heap.size + 1]? = some (.cells #[.int .i64 d, .int .i64 room, .map (some w.heap.size)] 65 (0, 0)) := by
  have := World.alloc_heap_new (w.alloc (.map #[] 0)) (.cells #[.int .i64 d, .int .i64 room, .map (some w.heap.size)] 65)
  rw [World.size_alloc] at this; exact this
 refine ⟨by unfold World.cell?; rw [hb]; rfl, by unfold World.cell?; rw [hb]; rfl, by unfold World.cell?; rw [hb]; rfl, (World.ownsMap_made w _ _ _).alloc _, .nil, by simp, by simp⟩
theorem keyOf_inv {v : Value} {y : Lit} (h : keyOf Tryz.prog 3 v = some y) : ∃ a, v = .int .i64 a ∧ y = .int .i64 a ∧ (Lit.int .i64 a).wf = true := by
 rw [keyOf_int Tryz.underlying3] at h
 unfold mapKey at h
 rw [Tryz.underlying3] at h
 cases v <;> simp at h
 obtain ⟨⟨rfl, hw⟩, rfl⟩ := h
 exact ⟨_, rfl, rfl, hw⟩
/-- what is left of a map behind a cut -/
theorem own_cut {w : World} {mb : Nat} {l : List (Int × Value)} (h : w.ownsMap Tryz.prog 3 heldR mb l.length (datum l)) (hi : Inc l) (n : Int) : ∃ es clock, w.heap[mb]? = some (.map es clock) ∧ MapKept.Stamped es clock ∧ es.size ≤ l.length ∧ (∀ x ∈ es.toList, ∃ n, x.key = .int .i64 n ∧ (Lit.int .i64 n).wf = true) ∧
  ∀ w' : World, w'.heap[mb]? = some (.map (es.filter fun x => !keyPd (fun k => decide (n < k)) x) clock) → w'.ownsMap Tryz.prog 3 heldR mb (cut n l).length (datum (cut n l)) := by
 obtain ⟨es, clock, hb, F, hs, hD⟩ := h
 have hk : ∀ x ∈ es.toList, ∃ n, x.key = .int .i64 n ∧ (Lit.int .i64 n).wf = true := fun x hx => by
  obtain ⟨y, hy⟩ := F.reads x hx
  obtain ⟨a, h1, _, h2⟩ := keyOf_inv (WideElems.rd_key hy)
  exact ⟨a, h1, h2⟩
 have hrg : ∀ x ∈ es.toList, ∃ n, x.key = .int .i64 n ∧ WideElems.rg Tryz.prog 3 heldR x = (.int .i64 n, .held x.val) := fun x hx => by
  obtain ⟨n, h1, h2⟩ := hk x hx
  refine ⟨n, h1, ?_⟩
  rw [WideElems.rg_of (WideElems.rd_mk (key := x.key) (val := x.val) (by rw [h1]; exact keyOf_int_mk Tryz.underlying3 h2) rfl)]
 refine ⟨es, clock, hb, F.stamped, hs, hk, fun w' hb' => ?_⟩
 have hsub : (es.filter fun x => !keyPd (fun k => decide (n < k)) x).toList.Sublist es.toList := by rw [Array.toList_filter]; exact List.filter_sublist
 have F' : WideElems.Fit Tryz.prog 3 heldR (es.filter fun x => !keyPd (fun k => decide (n < k)) x) clock := by
  obtain ⟨s1, s2, s3⟩ := F.stamped
  exact ⟨Nat.le_trans Array.size_filter_le F.size, ⟨fun x hx => s1 x (hsub.subset hx), s2.sublist (hsub.map _), s3.sublist (hsub.map _)⟩, fun x hx => F.reads x (hsub.subset hx)⟩
 have hown : w'.ownsMap Tryz.prog 3 heldR mb (es.filter fun x => !keyPd (fun k => decide (n < k)) x).size (.map (((es.filter fun x => !keyPd (fun k => decide (n < k)) x).toList.map (WideElems.rg Tryz.prog 3 heldR)).foldr DataW.insert [])) := ⟨_, clock, hb', F', Nat.le_refl _, rfl⟩
 have hE : l.map ent = (es.toList.map (WideElems.rg Tryz.prog 3 heldR)).foldr DataW.insert [] := by
  unfold datum at hD
  exact DataW.map.inj hD
 have hp1 : (l.map ent).Perm (es.toList.map (WideElems.rg Tryz.prog 3 heldR)) := by rw [hE]; exact foldr_insert_perm _
 have hp2 : ((cut n l).map ent).Perm ((es.filter fun x => !keyPd (fun k => decide (n < k)) x).toList.map (WideElems.rg Tryz.prog 3 heldR)) := by
  have e1 : (cut n l).map ent = (l.map ent).filter (fun p => decide (intOf p.1 ≤ n)) := by
   unfold cut
   rw [List.filter_map]
   rfl
  have e2 : (es.filter fun x => !keyPd (fun k => decide (n < k)) x).toList.map (WideElems.rg Tryz.prog 3 heldR) = (es.toList.map (WideElems.rg Tryz.prog 3 heldR)).filter (fun p => decide (intOf p.1 ≤ n)) := by
   rw [Array.toList_filter, List.filter_map]
   congr 1
   refine List.filter_congr fun x hx => ?_
   obtain ⟨m, h1, h2⟩ := hrg x hx
   simp only [Function.comp_apply, h2, keyPd, h1, intOf]
   by_cases hlt : n < m
   ·simp [hlt]
   ·have : m ≤ n := by omega
    simp [hlt, this]
  rw [e1, e2]
  exact hp1.filter _
 obtain ⟨E, hE1, hE2, _⟩ := hown.canon law3
 have hsort : ((cut n l).map ent).Pairwise (fun p q => p.1.before q.1 = true) := by
  rw [List.pairwise_map]
  have := hi.cut n
  unfold Inc keys at this
  rw [List.pairwise_map] at this
  exact this.imp fun h => by rw [ent, ent]; simpa [before_int] using h
 have heq : (cut n l).map ent = E := by
  cases hE1
  exact ChangeMaps.eq_of_perm_sorted (hp2.trans (foldr_insert_perm _).symm) hsort hE2
 have hlen : (cut n l).length = (es.filter fun x => !keyPd (fun k => decide (n < k)) x).size := by
  have := hp2.length_eq
  rw [List.length_map, List.length_map, Array.length_toList] at this
  exact this
 rw [hlen]
 have hd : datum (cut n l) = .map E := by unfold datum; rw [heq]
 rw [hd, ← hE1]
 exact hown
theorem cut1 (W : World) (lim n : Int) (val : Value) (a : Addr) (h : W.cell? a = some (.int .i64 lim)) :
  Calls Tryz.prog 35 #[.int .i64 n, val, .pointer (some a)] W fun e w' => e = .returned (.bool (decide (lim < n))) ∧ W.grownBy w' none := by
 go_enter Tryz.func35, Tryz.ntmps35
 go_wp2
 go_ret
 exact ⟨rfl, World.grownBy.refl _ _⟩
theorem delete_ok {b mb : Nat} {lim : Int} {l : List (Int × Value)} {w : World} (hc : w.cell? ⟨b, 0, none⟩ = some (.int .i64 lim)) (hown : w.ownsMap Tryz.prog 3 heldR mb l.length (datum l)) (hi : Inc l) (hn : l.length ≤ 4096) :
  Calls Tryz.prog 34 #[.map (some mb), .func (.func 35) #[] #[.pointer (some ⟨b, 0, none⟩)]] w fun e w' => e = .returned (.tuple #[]) ∧ w'.ownsMap Tryz.prog 3 heldR mb (cut lim l).length (datum (cut lim l)) ∧ w.grownBy w' (some mb) := by
 obtain ⟨es, clock, hb, hst, hsz, hk, hleft⟩ := own_cut hown hi lim
 have hne : b ≠ mb := by
  rintro rfl
  simp [World.cell?, hb] at hc
 refine (cut_walk (ρ := Tryz.delA_ren) Tryz.delA Tryz.underlying3 (fun k => decide (lim < k)) 35 #[.pointer (some ⟨b, 0, none⟩)] mb clock es w (enters_of Tryz.func35 (by kernel_rfl) rfl) hb hst (by unfold maxLen; omega) hk (fun W key val n hg hkey => ?_)).mono ?_
 ·subst hkey
  exact cut1 W lim n val _ (hg.cell hc (by simpa using hne))
 ·rintro e w' ⟨rfl, hat, hg⟩
  exact ⟨rfl, hleft w' hat, hg⟩
theorem At.turned {w w' : World} {sb : Nat} {d room : Int} {mb : Nat} {l l' : List (Int × Value)} (h : At w sb d room mb l) (hg : w.grownBy w' (some mb)) (hown : w'.ownsMap Tryz.prog 3 heldR mb l'.length (datum l')) (hi : Inc l') (hwf : ∀ p ∈ l', 0 ≤ p.1 ∧ (Lit.int .i64 p.1).wf = true ∧ ∃ a, p.2 = .pointer (some a)) (hf : l'.length ≤ 4096) : At w' sb d room mb l' :=
 have hne := h.ne
 ⟨hg.cell h.c0 (by simpa using hne), hg.cell h.c1 (by simpa using hne), hg.cell h.c2 (by simpa using hne), hown, hi, hwf, hf⟩
theorem At.cut {w w' : World} {sb : Nat} {d room : Int} {mb : Nat} {l : List (Int × Value)} (h : At w sb d room mb l) {n : Int} (hg : w.grownBy w' (some mb)) (hown : w'.ownsMap Tryz.prog 3 heldR mb (cut n l).length (datum (St.cut n l))) : At w' sb d room mb (St.cut n l) :=
 h.turned hg hown (h.inc.cut n) (fun p hp => h.wf p (mem_cut.1 hp).1) (Nat.le_trans (List.length_filter_le _ _) h.few)
theorem cut_ok' {sb mb : Nat} {d room n : Int} {l : List (Int × Value)} {w : World} (h : At w sb d room mb l) : Calls Tryz.prog 14 #[.pointer (some ⟨sb, 0, none⟩), .int .i64 n] w fun e w' => e = .returned (.int .i64 0) ∧ At w' sb d room mb (cut n l) ∧ w.grownBy w' (some mb) := by
 have c2 := cell_kept h.c2 (World.grownBy_alloc w (.cells #[.int .i64 n] 3) none) (fun r e => by cases e)
 have hv := valid_ok sb mb (w.alloc (.cells #[.int .i64 n] 3)) c2
 have hs := delete_ok (lim := n) (cell_new1 w (.int .i64 n) 3) (h.own.alloc _) h.inc h.few
 go_enter Tryz.func14, Tryz.ntmps14
 go_wp2_with (first
  | (go_at_call 29; refine hv.mono ?_; rintro e w' ⟨rfl, rfl⟩)
  | (go_at_call 34; refine hs.mono ?_; rintro e w' ⟨rfl, hown, hg⟩)
  | go_in)
 go_ret
 have hg' : w.grownBy w' (some mb) := (World.grownBy_alloc w (.cells #[.int .i64 n] 3) (some mb)).trans hg
 exact ⟨rfl, h.cut hg' hown, hg'⟩
end Go.St
/- The walks of package store: room, Offer. -/
namespace Go.St
open Go Go.Proofs Go.RowKit Go.Maps Go.Shelf Go.Ev
def roomS (room : Int) (l : List (Int × Value)) : Bool × List (Int × Value) :=
 if (l.length : Int) < room then (true, l) else match less l with | none => (false, l) | some t => (true, t)
theorem own_tight {w : World} {mb n : Nat} {l : List (Int × Value)} (h : w.ownsMap Tryz.prog 3 heldR mb n (datum l)) : w.ownsMap Tryz.prog 3 heldR mb l.length (datum l) := by
 obtain ⟨es, clock, hb, F, hs, hD⟩ := h
 refine ⟨es, clock, hb, F, ?_, hD⟩
 have e1 := length_read (P := Tryz.prog) (k := 3) (R0 := heldR) es
 have e2 := DataW.map.inj hD
 rw [← e2, List.length_map] at e1
 omega
theorem At.drewN {w : World} {sb : Nat} {d room : Int} {mb : Nat} {l : List (Int × Value)} (h : At w sb d room mb l) (n : Nat) : At (w.drewN n) sb d room mb l :=
 ⟨h.c0, h.c1, h.c2, h.own, h.inc, h.wf, h.few⟩
theorem drewN_grown (w : World) (n : Nat) (r : Option Nat) : w.grownBy (w.drewN n) r := ⟨rfl, rfl, rfl, Nat.le_refl _, fun _ _ _ => rfl⟩
def RoomE (w : World) (sb : Nat) (d room : Int) (mb : Nat) (r : Bool × List (Int × Value)) (e : Ending) (w' : World) : Prop := e = .returned (.bool r.1) ∧ At w' sb d room mb r.2 ∧ w.grownBy w' (some mb)
theorem room_yes {sb mb : Nat} {d room : Int} {l : List (Int × Value)} {w : World} (h : At w sb d room mb l) (hr : (l.length : Int) < room) : Calls Tryz.prog 31 #[.pointer (some ⟨sb, 0, none⟩)] w (RoomE w sb d room mb (true, l)) := by
 have c1 := h.c1
 have c2 := h.c2
 have hl : ∀ n, (Builtin.len_ #[63] 3 #[.map (some mb)]).run Tryz.prog (w.drewN n) = .ok (.int .i64 (l.length : Int)) (w.drewN n) := fun n => by rw [(h.drewN n).own.len Tryz.underlying63 3, size_datum]
 go_enter Tryz.func31, Tryz.ntmps31
 go_wp2
 go_quiet (fail)
 go_wp2
 go_ret
 exact ⟨rfl, h.drewN _, drewN_grown _ _ _⟩
/-- without an index -/
def rid (k : Int) (l : List (Int × Value)) : List (Int × Value) := l.filter (fun p => decide (p.1 ≠ k))
theorem own_del {w : World} {mb n : Nat} {l : List (Int × Value)} {k : Int} (h : w.ownsMap Tryz.prog 3 heldR mb n ((datum l).del (.int .i64 k))) : w.ownsMap Tryz.prog 3 heldR mb (rid k l).length (datum (rid k l)) := by
 rw [del_datum] at h
 exact own_tight h
theorem At.del {w w' : World} {sb : Nat} {d room : Int} {mb n : Nat} {l : List (Int × Value)} (h : At w sb d room mb l) {k : Int} (hg : w.grownBy w' (some mb)) (hown : w'.ownsMap Tryz.prog 3 heldR mb n ((datum l).del (.int .i64 k))) : At w' sb d room mb (rid k l) :=
 h.turned hg (own_del hown) (h.inc.filter _) (fun p hp => h.wf p (List.mem_filter.1 hp).1) (Nat.le_trans (List.length_filter_le _ _) h.few)
theorem below_grown {w w' : World} (h : Below w.heap.size w w') (r : Option Nat) : w.grownBy w' r := ⟨h.os, h.tape, h.output, h.size, fun i hi _ => h.block i hi⟩
theorem mapTurned_but {w w' : World} {b : Nat} (h : w.mapTurned w' b) : w.grownBy w' (some b) := h.grown
set_option maxRecDepth 20000 in
theorem room_first {sb mb : Nat} {d room : Int} {k0 : Int} {l : List (Int × Value)} {w : World} (h : At w sb d room mb l) (hr : room ≤ (l.length : Int)) (h0 : k0 ≠ 0) (hwf : (Lit.int .i64 k0).wf = true) (hk : (keys l)[0]? = some k0) : Calls Tryz.prog 31 #[.pointer (some ⟨sb, 0, none⟩)] w (RoomE w sb d room mb (true, rid k0 l)) := by
 have c1 := h.c1
 have c2 := h.c2
 have hl : ∀ n, (Builtin.len_ #[63] 3 #[.map (some mb)]).run Tryz.prog (w.drewN n) = .ok (.int .i64 (l.length : Int)) (w.drewN n) := fun n => by rw [(h.drewN n).own.len Tryz.underlying63 3, size_datum]
 have hs := fun n => indexes_ok (h.drewN n)
 have hkey := keyOf_int_mk Tryz.underlying3 hwf
 have HK := Lib.hid hk
 clear hk
 go_enter Tryz.func31, Tryz.ntmps31
 go_wp2
 go_quiet (fail)
 go_wp2_with (first
  | (go_at_call 33; refine (hs _).mono ?_; rintro e w' ⟨v, rfl, hrow, hbl⟩; have hl := hrow.len)
  | go_in)
 clear hl
 rcases hrow with ⟨hv, hz⟩ | ⟨g, cap, hv, _, hg, _, hcell⟩
 ·have := HK.out
  rw [hz] at this; cases this
 have hc0 := hcell 0 k0 HK.out
 have hlen : 0 < (keys l).length := (List.getElem?_eq_some_iff.1 HK.out).1
 have c2' : w'.cell? ⟨sb, 2, none⟩ = some (.map (some mb)) := (hbl.cell (p := ⟨sb, 2, none⟩) (World.block_lt_of_cell? _ _ c2)).trans c2
 have hown : w'.ownsMap Tryz.prog 3 heldR mb l.length (datum l) := (h.drewN nq).own.kept (row := none) (below_grown hbl _) (by simp)
 have hg0 : w.grownBy w' none := (drewN_grown w nq none).trans (below_grown hbl _)
 clear hcell
 subst hv
 go_loop [18, 4] (fun i _ => i = .int .i64 0) (fun _ _ => 0)
 case atStart => rfl
 case round =>
  obtain rfl := hrel
  go_wp2_with (first
   | (at_delete; refine wpList_delete_own _ rfl _ _ 63 3 rfl 31 law3 Tryz.underlying63 _ mb l.length (datum l) rfl hown _ _ rfl hkey ?_; intro w1 hown1 hturn1)
   | go_in)
  go_ret
  have hg1 := hg0.but (some mb)
  exact ⟨rfl, h.del (hg1.trans hturn1.grown) hown1, hg1.trans hturn1.grown⟩
set_option maxRecDepth 20000 in
theorem room_second {sb mb : Nat} {d room : Int} {k1 : Int} {l : List (Int × Value)} {w : World} (h : At w sb d room mb l) (hr : room ≤ (l.length : Int)) (h0 : k1 ≠ 0) (hwf : (Lit.int .i64 k1).wf = true) (hk0 : (keys l)[0]? = some 0) (hk : (keys l)[1]? = some k1) : Calls Tryz.prog 31 #[.pointer (some ⟨sb, 0, none⟩)] w (RoomE w sb d room mb (true, rid k1 l)) := by
 have c1 := h.c1
 have c2 := h.c2
 have hl : ∀ n, (Builtin.len_ #[63] 3 #[.map (some mb)]).run Tryz.prog (w.drewN n) = .ok (.int .i64 (l.length : Int)) (w.drewN n) := fun n => by rw [(h.drewN n).own.len Tryz.underlying63 3, size_datum]
 have hs := fun n => indexes_ok (h.drewN n)
 have hkey := keyOf_int_mk Tryz.underlying3 hwf
 have HK := Lib.hid hk
 have HK0 := Lib.hid hk0
 clear hk hk0
 go_enter Tryz.func31, Tryz.ntmps31
 go_wp2
 go_quiet (fail)
 go_wp2_with (first
  | (go_at_call 33; refine (hs _).mono ?_; rintro e w' ⟨v, rfl, hrow, hbl⟩; have hl := hrow.len)
  | go_in)
 clear hl
 rcases hrow with ⟨hv, hz⟩ | ⟨g, cap, hv, _, hg, _, hcell⟩
 ·have := HK.out
  rw [hz] at this; cases this
 have hc0 := hcell 0 0 HK0.out
 have hc1 := hcell 1 k1 HK.out
 have hlen : 1 < (keys l).length := (List.getElem?_eq_some_iff.1 HK.out).1
 have hfew : (keys l).length ≤ 4096 := by rw [keys_length]; exact h.few
 have c2' : w'.cell? ⟨sb, 2, none⟩ = some (.map (some mb)) := (hbl.cell (p := ⟨sb, 2, none⟩) (World.block_lt_of_cell? _ _ c2)).trans c2
 have hown : w'.ownsMap Tryz.prog 3 heldR mb l.length (datum l) := (h.drewN nq).own.kept (row := none) (below_grown hbl _) (by simp)
 have hg0 : w.grownBy w' none := (drewN_grown w nq none).trans (below_grown hbl _)
 clear hcell
 subst hv
 go_loop [18, 4] (fun i _ => ∃ k : Nat, k ≤ 1 ∧ i = .int .i64 k) (fun i _ => 1 - (RowKit.intOf i).toNat)
 case atStart => exact ⟨0, by omega, rfl⟩
 case round =>
  obtain ⟨k, hk, rfl⟩ := hrel
  by_cases hk0 : k = 0
  ·subst hk0
   go_wp2
   go_round
   case rel => exact ⟨1, by omega, rfl⟩
   case measure => simp [RowKit.intOf]
  ·obtain rfl : k = 1 := by omega
   go_wp2_with (first
    | (at_delete; refine wpList_delete_own _ rfl _ _ 63 3 rfl 31 law3 Tryz.underlying63 _ mb l.length (datum l) rfl hown _ _ rfl hkey ?_; intro w1 hown1 hturn1)
    | go_in)
   go_ret
   have hg1 := hg0.but (some mb)
   exact ⟨rfl, h.del (hg1.trans hturn1.grown) hown1, hg1.trans hturn1.grown⟩
set_option maxRecDepth 20000 in
theorem room_none {sb mb : Nat} {d room : Int} {l : List (Int × Value)} {w : World} (h : At w sb d room mb l) (hr : room ≤ (l.length : Int)) (hle : l.length ≤ 1) (hk0 : (keys l)[0]? = some 0) : Calls Tryz.prog 31 #[.pointer (some ⟨sb, 0, none⟩)] w (RoomE w sb d room mb (false, l)) := by
 have c1 := h.c1
 have c2 := h.c2
 have hl : ∀ n, (Builtin.len_ #[63] 3 #[.map (some mb)]).run Tryz.prog (w.drewN n) = .ok (.int .i64 (l.length : Int)) (w.drewN n) := fun n => by rw [(h.drewN n).own.len Tryz.underlying63 3, size_datum]
 have hs := fun n => indexes_ok (h.drewN n)
 have HK0 := Lib.hid hk0
 have HL := Lib.hid hle
 clear hk0 hle
 go_enter Tryz.func31, Tryz.ntmps31
 go_wp2
 go_quiet (fail)
 go_wp2_with (first
  | (go_at_call 33; refine (hs _).mono ?_; rintro e w' ⟨v, rfl, hrow, hbl⟩; have hl := hrow.len)
  | go_in)
 clear hl
 rcases hrow with ⟨hv, hz⟩ | ⟨g, cap, hv, _, hg, _, hcell⟩
 ·have := HK0.out
  rw [hz] at this; cases this
 have hc0 := hcell 0 0 HK0.out
 have hlen : 0 < (keys l).length := (List.getElem?_eq_some_iff.1 HK0.out).1
 have hlen1 : ¬ 1 < (keys l).length := by rw [keys_length]; have := HL.out; omega
 have hg0 : w.grownBy w' none := (drewN_grown w nq none).trans (below_grown hbl _)
 clear hcell
 subst hv
 go_loop [18, 4] (fun i _ => ∃ k : Nat, k ≤ 1 ∧ i = .int .i64 k) (fun i _ => 1 - (RowKit.intOf i).toNat)
 case atStart => exact ⟨0, by omega, rfl⟩
 case round =>
  obtain ⟨k, hk, rfl⟩ := hrel
  by_cases hk0 : k = 0
  ·subst hk0
   go_wp2
   go_round
   case rel => exact ⟨1, by omega, rfl⟩
   case measure => simp [RowKit.intOf]
  ·obtain rfl : k = 1 := by omega
   go_wp2
   go_ret
   exact ⟨rfl, h.kept hg0, hg0.but _⟩
/-- room, whatever is kept -/
theorem room_ok {sb mb : Nat} {d room : Int} {l : List (Int × Value)} {w : World} (h : At w sb d room mb l) (h1 : 1 ≤ room) : Calls Tryz.prog 31 #[.pointer (some ⟨sb, 0, none⟩)] w (RoomE w sb d room mb (roomS room l)) := by
 unfold roomS
 by_cases hr : (l.length : Int) < room
 ·rw [if_pos hr]; exact room_yes h hr
 ·rw [if_neg hr]
  have hr' : room ≤ (l.length : Int) := by omega
  cases hl : less l with
  | none =>
   have h0 := less_none h.inc hl
   cases l with
   | nil => simp at hr'; omega
   | cons p t =>
    have hp : p.1 = 0 := h0 p (by simp)
    have ht : t = [] := by
     cases t with
     | nil => rfl
     | cons q u =>
      have := (inc_cons.1 (show Inc ((p.1, p.2) :: q :: u) from h.inc)).1 q (by simp)
      have := h0 q (by simp)
      omega
    subst ht
    exact room_none h hr' (by simp) (by simp [keys, hp])
  | some t =>
   obtain ⟨k, hk0, hmin, hhas, ht⟩ := less_gone h.inc (fun p hp => (h.wf p hp).1) hl
   obtain ⟨y, hy⟩ := has_iff.1 hhas
   have hwf := (h.wf _ hy).2.1
   have e : (true, t) = (true, rid k l) := by rw [ht]; rfl
   show Calls _ _ _ _ (RoomE w sb d room mb (true, t))
   rw [e]
   cases l with
   | nil => cases hl
   | cons p u =>
    rw [show p = (p.1, p.2) from rfl, less_cons] at hl
    obtain ⟨g1, g2⟩ := inc_cons.1 (show Inc ((p.1, p.2) :: u) from h.inc)
    split at hl
    ·next hp0 =>
     cases u with
     | nil => cases hl
     | cons q v =>
      have hq0 := g1 q (by simp)
      have hkq : k = q.1 := by
       have m1 := hmin q (by simp) (by omega)
       rcases List.mem_cons.1 hy with hy | hy
       ·have : k = p.1 := by rw [← hy]
        omega
       ·rcases List.mem_cons.1 hy with hy | hy
        ·rw [← hy]
        ·have := (inc_cons.1 (show Inc ((q.1, q.2) :: v) from g2)).1 _ hy
         simp at this; omega
      exact room_second h hr' hk0 hwf (by simp [keys, hp0]) (by simp [keys, hkq])
    ·next hp0 =>
     have hkp : k = p.1 := by
      have m1 := hmin p (by simp) hp0
      rcases List.mem_cons.1 hy with hy | hy
      ·rw [← hy]
      ·have := g1 _ hy
       simp at this; omega
     exact room_first h hr' hk0 hwf (by simp [keys, hkp])
end Go.St
/- The walk of package store: Offer. -/
namespace Go.St
open Go Go.Proofs Go.RowKit Go.Maps Go.Shelf Go.Ev
theorem zero31 (w : World) : (zeroValue 31).run Tryz.prog w = .ok (.pointer none) w := by kernel_rfl
theorem look_ok {w : World} {mb n : Nat} {l : List (Int × Value)} (h : w.ownsMap Tryz.prog 3 heldR mb n (datum l)) {i : Int} (hwf : (Lit.int .i64 i).wf = true) : (Instr.lookup 63 (.map (some mb)) (.int .i64 i) false).run Tryz.prog w = .ok (at? i l) w := by
 obtain ⟨v, ps, hrun, hv⟩ := h.lookup law3 Tryz.underlying63 (zero31 w) (zd := .held (.pointer none)) (zp := []) rfl (keyOf_int_mk Tryz.underlying3 hwf)
 rw [atKey_datum] at hv
 rw [hrun, heldR_inv hv]
def OfferE (w : World) (sb : Nat) (d room : Int) (mb : Nat) (r : Bool × List (Int × Value)) (e : Ending) (w' : World) : Prop := e = .returned (.tuple #[.bool r.1, .int .i64 0]) ∧ At w' sb d room mb r.2 ∧ w.grownBy w' (some mb)
theorem tmod_emod {i d : Int} (hi : 0 ≤ i) : i.tmod d = i % d := Int.tmod_eq_emod_of_nonneg hi
set_option maxRecDepth 20000 in
theorem offer_odd {sb mb xb : Nat} {a : Addr} {d room i : Int} {l : List (Int × Value)} {w : World} (h : At w sb d room mb l) (hx : w.cell? ⟨xb, 0, none⟩ = some (.pointer (some a))) (hi : 0 ≤ i) (hd : 1 ≤ d) (hm : ¬ i % d = 0) :
  Calls Tryz.prog 10 #[.pointer (some ⟨sb, 0, none⟩), .int .i64 i, .pointer (some ⟨xb, 0, none⟩)] w (OfferE w sb d room mb (false, l)) := by
 have c0 := h.c0
 have c2 := h.c2
 have hv := valid_ok sb mb w c2
 have hu := unit_ok xb a w hx
 have hd0 : ¬ d = 0 := by omega
 have hi0 : ¬ i < 0 := by omega
 go_enter Tryz.func10, Tryz.ntmps10
 go_wp2_with (first
  | (go_at_call 29; refine hv.mono ?_; rintro e w' ⟨rfl, rfl⟩)
  | (go_at_call 30; refine hu.mono ?_; rintro e w' ⟨rfl, rfl⟩)
  | go_in)
 go_ret2
 exact ⟨rfl, h, World.grownBy.refl _ _⟩
set_option maxRecDepth 20000 in
theorem offer_has {sb mb xb : Nat} {a b : Addr} {d room i : Int} {l : List (Int × Value)} {w : World} (h : At w sb d room mb l) (hx : w.cell? ⟨xb, 0, none⟩ = some (.pointer (some a))) (hi : 0 ≤ i) (hwf : (Lit.int .i64 i).wf = true) (hd : 1 ≤ d) (hm : i % d = 0) (hat : at? i l = .pointer (some b)) :
  Calls Tryz.prog 10 #[.pointer (some ⟨sb, 0, none⟩), .int .i64 i, .pointer (some ⟨xb, 0, none⟩)] w (OfferE w sb d room mb (false, l)) := by
 have c0 := h.c0
 have c2 := h.c2
 have hv := valid_ok sb mb w c2
 have hu := unit_ok xb a w hx
 have hlk := look_ok h.own hwf
 rw [hat] at hlk
 have hd0 : ¬ d = 0 := by omega
 have hi0 : ¬ i < 0 := by omega
 clear hat
 go_enter Tryz.func10, Tryz.ntmps10
 go_wp2_with (first
  | (go_at_call 29; refine hv.mono ?_; rintro e w' ⟨rfl, rfl⟩)
  | (go_at_call 30; refine hu.mono ?_; rintro e w' ⟨rfl, rfl⟩)
  | go_in)
 go_ret2
 exact ⟨rfl, h, World.grownBy.refl _ _⟩
set_option maxRecDepth 20000 in
theorem offer_full {sb mb xb : Nat} {a : Addr} {d room i : Int} {l l' : List (Int × Value)} {w : World} (h : At w sb d room mb l) (hx : w.cell? ⟨xb, 0, none⟩ = some (.pointer (some a))) (hi : 0 ≤ i) (hwf : (Lit.int .i64 i).wf = true) (hd : 1 ≤ d) (hroom : 1 ≤ room) (hm : i % d = 0) (hat : at? i l = .pointer none) (hr : roomS room l = (false, l')) :
  Calls Tryz.prog 10 #[.pointer (some ⟨sb, 0, none⟩), .int .i64 i, .pointer (some ⟨xb, 0, none⟩)] w (OfferE w sb d room mb (false, l')) := by
 have c0 := h.c0
 have c2 := h.c2
 have hv := valid_ok sb mb w c2
 have hu := unit_ok xb a w hx
 have hlk := look_ok h.own hwf
 have hrm := room_ok h hroom
 rw [hat] at hlk
 rw [hr] at hrm
 have hd0 : ¬ d = 0 := by omega
 have hi0 : ¬ i < 0 := by omega
 clear hat hr
 go_enter Tryz.func10, Tryz.ntmps10
 go_wp2_with (first
  | (go_at_call 29; refine hv.mono ?_; rintro e w' ⟨rfl, rfl⟩)
  | (go_at_call 30; refine hu.mono ?_; rintro e w' ⟨rfl, rfl⟩)
  | (go_at_call 31; refine hrm.mono ?_; rintro e w' ⟨rfl, hat', hg'⟩)
  | go_in)
 go_ret2
 exact ⟨rfl, hat', hg'⟩
set_option maxRecDepth 20000 in
theorem offer_kept {sb mb xb : Nat} {a : Addr} {d room i : Int} {l l' : List (Int × Value)} {w : World} (h : At w sb d room mb l) (hx : w.cell? ⟨xb, 0, none⟩ = some (.pointer (some a))) (hi : 0 ≤ i) (hwf : (Lit.int .i64 i).wf = true) (hd : 1 ≤ d) (hroom : 1 ≤ room) (hm : i % d = 0) (hat : at? i l = .pointer none) (hr : roomS room l = (true, l')) (hn : has i l' = false) (hf : l'.length < 4096) :
  Calls Tryz.prog 10 #[.pointer (some ⟨sb, 0, none⟩), .int .i64 i, .pointer (some ⟨xb, 0, none⟩)] w (OfferE w sb d room mb (true, ins i (.pointer (some ⟨xb, 0, none⟩)) l')) := by
 have c0 := h.c0
 have c2 := h.c2
 have hv := valid_ok sb mb w c2
 have hu := unit_ok xb a w hx
 have hlk := look_ok h.own hwf
 have hrm := room_ok h hroom
 have hkey := keyOf_int_mk Tryz.underlying3 hwf
 rw [hat] at hlk
 rw [hr] at hrm
 have hd0 : ¬ d = 0 := by omega
 have hi0 : ¬ i < 0 := by omega
 have hne := h.ne
 have HN := Lib.hid hn
 have HF := Lib.hid hf
 clear hat hr hn hf
 go_enter Tryz.func10, Tryz.ntmps10
 go_wp2_with (first
  | (go_at_call 29; refine hv.mono ?_; rintro e w' ⟨rfl, rfl⟩)
  | (go_at_call 30; refine hu.mono ?_; rintro e w' ⟨rfl, rfl⟩)
  | (go_at_call 31; refine hrm.mono ?_; rintro e w' ⟨rfl, hat', hg'⟩; have hown := hat'.own; have c2' := hat'.c2)
  | (at_mapUpdate; refine wpList_mapUpdate_in _ rfl _ _ _ 63 rfl 3 31 law3 Tryz.underlying63 _ mb l'.length (datum l') rfl hown (Nat.lt_of_lt_of_le HF.out (by decide)) _ _ _ rfl rfl hkey (.held (.pointer (some ⟨xb, 0, none⟩))) [] rfl ?_; intro w1 hown1 hturn1)
  | go_in)
 go_ret2
 rw [put_datum HN.out] at hown1
 have hown2 := own_tight hown1
 have hg2 := hg'.trans hturn1.grown
 refine ⟨rfl, hat'.turned hturn1.grown hown2 (hat'.inc.ins HN.out) (fun p hp => ?_) ?_, hg2⟩
 ·rcases mem_ins.1 hp with rfl | hp
  ·exact ⟨hi, hwf, _, rfl⟩
  ·exact hat'.wf p hp
 ·rw [length_ins]; exact HF.out
/-- Offer, at a snapshot that is one -/
theorem offer_ok {sb mb xb : Nat} {a : Addr} {d room i : Int} {l : List (Int × Value)} {w : World} (h : At w sb d room mb l) (hx : w.cell? ⟨xb, 0, none⟩ = some (.pointer (some a))) (hi : 0 ≤ i) (hwf : (Lit.int .i64 i).wf = true) (hd : 1 ≤ d) (hroom : 1 ≤ room) (hf : l.length < 4096) :
  Calls Tryz.prog 10 #[.pointer (some ⟨sb, 0, none⟩), .int .i64 i, .pointer (some ⟨xb, 0, none⟩)] w (OfferE w sb d room mb (offer d room i (.pointer (some ⟨xb, 0, none⟩)) l)) := by
 unfold offer
 rw [tmod_emod hi]
 by_cases hm : i % d = 0
 ·rw [if_neg (by simpa using hm)]
  cases hh : has i l with
  | true =>
   obtain ⟨y, hy⟩ := has_iff.1 hh
   obtain ⟨_, _, b, hb⟩ := h.wf _ hy
   simp only [if_true]
   refine offer_has (b := b) h hx hi hwf hd hm ?_
   rw [at_of_mem h.inc hy]; exact hb
  | false =>
   simp only [Bool.false_eq_true, if_false]
   have hat := at_none hh
   by_cases hlt : (l.length : Int) < room
   ·rw [if_pos hlt]
    exact offer_kept h hx hi hwf hd hroom hm hat (by unfold roomS; rw [if_pos hlt]) hh hf
   ·rw [if_neg hlt]
    cases hl : less l with
    | none => exact offer_full h hx hi hwf hd hroom hm hat (by unfold roomS; rw [if_neg hlt, hl])
    | some t => exact offer_kept h hx hi hwf hd hroom hm hat (by unfold roomS; rw [if_neg hlt, hl]) (has_false_of (less_sub hl) hh) (by have := length_less hl; omega)
 ·rw [if_pos hm]
  exact offer_odd h hx hi hd hm
end Go.St
/- slices.Backward over a slice of ints: its closure's contract. -/
namespace Go.St
open Go Go.Proofs Go.RowKit Go.Maps Go.Shelf Go.Ev
attribute [local go_sem] Oper.semAt_some
/-- the places of a row of m + 1, from the last one on -/
def bk (m : Nat) : List (Fin (m + 1)) := (List.finRange (m + 1)).reverse
theorem bk_length (m : Nat) : (bk m).length = m + 1 := by unfold bk; simp
theorem bk_get {m k : Nat} (h : k ≤ m) : (bk m)[k]? = some ⟨m - k, by omega⟩ := by
 unfold bk
 rw [List.getElem?_reverse (by simp; omega)]
 simp only [List.length_finRange]
 rw [List.getElem?_eq_getElem (by simp; omega)]
 simp
theorem bk_take {m k : Nat} (h : k ≤ m) : (bk m).take (k + 1) = (bk m).take k ++ [⟨m - k, by omega⟩] := by
 rw [List.take_add_one, bk_get h]; rfl
set_option maxRecDepth 100000 in
set_option maxHeartbeats 2000000 in
theorem back1_in (F : Fence) (n : Nat) (h55 : F.fn 55) (hro : F.round = none) (hn : 1 ≤ n) (lp Bs n₀ b cap m : Nat) (kk : Nat → Int) (hm : m < 4096) (hb : b < n₀) (hBn : Bs < n₀) (J Jx : List (Fin (m + 1)) → World → Prop)
  (hY : ∀ pre x W, J pre W → pre.length < m + 1 → YieldAt F (n - 1) Tryz.prog lp #[.int .i64 (x.1 : Int), .int .i64 (kk x.1)] W fun e W' =>
   (e = .returned (.bool true) ∧ J (pre ++ [x]) W' ∧ Below n₀ W W') ∨ (e = .returned (.bool false) ∧ Jx (pre ++ [x]) W'))
  (W : World) (hBs : W.cell? ⟨Bs, 0, none⟩ = some (.slice (some ⟨b, 0, none⟩) (m + 1) cap)) (hc : ∀ j, j ≤ m → W.cell? ⟨b, j, none⟩ = some (.int .i64 (kk j))) (h0 : J [] W) :
  CallsIn F n Tryz.prog 55 #[.func (.yield lp) #[] #[], .pointer (some ⟨Bs, 0, none⟩)] W fun e W' => (∃ v, e = .returned v) ∧
   ((∃ ys, ys = bk m ∧ J ys W') ∨ (∃ pre, (∃ k, k ≤ m + 1 ∧ pre = (bk m).take k) ∧ Jx pre W')) := by
 refine callsIn_of_wp Tryz.func55 rfl h55 ?_ hro
 simp only [Tryz.ntmps55, List.size_toArray, List.length_cons, List.length_nil, Nat.reduceAdd, Nat.reduceSub, Array.replicate_succ, Array.replicate_zero, List.push_toArray, List.append_toArray, List.nil_append, List.cons_append]
 gi_wp2
 gi_loopw [3] (fun i wr => ((∃ j : Nat, j ≤ m ∧ i = .int .i64 j ∧ J ((bk m).take (m - j)) wr) ∨ (i = .int .i64 (-1) ∧ J (bk m) wr)) ∧ Below n₀ W wr)
  (fun i _ => (RowKit.intOf i + 1).toNat)
 case atStart => exact ⟨.inl ⟨m, Nat.le_refl _, rfl, by rw [Nat.sub_self]; exact h0⟩, Below.refl _ _⟩
 case round =>
  obtain ⟨hrel, hnx⟩ := hrel
  have hBs' := (hnx.cell (p := ⟨Bs, 0, none⟩) hBn).trans hBs
  rcases hrel with ⟨j, hj, rfl, hJs⟩ | ⟨rfl, hJs⟩
  ·have hcx : wr.cell? ⟨b, j, none⟩ = some (.int .i64 (kk j)) := (hnx.cell (p := ⟨b, j, none⟩) hb).trans (hc j hj)
   obtain ⟨fn, tmps, assign, body, hy, hR⟩ := hY _ ⟨j, by omega⟩ wr hJs (by rw [List.length_take, bk_length]; omega)
   dsimp only at hy
   have hjl : j < m + 1 := by omega
   gi_wp2
   refine hR.mono ?_
   rintro e W3 (⟨rfl, hJ3, hk3⟩ | ⟨rfl, hJx3⟩)
   ·gi_wp2
    go_roundw
    case rel =>
     have htk : J ((bk m).take (m - j + 1)) W3 := by
      rw [bk_take (by omega)]
      simp only [show m - (m - j) = j by omega]
      exact hJ3
     refine ⟨?_, hnx.trans hk3⟩
     by_cases hj0 : j = 0
     ·subst hj0
      exact .inr ⟨by simp, by rw [show m - 0 + 1 = m + 1 by omega, List.take_of_length_le (by rw [bk_length]; omega)] at htk; exact htk⟩
     ·exact .inl ⟨j - 1, by omega, by congr 1; omega, by rw [show m - (j - 1) = m - j + 1 by omega]; exact htk⟩
    case measure => simp [RowKit.intOf]
   ·gi_wp2
    refine bodyPost_ret (results_none rfl _ _ _) rfl ?_
    refine ⟨⟨_, rfl⟩, .inr ⟨_, ⟨m - j + 1, by omega, ?_⟩, hJx3⟩⟩
    rw [bk_take (by omega)]
    simp only [show m - (m - j) = j by omega]
  ·gi_wp2
   go_end0
   exact ⟨⟨_, rfl⟩, .inl ⟨_, rfl, hJs⟩⟩
theorem back_stops (F : Fence) (n : Nat) (h55 : F.fn 55) (hro : F.round = none) (hn : 1 ≤ n) (Bs n₀ b cap m : Nat) (kk : Nat → Int) (hm : m < 4096) (hb : b < n₀) (hBn : Bs < n₀) (w : World) (hn₀ : n₀ ≤ w.heap.size)
  (hBs : w.cell? ⟨Bs, 0, none⟩ = some (.slice (some ⟨b, 0, none⟩) (m + 1) cap)) (hc : ∀ j, j ≤ m → w.cell? ⟨b, j, none⟩ = some (.int .i64 (kk j))) :
  SeqStopsK F n Tryz.prog 55 #[.pointer (some ⟨Bs, 0, none⟩)] (fun x : Fin (m + 1) => #[Value.int .i64 (x.1 : Int), Value.int .i64 (kk x.1)]) (Below n₀) (fun ys => ys = bk m) (fun pre => ∃ k, k ≤ m + 1 ∧ pre = (bk m).take k) (m + 1) w := fun l J Jx W hW _ _ hY h0 =>
 back1_in F n h55 hro hn l Bs n₀ b cap m kk hm hb hBn J Jx hY W ((hW.cell (p := ⟨Bs, 0, none⟩) (by show Bs < _; omega)).trans hBs) (fun j hj => (hW.cell (p := ⟨b, j, none⟩) (by show b < _; omega)).trans (hc j hj)) h0
set_option maxRecDepth 100000 in
set_option maxHeartbeats 1000000 in
theorem back_nil_in (F : Fence) (n : Nat) (h55 : F.fn 55) (hro : F.round = none) (lp Bs : Nat) (J : List Unit → World → Prop) (W : World) (hBs : W.cell? ⟨Bs, 0, none⟩ = some (.slice none 0 0)) (h0 : J [] W) :
  CallsIn F n Tryz.prog 55 #[.func (.yield lp) #[] #[], .pointer (some ⟨Bs, 0, none⟩)] W fun e W' => (∃ v, e = .returned v) ∧ J [] W' := by
 refine callsIn_of_wp Tryz.func55 rfl h55 ?_ hro
 simp only [Tryz.ntmps55, List.size_toArray, List.length_cons, List.length_nil, Nat.reduceAdd, Nat.reduceSub, Array.replicate_succ, Array.replicate_zero, List.push_toArray, List.append_toArray, List.nil_append, List.cons_append]
 gi_wp2
 gi_loopw [3] (fun i wr => i = .int .i64 (-1) ∧ J [] wr) (fun _ _ => 0)
 case atStart => exact ⟨rfl, h0⟩
 case round =>
  obtain ⟨rfl, hJs⟩ := hrel
  gi_wp2
  go_end0
  exact ⟨⟨_, rfl⟩, hJs⟩
theorem back_nil_stops (F : Fence) (n : Nat) (h55 : F.fn 55) (hro : F.round = none) (Bs n₀ : Nat) (w : World) (hB : Bs < w.heap.size) (hBs : w.cell? ⟨Bs, 0, none⟩ = some (.slice none 0 0)) :
  SeqStopsK F n Tryz.prog 55 #[.pointer (some ⟨Bs, 0, none⟩)] (fun _ : Unit => #[Value.int .i64 0, Value.int .i64 0]) (Below n₀) (fun ys => ys = []) (fun _ => False) 0 w := fun l J Jx W hW _ _ hY h0 =>
 (back_nil_in F n h55 hro l Bs J W ((hW.cell (p := ⟨Bs, 0, none⟩) hB).trans hBs) h0).mono fun e W' ⟨he, hj⟩ => ⟨he, .inl ⟨_, rfl, hj⟩⟩
end Go.St
/- The indexes of a store by their places: plain laws. -/
namespace Go.St
open Go Go.RowKit
theorem At.below {w w' : World} {sb : Nat} {d room : Int} {mb : Nat} {l : List (Int × Value)} (h : At w sb d room mb l) (hb : Below w.heap.size w w') : At w' sb d room mb l := h.kept (below_grown hb _)
/-- the j-th index -/
def kth {α : Type} (l : List (Int × α)) (j : Nat) : Int := (keys l)[j]?.getD 0
theorem kth_get {α : Type} {l : List (Int × α)} {j : Nat} (h : j < (keys l).length) : (keys l)[j]? = some (kth l j) := by
 unfold kth; rw [List.getElem?_eq_getElem h]; rfl
theorem kth_mem {α : Type} {l : List (Int × α)} {j : Nat} (h : j < (keys l).length) : ∃ v, (kth l j, v) ∈ l := by
 have h2 : kth l j ∈ keys l := List.mem_of_getElem? (kth_get h)
 obtain ⟨p, hp1, hp2⟩ := List.mem_map.1 h2
 exact ⟨p.2, by rw [← hp2]; exact hp1⟩
theorem mem_kth {α : Type} {l : List (Int × α)} {q : Int × α} (h : q ∈ l) : ∃ j, j < (keys l).length ∧ q.1 = kth l j := by
 have h1 : q.1 ∈ keys l := List.mem_map_of_mem h
 obtain ⟨j, hj⟩ := List.getElem?_of_mem h1
 have hl := (List.getElem?_eq_some_iff.1 hj).1
 exact ⟨j, hl, by have := kth_get hl; rw [hj] at this; exact Option.some.inj this⟩
theorem kth_lt {α : Type} {l : List (Int × α)} (hi : Inc l) {a b : Nat} (hab : a < b) (hb : b < (keys l).length) : kth l a < kth l b := by
 unfold Inc at hi
 have := List.pairwise_iff_getElem.1 hi a b (by omega) hb hab
 have e1 := kth_get (l := l) (j := a) (by omega)
 have e2 := kth_get (l := l) (j := b) hb
 rw [List.getElem?_eq_getElem (by omega)] at e1
 rw [List.getElem?_eq_getElem hb] at e2
 have e1 := Option.some.inj e1
 have e2 := Option.some.inj e2
 rw [e1, e2] at this
 exact this
theorem kth_le {α : Type} {l : List (Int × α)} (hi : Inc l) {a b : Nat} (hab : a ≤ b) (hb : b < (keys l).length) : kth l a ≤ kth l b := by
 rcases Nat.lt_or_ge a b with h | h
 ·exact Int.le_of_lt (kth_lt hi h hb)
 ·have : a = b := by omega
  rw [this]; exact Int.le_refl _
theorem best_none_row {l : List (Int × Value)} {m : Nat} (hm : (keys l).length = m + 1) {i : Int} (h : ∀ p ∈ bk m, i < kth l p.1) : best i l = none := by
 rw [best_none]
 intro q hq
 obtain ⟨j, hj, e⟩ := mem_kth hq
 rw [e]
 exact h ⟨j, by omega⟩ (by unfold bk; simp)
theorem best_of_row {l : List (Int × Value)} (hi : Inc l) {m : Nat} (hm : (keys l).length = m + 1) {i : Int} {k : Nat} {ini : List (Fin (m + 1))} {last : Fin (m + 1)} (h : (bk m).take k = ini ++ [last]) (h1 : ∀ p ∈ ini, i < kth l p.1) (h2 : kth l last.1 ≤ i) :
  best i l = some (kth l last.1, at? (kth l last.1) l) := by
 have hlast : (bk m)[ini.length]? = some last := by
  have e : ((bk m).take k)[ini.length]? = some last := by rw [h]; simp
  rw [List.getElem?_take] at e
  split at e
  ·exact e
  ·cases e
 have hil : ini.length ≤ m := by have := (List.getElem?_eq_some_iff.1 hlast).1; rw [bk_length] at this; omega
 have hl1 : last.1 = m - ini.length := by rw [bk_get hil] at hlast; rw [← Option.some.inj hlast]
 obtain ⟨v, hv⟩ := kth_mem (l := l) (j := last.1) (by rw [hm]; exact last.2)
 refine best_is hi (p := (kth l last.1, at? (kth l last.1) l)) (by rw [at_of_mem hi hv]; exact hv) h2 fun q hq hqi => ?_
 obtain ⟨j, hj, e⟩ := mem_kth hq
 show q.1 ≤ kth l last.1
 rcases Nat.lt_or_ge last.1 j with hlt | hge
 ·exfalso
  have hmem : (⟨j, by omega⟩ : Fin (m + 1)) ∈ ini := by
   have e1 : (bk m)[m - j]? = some ⟨j, by omega⟩ := by rw [bk_get (by omega)]; congr 2; omega
   have e2 : ((bk m).take k)[m - j]? = some ⟨j, by omega⟩ := by
    rw [List.getElem?_take]
    have : m - j < k := by
     have hk : ((bk m).take k).length = ini.length + 1 := by rw [h]; simp
     rw [List.length_take] at hk; omega
    rw [if_pos this]; exact e1
   rw [h, List.getElem?_append_left (by omega)] at e2
   exact List.mem_of_getElem? e2
  have := h1 _ hmem
  simp only at this
  omega
 ·rw [e]; exact kth_le hi hge (by rw [hm]; exact last.2)
end Go.St
