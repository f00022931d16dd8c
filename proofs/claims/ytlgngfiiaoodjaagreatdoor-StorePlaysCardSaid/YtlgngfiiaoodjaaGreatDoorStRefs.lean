/- The document's store, as a list of indexes and numbers: plain laws, no program in sight. -/
import Derived.Test.YtlgngfiiaoodjaaGreatDoorStMaps
import Derived.Test.YtlgngfiiaoodjaaGreatDoorStLoops
import Derived.Maps.AppendAt
set_option linter.unusedVariables false
set_option linter.unusedSimpArgs false
/- The document's store, as a list of indexes and numbers: plain laws, no program in sight. -/
namespace Go.St
variable {α β : Type}
def mapV (f : α → β) (r : List (Int × α)) : List (Int × β) := r.map fun p => (p.1, f p.2)
theorem keys_mapV (f : α → β) (r : List (Int × α)) : keys (mapV f r) = keys r := by
 unfold keys mapV
 rw [List.map_map]
 rfl
theorem length_mapV (f : α → β) (r : List (Int × α)) : (mapV f r).length = r.length := by unfold mapV; simp
theorem inc_mapV {f : α → β} {r : List (Int × α)} (h : Inc r) : Inc (mapV f r) := by
 unfold Inc at *
 rw [keys_mapV]; exact h
theorem has_mapV (f : α → β) (i : Int) (r : List (Int × α)) : has i (mapV f r) = has i r := by
 unfold has mapV
 rw [List.any_map]
 rfl
theorem ins_mapV (f : α → β) (i : Int) (x : α) : ∀ (r : List (Int × α)), ins i (f x) (mapV f r) = mapV f (ins i x r)
 | [] => rfl
 | (k, y) :: t => by
  show ins i (f x) ((k, f y) :: mapV f t) = mapV f (ins i x ((k, y) :: t))
  unfold St.ins
  by_cases h : k < i
  ·rw [if_pos h, if_pos h, ins_mapV f i x t]; rfl
  ·rw [if_neg h, if_neg h]; rfl
theorem less_mapV (f : α → β) (r : List (Int × α)) : less (mapV f r) = (less r).map (mapV f) := by
 cases r with
 | nil => rfl
 | cons p t =>
  obtain ⟨k, y⟩ := p
  show less ((k, f y) :: mapV f t) = _
  rw [less_cons, less_cons]
  by_cases h : k = 0
  ·rw [if_pos h, if_pos h]
   cases t with
   | nil => rfl
   | cons q u => rfl
  ·rw [if_neg h, if_neg h]; rfl
theorem offer_mapV (f : α → β) (d room i : Int) (x : α) (r : List (Int × α)) : offer d room i (f x) (mapV f r) = ((offer d room i x r).1, mapV f (offer d room i x r).2) := by
 unfold offer
 rw [has_mapV, length_mapV, less_mapV, ins_mapV]
 split
 ·rfl
 ·split
  ·rfl
  ·split
   ·rfl
   ·cases h : less r with
    | none => rfl
    | some t => simp only [Option.map_some]; rw [ins_mapV]
theorem cut_mapV (f : α → β) (n : Int) (r : List (Int × α)) : cut n (mapV f r) = mapV f (cut n r) := by
 unfold cut mapV
 rw [List.filter_map]
 rfl
theorem best_mapV (f : α → β) (n : Int) (r : List (Int × α)) : best n (mapV f r) = (best n r).map fun p => (p.1, f p.2) := by
 unfold best
 rw [cut_mapV]
 unfold mapV
 rw [List.getLast?_map]
/-- which one goes, by places -/
theorem less_places {k : Int} {y : α} {t : List (Int × α)} : less ((k, y) :: t) = if k = 0 then (if t = [] then none else some (((k, y) :: t).take 1 ++ ((k, y) :: t).drop 2)) else some (((k, y) :: t).take 0 ++ ((k, y) :: t).drop 1) := by
 rw [less_cons]
 by_cases h : k = 0
 ·rw [if_pos h, if_pos h]
  cases t with
  | nil => rfl
  | cons q u => rfl
 ·rw [if_neg h, if_neg h]; rfl
/-- where a new one goes, by places -/
theorem ins_places {i : Int} {x : α} : ∀ {r : List (Int × α)} {a : Nat}, (∀ (j : Nat) (p : Int × α), j < a → r[j]? = some p → p.1 < i) → (∀ p : Int × α, r[a]? = some p → ¬ p.1 < i) → a ≤ r.length → ins i x r = r.take a ++ (i, x) :: r.drop a
 | [], a, _, _, h => by
  have : a = 0 := by simpa using h
  subst this; rfl
 | (k, y) :: t, 0, _, h2, _ => by
  have := h2 (k, y) rfl
  rw [ins, if_neg this]; rfl
 | (k, y) :: t, a + 1, h1, h2, h3 => by
  have h := h1 0 (k, y) (by omega) rfl
  rw [ins, if_pos h, ins_places (a := a) (fun j p hj hp => h1 (j + 1) p (by omega) (by simpa using hp)) (fun p hp => h2 p (by simpa using hp)) (by simpa using h3)]
  rfl
theorem cut_take {n : Int} {r : List (Int × α)} {k : Nat} {p : Int × α} (h : r[k]? = some p) : cut n (r.take (k + 1)) = cut n (r.take k) ++ (if p.1 ≤ n then [p] else []) := by
 rw [List.take_add_one, h]
 unfold cut
 rw [List.filter_append]
 by_cases hp : p.1 ≤ n
 ·rw [if_pos hp, Option.toList_some, List.filter_cons_of_pos (by simpa using hp)]; rfl
 ·rw [if_neg hp, Option.toList_some, List.filter_cons_of_neg (by simpa using hp)]; rfl
theorem best_places {n : Int} {r : List (Int × α)} (hi : Inc r) {k : Nat} {p : Int × α} (h : r[k]? = some p) (hp : p.1 ≤ n) (hg : ∀ (j : Nat) (q : Int × α), k < j → r[j]? = some q → n < q.1) : best n r = some p := by
 refine best_is hi (List.mem_of_getElem? h) hp fun q hq hqn => ?_
 obtain ⟨j, hj⟩ := List.getElem?_of_mem hq
 rcases Nat.lt_trichotomy j k with hlt | rfl | hgt
 ·have hjl := (List.getElem?_eq_some_iff.1 hj).1
  have hkl := (List.getElem?_eq_some_iff.1 h).1
  unfold Inc keys at hi
  have := List.pairwise_iff_getElem.1 hi j k (by simpa using hjl) (by simpa using hkl) hlt
  simp only [List.getElem_map] at this
  rw [(List.getElem?_eq_some_iff.1 hj).2, (List.getElem?_eq_some_iff.1 h).2] at this
  omega
 ·rw [hj] at h
  cases h
  exact Int.le_refl _
 ·have := hg j q hgt hj
  omega
theorem best_none_places {n : Int} {r : List (Int × α)} (hg : ∀ (j : Nat) (q : Int × α), r[j]? = some q → n < q.1) : best n r = none := by
 rw [best_none]
 intro q hq
 obtain ⟨j, hj⟩ := List.getElem?_of_mem hq
 exact hg j q hj
theorem has_places {i : Int} {r : List (Int × α)} : has i r = true ↔ ∃ (j : Nat) (p : Int × α), r[j]? = some p ∧ p.1 = i := by
 rw [has_iff]
 constructor
 ·rintro ⟨y, hy⟩
  obtain ⟨j, hj⟩ := List.getElem?_of_mem hy
  exact ⟨j, _, hj, rfl⟩
 ·rintro ⟨j, p, hj, rfl⟩
  exact ⟨p.2, List.mem_of_getElem? hj⟩
end Go.St
/- The document's store, walked: as it lies in memory; New, valid, Len, Best. -/
namespace Go.St
open Go Go.Proofs Go.RowKit Go.Maps Go.Shelf Go.Ev
/-- the cells of the items -/
def flat (r : List (Int × Int)) : List Value := r.flatMap fun p => [.int .i64 p.1, .int .i64 p.2]
theorem flat_nil : flat [] = [] := rfl
theorem flat_append (a b : List (Int × Int)) : flat (a ++ b) = flat a ++ flat b := by unfold flat; rw [List.flatMap_append]
theorem flat_one (p : Int × Int) : flat [p] = [.int .i64 p.1, .int .i64 p.2] := rfl
theorem flat_length (r : List (Int × Int)) : (flat r).length = r.length * 2 := by
 induction r with
 | nil => rfl
 | cons p t ih => rw [show flat (p :: t) = [.int .i64 p.1, .int .i64 p.2] ++ flat t from rfl, List.length_append, ih]; simp; omega
theorem flat_get : ∀ {r : List (Int × Int)} {j : Nat} {p : Int × Int}, r[j]? = some p → (flat r)[j * 2]? = some (.int .i64 p.1) ∧ (flat r)[j * 2 + 1]? = some (.int .i64 p.2)
 | [], _, _, h => by simp at h
 | q :: t, 0, p, h => by
  simp at h
  subst h
  exact ⟨rfl, rfl⟩
 | q :: t, j + 1, p, h => by
  have h' := flat_get (r := t) (j := j) (p := p) (by simpa using h)
  have e : flat (q :: t) = .int .i64 q.1 :: .int .i64 q.2 :: flat t := rfl
  rw [e, show (j + 1) * 2 = j * 2 + 1 + 1 by omega]
  simpa using h'
theorem flat_take (r : List (Int × Int)) (n : Nat) : flat (r.take n) = (flat r).take (n * 2) := by
 induction r generalizing n with
 | nil => simp [flat]
 | cons p t ih =>
  cases n with
  | zero => simp [flat]
  | succ n =>
   rw [List.take_succ_cons, show flat (p :: List.take n t) = .int .i64 p.1 :: .int .i64 p.2 :: flat (List.take n t) from rfl, show flat (p :: t) = .int .i64 p.1 :: .int .i64 p.2 :: flat t from rfl, ih, show (n + 1) * 2 = n * 2 + 1 + 1 by omega]
   rfl
theorem flat_drop (r : List (Int × Int)) (n : Nat) : flat (r.drop n) = (flat r).drop (n * 2) := by
 induction r generalizing n with
 | nil => simp [flat]
 | cons p t ih =>
  cases n with
  | zero => simp [flat]
  | succ n =>
   rw [List.drop_succ_cons, ih, show flat (p :: t) = .int .i64 p.1 :: .int .i64 p.2 :: flat t from rfl, show (n + 1) * 2 = n * 2 + 1 + 1 by omega]
   rfl
/-- the document's store, as it lies in memory: its items are r -/
structure RAt (w : World) (rb : Nat) (d room : Int) (r : List (Int × Int)) (v : Value) : Prop where
 blk : w.heap[rb]? = some (.cells #[.int .i64 d, .int .i64 room, v] 96 (0, 0))
 row : w.ownsRow 0 98 2 v r.length (flat r)
 few : r.length ≤ 4096
theorem RAt.c0 {w : World} {rb : Nat} {d room : Int} {r : List (Int × Int)} {v : Value} (h : RAt w rb d room r v) : w.cell? ⟨rb, 0, none⟩ = some (.int .i64 d) := by simp [World.cell?, h.blk]
theorem RAt.c1 {w : World} {rb : Nat} {d room : Int} {r : List (Int × Int)} {v : Value} (h : RAt w rb d room r v) : w.cell? ⟨rb, 1, none⟩ = some (.int .i64 room) := by simp [World.cell?, h.blk]
theorem RAt.c2 {w : World} {rb : Nat} {d room : Int} {r : List (Int × Int)} {v : Value} (h : RAt w rb d room r v) : w.cell? ⟨rb, 2, none⟩ = some v := by simp [World.cell?, h.blk]
theorem RAt.f2 {w : World} {rb : Nat} {d room : Int} {r : List (Int × Int)} {v : Value} (h : RAt w rb d room r v) : w.frozen? ⟨rb, 2, none⟩ = false := by simp [World.frozen?, h.blk]
theorem RAt.far {A B : World} {rb : Nat} {d room : Int} {r : List (Int × Int)} {v : Value} {row : Option Nat} (h : RAt A rb d room r v) (hg : A.grownBy B row) (h1 : row ≠ some rb) (h2 : row ≠ none → row ≠ v.ownBlock) : RAt B rb d room r v := by
 refine ⟨(hg.block rb (Array.getElem?_eq_some_iff.1 h.blk).1 (fun e => h1 e.symm)).trans h.blk, h.row.kept hg ?_, h.few⟩
 cases hv : v.ownBlock with
 | none => exact .inl rfl
 | some i =>
  refine .inr fun e => ?_
  rw [hv] at h2
  exact h2 (by rw [← e]; simp) e.symm
theorem rvalid_ok (rb : Nat) (d : Int) (w : World) (c0 : w.cell? ⟨rb, 0, none⟩ = some (.int .i64 d)) (hd : 1 ≤ d) : Calls Tryz.prog 38 #[.pointer (some ⟨rb, 0, none⟩)] w fun e w' => e = .returned (.bool true) ∧ w = w' := by
 have hd' : 0 < d := by omega
 go_enter Tryz.func38, Tryz.ntmps38
 go_wp2
 go_ret
 exact ⟨rfl, rfl⟩
theorem rvalid_nil (w : World) : Calls Tryz.prog 38 #[.pointer none] w fun e w' => e = .returned (.bool false) ∧ w = w' := by
 go_enter Tryz.func38, Tryz.ntmps38
 go_wp2
 go_ret
 exact ⟨rfl, rfl⟩
theorem rlen_ok {w : World} {rb : Nat} {d room : Int} {r : List (Int × Int)} {v : Value} (h : RAt w rb d room r v) (hd : 1 ≤ d) : Calls Tryz.prog 39 #[.pointer (some ⟨rb, 0, none⟩)] w fun e w' => e = .returned (.int .i64 r.length) ∧ w = w' := by
 have hv := rvalid_ok rb d w h.c0 hd
 have c2 := h.c2
 obtain ⟨p, c, rfl⟩ : ∃ p c, v = .slice p r.length c := by
  rcases h.row.2 with ⟨rfl, hn⟩ | ⟨g, cap, cur, rfl, _⟩
  ·exact ⟨none, 0, by rw [hn]⟩
  ·exact ⟨_, _, rfl⟩
 go_enter Tryz.func39, Tryz.ntmps39
 go_wp2_with (go_at_call 38; refine hv.mono ?_; rintro e w' ⟨rfl, rfl⟩)
 go_ret
 exact ⟨rfl, rfl⟩
theorem rlen_nil (w : World) : Calls Tryz.prog 39 #[.pointer none] w fun e w' => e = .returned (.int .i64 0) ∧ w = w' := by
 have hv := rvalid_nil w
 go_enter Tryz.func39, Tryz.ntmps39
 go_wp2_with (go_at_call 38; refine hv.mono ?_; rintro e w' ⟨rfl, rfl⟩)
 go_ret
 exact ⟨rfl, rfl⟩
theorem rnew_ok {d room : Int} (h1 : 1 ≤ d) (h2 : d ≤ 10000) (h3 : 1 ≤ room) (h4 : room ≤ 100) (w : World) :
  Calls Tryz.prog 18 #[.int .i64 d, .int .i64 room] w fun e w' => e = .returned (.tuple #[.pointer (some ⟨w.heap.size, 0, none⟩), .int .i64 0]) ∧ w' = w.alloc (.cells #[.int .i64 d, .int .i64 room, .slice none 0 0] 96) := by
 have g1 : ¬ d < 1 := by omega
 have g2 : ¬ 10000 < d := by omega
 have g3 : ¬ room < 1 := by omega
 have g4 : ¬ 100 < room := by omega
 go_enter Tryz.func18, Tryz.ntmps18
 go_wp2
 go_ret2
 exact ⟨rfl, rfl⟩
theorem rnew_no {d room : Int} (h : d < 1 ∨ 10000 < d ∨ room < 1 ∨ 100 < room) (w : World) :
  Calls Tryz.prog 18 #[.int .i64 d, .int .i64 room] w fun e w' => e = .returned (.tuple #[.pointer none, .int .i64 2]) ∧ w' = w := by
 by_cases h1 : d < 1
 ·clear h
  go_enter Tryz.func18, Tryz.ntmps18
  go_wp2
  go_ret2
  exact ⟨rfl, rfl⟩
 by_cases h2 : 10000 < d
 ·clear h
  go_enter Tryz.func18, Tryz.ntmps18
  go_wp2
  go_ret2
  exact ⟨rfl, rfl⟩
 by_cases h3 : room < 1
 ·clear h
  go_enter Tryz.func18, Tryz.ntmps18
  go_wp2
  go_ret2
  exact ⟨rfl, rfl⟩
 have h4 : 100 < room := by omega
 clear h
 go_enter Tryz.func18, Tryz.ntmps18
 go_wp2
 go_ret2
 exact ⟨rfl, rfl⟩
end Go.St
/- The document's store, walked: Best, Cut. -/
namespace Go.St
open Go Go.Proofs Go.RowKit Go.Maps Go.Shelf Go.Ev
theorem add_off (g k : Nat) : (⟨g, 0, none⟩ : Addr).add k = ⟨g, k, none⟩ := by cases k <;> simp [Addr.add]
/-- the items' own cells -/
theorem RAt.item {w : World} {rb : Nat} {d room : Int} {r : List (Int × Int)} {v : Value} (h : RAt w rb d room r v) {j : Nat} {p : Int × Int} (hj : r[j]? = some p) :
  ∃ g cap, v = .slice (some ⟨g, 0, none⟩) r.length cap ∧ w.cell? ⟨g, j * 2, none⟩ = some (.int .i64 p.1) ∧ w.cell? ⟨g, j * 2 + 1, none⟩ = some (.int .i64 p.2) := by
 have hl := (List.getElem?_eq_some_iff.1 hj).1
 obtain ⟨f0, f1⟩ := flat_get hj
 rcases h.row.2 with ⟨rfl, hn⟩ | ⟨g, cap, cur, rfl, _⟩
 ·omega
 ·have k0 := h.row.cells (g := g) rfl _ _ f0
  have k1 := h.row.cells (g := g) rfl _ _ f1
  rw [add_off] at k0 k1
  exact ⟨g, cap, rfl, k0, k1⟩
theorem RAt.slice {w : World} {rb : Nat} {d room : Int} {r : List (Int × Int)} {v : Value} (h : RAt w rb d room r v) : ∃ p c, v = .slice p r.length c := by
 rcases h.row.2 with ⟨rfl, hn⟩ | ⟨g, cap, cur, rfl, _⟩
 ·exact ⟨none, 0, by rw [hn]⟩
 ·exact ⟨_, _, rfl⟩
def Still (w w' : World) : Prop := ∃ k, w' = w.drewN k
theorem Still.grown {w w' : World} (h : Still w w') (row : Option Nat) : w.grownBy w' row := by
 obtain ⟨k, rfl⟩ := h
 exact drewN_grown w k row
def rbestV (r : Option (Int × Int)) : Value := match r with | some p => .tuple #[.int .i64 p.1, .int .i64 p.2, .bool true] | none => .tuple #[.int .i64 0, .int .i64 (-1), .bool false]
set_option maxRecDepth 20000 in
theorem rbest_ok {w : World} {rb : Nat} {d room : Int} {r : List (Int × Int)} {v : Value} (h : RAt w rb d room r v) (hi : Inc r) (hd : 1 ≤ d) (n : Int) : Calls Tryz.prog 20 #[.pointer (some ⟨rb, 0, none⟩), .int .i64 n] w fun e w' => e = .returned (rbestV (best n r)) ∧ Still w w' := by
 have hl := rlen_ok h hd
 have c2 := h.c2
 have hfew := h.few
 have hs := h.slice
 go_enter Tryz.func20, Tryz.ntmps20
 go_wp2_with (go_at_call 39; refine hl.mono ?_; rintro e w' ⟨rfl, rfl⟩)
 go_loop [7] (fun i => (∃ j : Nat, j < r.length ∧ i = .int .i64 j ∧ ∀ (k : Nat) (q : Int × Int), j < k → r[k]? = some q → n < q.1) ∨ (i = .int .i64 (-1) ∧ ∀ (k : Nat) (q : Int × Int), r[k]? = some q → n < q.1)) (fun i => (RowKit.intOf i + 1).toNat)
 case atStart =>
  by_cases hz : r.length = 0
  ·right
   refine ⟨int_congr (by omega), fun k q hq => ?_⟩
   have := (List.getElem?_eq_some_iff.1 hq).1
   omega
  ·left
   refine ⟨r.length - 1, by omega, int_congr (by omega), fun k q hk hq => ?_⟩
   have := (List.getElem?_eq_some_iff.1 hq).1
   omega
 case round =>
  rcases hrel with ⟨j, hj, rfl, hg⟩ | ⟨rfl, hg⟩
  ·have hp : r[j]? = some r[j] := by simp [hj]
   generalize r[j] = p at hp
   obtain ⟨g, cap, rfl, k0, k1⟩ := h.item hp
   have b0 : (0 : Int) ≤ (j : Int) := by omega
   have b1 : (j : Int) < (r.length : Int) := by omega
   have HG := Lib.hid hg
   by_cases hle : p.1 ≤ n
   ·have hb := best_places hi hp hle hg
    have HB := Lib.hid hb
    clear hb hg hs hl hp h hi
    go_wp2
    go_quiet (fail)
    go_wp2
    go_ret3
    exact ⟨by rw [HB.out]; rfl, _, rfl⟩
   ·have HP := Lib.hid hp
    clear hg hs hl hp h hi
    go_wp2
    go_round
    case rel =>
     by_cases hz : j = 0
     ·right
      refine ⟨int_congr (by omega), fun k q hq => ?_⟩
      by_cases hk : k = 0
      ·subst hk
       have := HP.out
       rw [hz, hq] at this
       cases this
       omega
      ·exact HG.out k q (by omega) hq
     ·left
      refine ⟨j - 1, by omega, int_congr (by omega), fun k q hk hq => ?_⟩
      by_cases hkj : k = j
      ·subst hkj
       have := HP.out
       rw [hq] at this
       cases this
       omega
      ·exact HG.out k q (by omega) hq
    case measure => simp [RowKit.intOf]
  ·have hb := best_none_places hg
   have HB := Lib.hid hb
   clear hb hg hs hl h hi
   go_wp2
   go_ret3
   exact ⟨by rw [HB.out]; rfl, 0, rfl⟩
theorem row_lo {W : World} {b : Nat} {e : TypeId} {size : Nat} {v : Value} {n : Nat} {xs : List Value} (h : W.ownsRow b e size v n xs) {i : Nat} (hi : v.ownBlock = some i) : b ≤ i := by
 rcases h.2 with ⟨rfl, _⟩ | ⟨g, cap, cur, rfl, hb, _⟩
 ·simp [Value.ownBlock] at hi
 ·have : g = i := by simpa [Value.ownBlock] using hi
  omega
theorem info98 : (Tryz.prog.info? 98).map (fun i => (i.zero, i.size, i.bytes)) = some (some (.agg #[.int .i64 0, .int .i64 0]), 2, 16) := by kernel_rfl
theorem info98_parts : ∃ i, Tryz.prog.info? 98 = some i ∧ i.zero = some (.agg #[.int .i64 0, .int .i64 0]) ∧ i.size = 2 ∧ i.bytes = 16 := by
 have h := info98
 cases hi : Tryz.prog.info? 98 with
 | none => rw [hi] at h; cases h
 | some i =>
  rw [hi] at h
  simp at h
  exact ⟨i, rfl, h⟩
theorem cells_two (w : World) (x y : Value) (t : TypeId) : ∀ j u, [x, y][j]? = some u → (w.alloc (.cells #[x, y] t)).cell? ((⟨w.heap.size, 0, none⟩ : Addr).add j) = some u := by
 intro j u hj
 rw [add_off]
 have hb := World.alloc_heap_new w (.cells #[x, y] t)
 match j, hj with
 | 0, hj =>
  simp at hj
  subst hj
  unfold World.cell?
  rw [hb]
  rfl
 | 1, hj =>
  simp at hj
  subst hj
  unfold World.cell?
  rw [hb]
  rfl
/-- the items in a store's place are set to another slice -/
theorem RAt.put {w W : World} {rb : Nat} {d room : Int} {r r' : List (Int × Int)} {v v' : Value} (h : RAt w rb d room r v) (hb : Below w.heap.size w W) (hrow : W.ownsRow w.heap.size 98 2 v' r'.length (flat r')) (hf : r'.length ≤ 4096) :
  RAt (W.setCell ⟨rb, 2, none⟩ v') rb d room r' v' ∧ w.grownBy (W.setCell ⟨rb, 2, none⟩ v') (some rb) := by
 have hrl := (Array.getElem?_eq_some_iff.1 h.blk).1
 have hbW : W.heap[rb]? = some (.cells #[.int .i64 d, .int .i64 room, v] 96 (0, 0)) := (hb.block rb hrl).trans h.blk
 have hset : W.grownBy (W.setCell ⟨rb, 2, none⟩ v') (some rb) := ⟨rfl, rfl, rfl, by simp, fun k _ hk => by
  simp only [World.setCell, Array.getElem?_modify]
  rw [if_neg (fun e => hk (by rw [e]))]⟩
 refine ⟨⟨?_, ?_, hf⟩, (below_grown hb (some rb)).trans hset⟩
 ·simp only [World.setCell, Array.getElem?_modify, if_true]
  rw [hbW]
  rfl
 ·have h2 := hrow.kept hset (by
   cases hv : v'.ownBlock with
   | none => exact .inl rfl
   | some i =>
    refine .inr fun e => ?_
    have e := Option.some.inj e
    subst e
    rcases hrow.2 with ⟨rfl, _⟩ | ⟨g, cap, cur, rfl, hge, _⟩
    ·simp [Value.ownBlock] at hv
    ·have : g = i := by simpa [Value.ownBlock] using hv
     omega)
  exact ⟨h2.1, h2.2.imp id fun ⟨g, cap, cur, h3, _, h5⟩ => ⟨g, cap, cur, h3, Nat.zero_le _, h5⟩⟩
set_option maxRecDepth 20000 in
theorem rcut_ok {w : World} {rb : Nat} {d room : Int} {r : List (Int × Int)} {v : Value} (h : RAt w rb d room r v) (hd : 1 ≤ d) (n : Int) : Calls Tryz.prog 21 #[.pointer (some ⟨rb, 0, none⟩), .int .i64 n] w fun e w' => e = .returned (.int .i64 0) ∧ ∃ v', RAt w' rb d room (cut n r) v' ∧ w.grownBy w' (some rb) := by
 have hv := rvalid_ok rb d w h.c0 hd
 have hfew := h.few
 obtain ⟨i98, hi98, hz0, hz1, hz2⟩ := info98_parts
 obtain ⟨ps, pc, hsl⟩ := h.slice
 go_enter Tryz.func21, Tryz.ntmps21
 go_wp2_with (go_at_call 38; refine hv.mono ?_; rintro e w' ⟨rfl, rfl⟩)
 go_loopw [5, 6] (fun kv i wr => ∃ k : Nat, k ≤ r.length ∧ i = .int .i64 k ∧ wr.ownsRow w.heap.size 98 2 kv (cut n (r.take k)).length (flat (cut n (r.take k))) ∧ Below w.heap.size w wr) (fun _ i _ => r.length - (RowKit.intOf i).toNat)
 case atStart => exact ⟨0, by omega, rfl, World.ownsRow_nil _ _ _ _, Below.refl _ _⟩
 case round =>
  obtain ⟨k, hk, rfl, hrow, hbl⟩ := hrel
  by_cases hlt : k < r.length
  ·have hp : r[k]? = some r[k] := by simp [hlt]
   generalize r[k] = p at hp
   have hW := h.far (below_grown hbl none) (by simp) (by simp)
   have c2 := hW.c2
   obtain ⟨g, cap, rfl, k0, k1⟩ := hW.item hp
   have b0 : (0 : Int) ≤ (k : Int) := by omega
   have b1 : (k : Int) < (r.length : Int) := by omega
   have hct := cut_take (n := n) hp
   have hle1 : (cut n (r.take k)).length ≤ 4096 := Nat.le_trans (List.length_filter_le _ _) (by rw [List.length_take]; omega)
   have HC := Lib.hid hct
   have HR := Lib.hid hrow
   by_cases hle : p.1 ≤ n
   ·clear hct hW hp
    go_wp2_with (at_builtin; refine wpList_append_own_at _ rfl _ _ 94 rfl w.heap.size 98 i98 (.agg #[.int .i64 0, .int .i64 0]) 2 16 Tryz.underlying94 hi98 hz0 hz1 hz2 rfl (by decide) _ _ _ rfl (hrow.alloc _) ⟨wr.heap.size, 0, none⟩ 1 1 [.int .i64 p.1, .int .i64 p.2] rfl rfl (cells_two _ _ _ _) (by simp [Value.oneCell']) (by unfold maxLen; omega) (by omega) (by have := hbl.size; simp; omega) ?_; intro v' w1 hown' hgrow hnil hat)
    have hbn : Below w.heap.size w w1 := (hbl.alloc hbl.size _).grown hgrow (by have := hbl.size; simp; omega) (fun j e => row_lo HR.out (i := j) e)
    refine ⟨⟨k + 1, by omega, int_congr (by omega), ?_, hbn⟩, by simp [RowKit.intOf]; omega⟩
    rw [HC.out, if_pos hle, List.length_append, flat_append, flat_one]
    exact hown'
   ·clear hct hW hp
    go_wp2
    refine ⟨⟨k + 1, by omega, int_congr (by omega), ?_, hbl⟩, by simp [RowKit.intOf]; omega⟩
    rw [HC.out, if_neg hle, List.append_nil]
    exact HR.out
  ·have hke : k = r.length := by omega
   subst hke
   rw [List.take_length] at hrow
   have hW := h.far (below_grown hbl none) (by simp) (by simp)
   have c2 := hW.c2
   have f2 := hW.f2
   have hput := h.put hbl hrow (Nat.le_trans (List.length_filter_le _ _) hfew)
   have hsk : ∃ p c, u5 = .slice p (cut n r).length c := by
    rcases hrow.2 with ⟨e, hn⟩ | ⟨g, cap, cur, e, _⟩
    ·exact ⟨none, 0, by rw [e, hn]⟩
    ·exact ⟨_, _, e⟩
   obtain ⟨p5, c5, rfl⟩ := hsk
   have HP := Lib.hid hput
   clear hput hW
   go_wp2
   go_ret
   exact ⟨rfl, _, HP.out.1, HP.out.2⟩
end Go.St
