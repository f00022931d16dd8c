/- What a store keeps, as a list in order of its indexes: plain laws, no program in sight. -/
import Derived.Test.YtlgngfiiaoodjaaGreatDoorEvCtr
import Derived.Maps.OwnSet
import Derived.Maps.OwnOps
set_option linter.unusedVariables false
set_option linter.unusedSimpArgs false
/- What a store keeps, as a list in order of its indexes: plain laws, no program in sight. -/
namespace Go.St
variable {α : Type}
def keys (l : List (Int × α)) : List Int := l.map (·.1)
/-- in order, no index twice -/
def Inc (l : List (Int × α)) : Prop := (keys l).Pairwise (· < ·)
def has (i : Int) (l : List (Int × α)) : Bool := l.any (fun p => p.1 == i)
def ins (i : Int) (x : α) : List (Int × α) → List (Int × α)
 | [] => [(i, x)]
 | (k, y) :: t => if k < i then (k, y) :: ins i x t else (i, x) :: (k, y) :: t
/-- without the first index that is not 0 -/
def less : List (Int × α) → Option (List (Int × α))
 | [] => none
 | (k, y) :: t => if k = 0 then (match t with | [] => none | _ :: u => some ((k, y) :: u)) else some t
def offer (d room i : Int) (x : α) (l : List (Int × α)) : Bool × List (Int × α) :=
 if i.tmod d ≠ 0 then (false, l) else if has i l then (false, l) else if (l.length : Int) < room then (true, ins i x l)
 else match less l with | none => (false, l) | some t => (true, ins i x t)
def cut (n : Int) (l : List (Int × α)) : List (Int × α) := l.filter (fun p => decide (p.1 ≤ n))
def best (n : Int) (l : List (Int × α)) : Option (Int × α) := (cut n l).getLast?

theorem less_cons (k : Int) (y : α) (t : List (Int × α)) : less ((k, y) :: t) = if k = 0 then (match t with | [] => none | _ :: u => some ((k, y) :: u)) else some t := rfl
theorem Inc.nil : Inc ([] : List (Int × α)) := List.Pairwise.nil
theorem inc_cons {k : Int} {y : α} {t : List (Int × α)} : Inc ((k, y) :: t) ↔ (∀ p ∈ t, k < p.1) ∧ Inc t := by
 unfold Inc keys
 rw [List.map_cons, List.pairwise_cons]
 simp
theorem has_iff {i : Int} {l : List (Int × α)} : has i l = true ↔ ∃ y, (i, y) ∈ l := by
 unfold has
 rw [List.any_eq_true]
 constructor
 ·rintro ⟨⟨k, y⟩, hm, he⟩
  have : k = i := by simpa using he
  subst this; exact ⟨y, hm⟩
 ·rintro ⟨y, hm⟩; exact ⟨_, hm, by simp⟩
theorem mem_ins {i : Int} {x : α} {p : Int × α} : ∀ {l : List (Int × α)}, p ∈ ins i x l ↔ p = (i, x) ∨ p ∈ l
 | [] => by simp [ins]
 | (k, y) :: t => by
  unfold ins
  split
  ·simp only [List.mem_cons, mem_ins (l := t)]
   constructor
   ·rintro (h | h | h) <;> simp [h]
   ·rintro (h | h | h) <;> simp [h]
  ·simp
theorem ins_perm {i : Int} {x : α} : ∀ (l : List (Int × α)), (ins i x l).Perm ((i, x) :: l)
 | [] => .refl _
 | (k, y) :: t => by
  unfold ins
  split
  ·exact ((ins_perm t).cons (k, y)).trans (.swap _ _ _)
  ·exact .refl _
theorem length_ins {i : Int} {x : α} (l : List (Int × α)) : (ins i x l).length = l.length + 1 := by rw [(ins_perm l).length_eq]; rfl
theorem Inc.ins {i : Int} {x : α} : ∀ {l : List (Int × α)}, Inc l → has i l = false → Inc (ins i x l)
 | [], _, _ => by unfold St.ins; exact inc_cons.2 ⟨by simp, .nil⟩
 | (k, y) :: t, h, hn => by
  obtain ⟨h1, h2⟩ := inc_cons.1 h
  have hk : k ≠ i := by
   rintro rfl
   have : has k ((k, y) :: t) = true := has_iff.2 ⟨y, by simp⟩
   rw [this] at hn; cases hn
  have hn' : has i t = false := by
   cases hh : has i t with
   | false => rfl
   | true =>
    obtain ⟨z, hz⟩ := has_iff.1 hh
    have : has i ((k, y) :: t) = true := has_iff.2 ⟨z, by simp [hz]⟩
    rw [this] at hn; cases hn
  unfold St.ins
  split
  ·next hlt =>
   refine inc_cons.2 ⟨fun p hp => ?_, Inc.ins h2 hn'⟩
   rcases mem_ins.1 hp with rfl | hp
   ·exact hlt
   ·exact h1 p hp
  ·next hge =>
   refine inc_cons.2 ⟨fun p hp => ?_, h⟩
   rcases List.mem_cons.1 hp with rfl | hp
   ·show i < k; omega
   ·have := h1 p hp; omega
theorem Inc.filter {l : List (Int × α)} (h : Inc l) (f : Int × α → Bool) : Inc (l.filter f) := by
 unfold Inc keys at *
 exact h.sublist (List.filter_sublist.map _)
theorem Inc.cut {l : List (Int × α)} (h : Inc l) (n : Int) : Inc (cut n l) := h.filter _
theorem Inc.less {l t : List (Int × α)} (h : Inc l) (hl : less l = some t) : Inc t := by
 cases l with
 | nil => cases hl
 | cons p u =>
  obtain ⟨k, y⟩ := p
  rw [less_cons] at hl
  obtain ⟨h1, h2⟩ := inc_cons.1 h
  split at hl
  ·split at hl
   ·cases hl
   ·next q v =>
    cases hl
    obtain ⟨z, w⟩ := q
    exact inc_cons.2 ⟨fun p hp => h1 p (by simp [hp]), (inc_cons.1 h2).2⟩
  ·cases hl; exact h2
/-- which one goes -/
theorem less_gone {l t : List (Int × α)} (h : Inc l) (hp : ∀ p ∈ l, 0 ≤ p.1) (hl : less l = some t) : ∃ k, k ≠ 0 ∧ (∀ p ∈ l, p.1 ≠ 0 → k ≤ p.1) ∧ has k l = true ∧ t = l.filter (fun p => decide (p.1 ≠ k)) := by
 cases l with
 | nil => cases hl
 | cons p u =>
  obtain ⟨k, y⟩ := p
  rw [less_cons] at hl
  obtain ⟨h1, h2⟩ := inc_cons.1 h
  split at hl
  ·next hk =>
   subst hk
   split at hl
   ·cases hl
   ·next q v =>
    cases hl
    obtain ⟨k, z⟩ := q
    obtain ⟨h3, h4⟩ := inc_cons.1 h2
    have hk : 0 < k := h1 (k, z) (by simp)
    refine ⟨k, by omega, fun p hp h0 => ?_, has_iff.2 ⟨z, by simp⟩, ?_⟩
    ·rcases List.mem_cons.1 hp with rfl | hp
     ·exact absurd rfl h0
     ·rcases List.mem_cons.1 hp with rfl | hp
      ·exact Int.le_refl _
      ·exact Int.le_of_lt (h3 p hp)
    ·rw [List.filter_cons_of_pos (by simp; omega), List.filter_cons_of_neg (by simp)]
     congr 1
     exact (List.filter_eq_self.2 fun p hp => by have := h3 p hp; simp; omega).symm
  ·next hk =>
   cases hl
   refine ⟨k, hk, fun p hp _ => ?_, has_iff.2 ⟨y, by simp⟩, ?_⟩
   ·rcases List.mem_cons.1 hp with rfl | hp
    ·exact Int.le_refl _
    ·exact Int.le_of_lt (h1 p hp)
   ·rw [List.filter_cons_of_neg (by simp)]
    exact (List.filter_eq_self.2 fun p hp => by have := h1 p hp; simp; omega).symm
theorem less_none {l : List (Int × α)} (h : Inc l) (hl : less l = none) : ∀ p ∈ l, p.1 = 0 := by
 cases l with
 | nil => simp
 | cons p u =>
  obtain ⟨k, y⟩ := p
  rw [less_cons] at hl
  split at hl
  ·next hk =>
   subst hk
   split at hl
   ·simp
   ·cases hl
  ·cases hl
theorem length_less {l t : List (Int × α)} (hl : less l = some t) : l.length = t.length + 1 := by
 cases l with
 | nil => cases hl
 | cons p u =>
  obtain ⟨k, y⟩ := p
  rw [less_cons] at hl
  split at hl
  ·split at hl
   ·cases hl
   ·cases hl; rfl
  ·cases hl; rfl
theorem less_sub {l t : List (Int × α)} (hl : less l = some t) : ∀ p ∈ t, p ∈ l := by
 cases l with
 | nil => cases hl
 | cons p u =>
  obtain ⟨k, y⟩ := p
  rw [less_cons] at hl
  split at hl
  ·split at hl
   ·cases hl
   ·cases hl; intro p hp; rcases List.mem_cons.1 hp with rfl | hp <;> simp_all
  ·cases hl; intro p hp; simp [hp]
theorem has_false_of {i : Int} {l t : List (Int × α)} (h : ∀ p ∈ t, p ∈ l) (hn : has i l = false) : has i t = false := by
 cases hh : has i t with
 | false => rfl
 | true =>
  obtain ⟨z, hz⟩ := has_iff.1 hh
  rw [has_iff.2 ⟨z, h _ hz⟩] at hn; cases hn
theorem Inc.offer {d room i : Int} {x : α} {l : List (Int × α)} (h : Inc l) : Inc (offer d room i x l).2 := by
 unfold St.offer
 split
 ·exact h
 ·split
  ·exact h
  ·next hn =>
   have hn : has i l = false := by simpa using hn
   split
   ·exact h.ins hn
   ·split
    ·exact h
    ·next t ht => exact (h.less ht).ins (has_false_of (less_sub ht) hn)
theorem mem_offer {d room i : Int} {x : α} {l : List (Int × α)} {p : Int × α} (h : p ∈ (offer d room i x l).2) : p ∈ l ∨ (p = (i, x) ∧ i.tmod d = 0) := by
 unfold St.offer at h
 split at h
 ·exact .inl h
 ·next h0 =>
  have h0 : i.tmod d = 0 := Decidable.of_not_not h0
  split at h
  ·exact .inl h
  ·split at h
   ·rcases mem_ins.1 h with h | h
    ·exact .inr ⟨h, h0⟩
    ·exact .inl h
   ·split at h
    ·exact .inl h
    ·next t ht =>
     rcases mem_ins.1 h with h | h
     ·exact .inr ⟨h, h0⟩
     ·exact .inl (less_sub ht p h)
theorem length_offer {d room i : Int} {x : α} {l : List (Int × α)} (h : (l.length : Int) ≤ room) : ((offer d room i x l).2.length : Int) ≤ room := by
 unfold St.offer
 split
 ·exact h
 ·split
  ·exact h
  ·split
   ·rw [length_ins]; omega
   ·split
    ·exact h
    ·next t ht => rw [length_ins]; have := length_less ht; omega
theorem length_offer_le {d room i : Int} {x : α} {l : List (Int × α)} : (offer d room i x l).2.length ≤ l.length + 1 := by
 unfold St.offer
 split
 ·simp
 ·split
  ·simp
  ·split
   ·rw [length_ins]; simp
   ·split
    ·simp
    ·next t ht => rw [length_ins]; have := length_less ht; simp; omega
theorem mem_cut {n : Int} {l : List (Int × α)} {p : Int × α} : p ∈ cut n l ↔ p ∈ l ∧ p.1 ≤ n := by unfold cut; simp
theorem best_some {n : Int} {l : List (Int × α)} {p : Int × α} (h : best n l = some p) : p ∈ l ∧ p.1 ≤ n := mem_cut.1 (List.mem_of_getLast? h)
theorem Inc.last {l : List (Int × α)} (h : Inc l) {p : Int × α} (hl : l.getLast? = some p) : ∀ q ∈ l, q.1 ≤ p.1 := by
 obtain ⟨ys, rfl⟩ := List.getLast?_eq_some_iff.1 hl
 intro q hq
 unfold Inc keys at h
 rw [List.map_append, List.pairwise_append] at h
 rcases List.mem_append.1 hq with hq | hq
 ·exact Int.le_of_lt (h.2.2 q.1 (List.mem_map_of_mem hq) p.1 (by simp))
 ·simp at hq; subst hq; exact Int.le_refl _
theorem Inc.uniq {l : List (Int × α)} (h : Inc l) {p q : Int × α} (hp : p ∈ l) (hq : q ∈ l) (he : p.1 = q.1) : p = q := by
 induction l with
 | nil => cases hp
 | cons a t ih =>
  obtain ⟨h1, h2⟩ := inc_cons.1 (show Inc ((a.1, a.2) :: t) from h)
  rcases List.mem_cons.1 hp with e1 | hp1 <;> rcases List.mem_cons.1 hq with e2 | hq1
  ·rw [e1, e2]
  ·have := h1 q hq1; rw [e1] at he; omega
  ·have := h1 p hp1; rw [e2] at he; omega
  ·exact ih h2 hp1 hq1
/-- the greatest one that is there is found -/
theorem best_is {n : Int} {l : List (Int × α)} (h : Inc l) {p : Int × α} (hp : p ∈ l) (hn : p.1 ≤ n) (hg : ∀ q ∈ l, q.1 ≤ n → q.1 ≤ p.1) : best n l = some p := by
 have hm := mem_cut.2 ⟨hp, hn⟩
 cases hb : best n l with
 | none =>
  unfold best at hb
  rw [List.getLast?_eq_none_iff] at hb
  rw [hb] at hm; cases hm
 | some q =>
  obtain ⟨h1, h2⟩ := best_some hb
  have h3 := (h.cut n).last hb p hm
  have h4 := hg q h1 h2
  exact congrArg some (h.uniq h1 hp (by omega))
theorem best_none {n : Int} {l : List (Int × α)} : best n l = none ↔ ∀ p ∈ l, n < p.1 := by
 unfold best cut
 rw [List.getLast?_eq_none_iff, List.filter_eq_nil_iff]
 constructor
 ·intro h p hp; have := h p hp; simp at this; exact this
 ·intro h p hp; have := h p hp; simp; exact this
end Go.St
/- A store's map, as the kit reads it: its entries are the list of what is kept; laws of look-up, store, delete, length and of the keys in order. -/
namespace Go.St
open Go Go.Proofs Go.RowKit Go.Maps Go.Sort Go.Shelf Go.Ev
/-- a value, as it is -/
def heldR (v : Value) : Option (DataW Value × List MemPlace) := some (.held v, [])
def ent (p : Int × Value) : Lit × DataW Value := (.int .i64 p.1, .held p.2)
def datum (l : List (Int × Value)) : DataW Value := .map (l.map ent)
theorem heldR_inv {v : Value} {x : Value} {ps : List MemPlace} (h : heldR v = some (.held x, ps)) : v = x := by
 unfold heldR at h
 cases h; rfl
theorem sameKey_int (a b : Int) : (Lit.int .i64 a).sameKey (Lit.int .i64 b) = (a == b) := by
 simp [Lit.sameKey]
 by_cases h : a = b <;> simp [h]
theorem before_int (a b : Int) : (Lit.int .i64 a).before (Lit.int .i64 b) = decide (a < b) := rfl
theorem has_datum (i : Int) (l : List (Int × Value)) : Maps.has (datum l) (.int .i64 i) = has i l := by
 unfold datum has
 rw [has_eq, List.any_map]
 congr 1
 funext p
 simp only [Function.comp_apply, ent, sameKey_int]
theorem size_datum (l : List (Int × Value)) : Maps.size (datum l) = l.length := by
 unfold datum
 rw [size_eq, List.length_map]
/-- what stands at an index -/
def at? (i : Int) (l : List (Int × Value)) : Value := match l.find? (fun p => p.1 == i) with | some p => p.2 | none => .pointer none
theorem atKey_datum (i : Int) (l : List (Int × Value)) : (datum l).atKey (.int .i64 i) (.held (.pointer none)) = .held (at? i l) := by
 unfold datum DataW.atKey at?
 simp only [List.find?_map]
 have e : ((fun p : Lit × DataW Value => p.1.sameKey (.int .i64 i)) ∘ ent) = fun p : Int × Value => p.1 == i := by
  funext p
  simp only [Function.comp_apply, ent, sameKey_int]
 rw [e]
 cases l.find? (fun p => p.1 == i) <;> rfl
theorem at_of_mem {i : Int} {v : Value} {l : List (Int × Value)} (h : Inc l) (hm : (i, v) ∈ l) : at? i l = v := by
 unfold at?
 cases hf : l.find? (fun p => p.1 == i) with
 | none => exact absurd (List.find?_eq_none.1 hf _ hm) (by simp)
 | some p =>
  have h1 := List.mem_of_find?_eq_some hf
  have h2 : p.1 = i := by simpa using List.find?_some hf
  have := h.uniq h1 hm h2
  rw [this]
theorem at_none {i : Int} {l : List (Int × Value)} (h : has i l = false) : at? i l = .pointer none := by
 unfold at?
 cases hf : l.find? (fun p => p.1 == i) with
 | none => rfl
 | some p =>
  have h1 := List.mem_of_find?_eq_some hf
  have h2 : p.1 = i := by simpa using List.find?_some hf
  subst h2
  rw [has_iff.2 ⟨p.2, h1⟩] at h; cases h
theorem insert_datum {i : Int} {v : Value} : ∀ {l : List (Int × Value)}, has i l = false → DataW.insert (ent (i, v)) (l.map ent) = (ins i v l).map ent
 | [], _ => rfl
 | (k, y) :: t, h => by
  have hk : k ≠ i := by
   rintro rfl
   rw [has_iff.2 ⟨y, by simp⟩] at h; cases h
  have ht : has i t = false := has_false_of (l := (k, y) :: t) (fun p hp => by simp [hp]) h
  rw [List.map_cons]
  unfold DataW.insert St.ins
  have e : (ent (i, v)).1.before (ent (k, y)).1 = decide (i < k) := rfl
  rw [e]
  by_cases hlt : k < i
  ·have h1 : ¬ i < k := by omega
   rw [if_pos hlt, decide_eq_false h1]
   simp only [Bool.false_eq_true, if_false, List.map_cons]
   rw [insert_datum ht]
  ·have h1 : i < k := by omega
   rw [if_neg hlt, decide_eq_true h1]
   simp
theorem put_datum {i : Int} {v : Value} {l : List (Int × Value)} (h : has i l = false) : (datum l).put (.int .i64 i) (.held v) = datum (ins i v l) := by
 unfold datum DataW.put
 simp only
 have e : (l.map ent).filter (fun p => !p.1.sameKey (.int .i64 i)) = l.map ent := by
  refine List.filter_eq_self.2 fun p hp => ?_
  obtain ⟨q, hq, rfl⟩ := List.mem_map.1 hp
  simp only [ent, sameKey_int, Bool.not_eq_true']
  cases hh : (q.1 == i) with
  | false => rfl
  | true =>
   have : q.1 = i := by simpa using hh
   subst this
   rw [has_iff.2 ⟨q.2, hq⟩] at h; cases h
 rw [e]
 exact congrArg _ (insert_datum h)
theorem del_datum {i : Int} {l : List (Int × Value)} : (datum l).del (.int .i64 i) = datum (l.filter (fun p => decide (p.1 ≠ i))) := by
 unfold datum DataW.del
 simp only
 congr 1
 rw [List.filter_map]
 congr 1
 refine List.filter_congr fun p _ => ?_
 simp only [Function.comp_apply, ent, sameKey_int]
 by_cases h : p.1 = i <;> simp [h]
theorem intKeys_datum (l : List (Int × Value)) : Go.intKeys (datum l) = keys l := by
 show (l.map ent).map (fun p => intOf p.1) = l.map (·.1)
 rw [List.map_map]
 rfl
theorem sorted_keys {l : List (Int × Value)} (h : Inc l) {ss : List Int} (hp : ss.Perm (keys l)) : ss.mergeSort (fun x y => decide (x ≤ y)) = keys l := by
 rw [sortI_eq hp]
 refine List.Perm.eq_of_pairwise (le := fun a b : Int => a ≤ b) (fun a b _ _ h1 h2 => Int.le_antisymm h1 h2) (sortI_sorted _) ?_ (sortI_perm _)
 unfold Inc at h
 exact h.imp Int.le_of_lt
end Go.St
/- The plain law of StoreKeeps: multiples offered one after the other leave 0 and the last ones. -/
namespace Go.St
variable {α : Type}
/-- m, m + 1, .. : c of them -/
def F (d : Int) (X : Nat → α) (m c : Nat) : List (Int × α) := (List.range c).map fun t => (((m + t : Nat) : Int) * d, X (m + t))
/-- what is kept behind n offers -/
def kept (d : Int) (room : Nat) (X : Nat → α) : Nat → List (Int × α)
 | 0 => []
 | n + 1 => (0, X 0) :: F d X (n + 1 - (min (n + 1) room - 1)) (min (n + 1) room - 1)
theorem F_succ (d : Int) (X : Nat → α) (m c : Nat) : F d X m (c + 1) = F d X m c ++ [(((m + c : Nat) : Int) * d, X (m + c))] := by
 unfold F; rw [List.range_succ, List.map_append]; rfl
theorem F_cons (d : Int) (X : Nat → α) (m c : Nat) : F d X m (c + 1) = ((m : Int) * d, X m) :: F d X (m + 1) c := by
 unfold F
 rw [List.range_succ_eq_map, List.map_cons, List.map_map]
 simp only [Nat.add_zero]
 congr 1
 apply List.map_congr_left
 intro t _
 simp only [Function.comp]
 rw [show m + t.succ = m + 1 + t by omega]
theorem length_F (d : Int) (X : Nat → α) (m c : Nat) : (F d X m c).length = c := by unfold F; simp
theorem mem_F {d : Int} {X : Nat → α} {m c : Nat} {p : Int × α} (h : p ∈ F d X m c) : ∃ j, m ≤ j ∧ j < m + c ∧ p = ((j : Int) * d, X j) := by
 unfold F at h
 obtain ⟨t, ht, rfl⟩ := List.mem_map.1 h
 have := List.mem_range.1 ht
 exact ⟨m + t, by omega, by omega, rfl⟩
theorem ins_last {i : Int} {x : α} : ∀ {l : List (Int × α)}, (∀ p ∈ l, p.1 < i) → ins i x l = l ++ [(i, x)]
 | [], _ => rfl
 | (k, y) :: t, h => by
  have h1 : k < i := h (k, y) (by simp)
  rw [ins, if_pos h1, ins_last (fun p hp => h p (by simp [hp]))]; rfl
theorem mul_lt {a b : Nat} {d : Int} (hd : 1 ≤ d) (h : a < b) : (a : Int) * d < (b : Int) * d := Int.mul_lt_mul_of_pos_right (by omega) (by omega)
theorem mem_kept {d : Int} {room : Nat} {X : Nat → α} {n : Nat} {p : Int × α} (h : p ∈ kept d room X n) : ∃ j, j < n ∧ p = ((j : Int) * d, X j) := by
 cases n with
 | zero => cases h
 | succ n =>
  rcases List.mem_cons.1 h with rfl | h
  ·exact ⟨0, by omega, by simp⟩
  ·obtain ⟨j, h1, h2, rfl⟩ := mem_F h
   exact ⟨j, by omega, rfl⟩
theorem length_kept {d : Int} {room : Nat} (hr : 1 ≤ room) (X : Nat → α) (n : Nat) : (kept d room X n).length = min n room := by
 cases n with
 | zero => simp [kept]
 | succ n => rw [kept, List.length_cons, length_F]; omega
theorem offer_kept_eq {d : Int} {room : Nat} {X : Nat → α} (hd : 1 ≤ d) (hr : 1 ≤ room) (n : Nat) :
  offer d room ((n : Int) * d) (X n) (kept d room X n) = (decide (n = 0 ∨ 1 < room), kept d room X (n + 1)) := by
 have hn : has ((n : Int) * d) (kept d room X n) = false := by
  cases hh : has ((n : Int) * d) (kept d room X n) with
  | false => rfl
  | true =>
   obtain ⟨y, hy⟩ := has_iff.1 hh
   obtain ⟨j, hj, he⟩ := mem_kept hy
   have := mul_lt hd hj
   have e1 := congrArg Prod.fst he
   simp only at e1
   omega
 have hlt : ∀ p ∈ kept d room X n, p.1 < (n : Int) * d := fun p hp => by
  obtain ⟨j, hj, rfl⟩ := mem_kept hp
  exact mul_lt hd hj
 have hm : ((n : Int) * d).tmod d = 0 := Int.mul_tmod_left _ _
 unfold offer
 rw [if_neg (by rw [hm]; simp), if_neg (by rw [hn]; simp), length_kept hr]
 by_cases hnr : n < room
 ·rw [if_pos (by omega), ins_last hlt]
  cases n with
  | zero =>
   simp only [kept, List.nil_append]
   rw [show min (0 + 1) room - 1 = 0 by omega]
   simp [F]
  | succ n =>
   have h1 : (decide (n + 1 = 0 ∨ 1 < room)) = true := decide_eq_true (by omega)
   rw [h1]
   simp only [kept]
   rw [show min (n + 1) room - 1 = n by omega, show min (n + 1 + 1) room - 1 = n + 1 by omega, show n + 1 - n = 1 by omega, show n + 1 + 1 - (n + 1) = 1 by omega, F_succ, List.cons_append, show 1 + n = n + 1 by omega]
 ·rw [if_neg (by omega)]
  cases n with
  | zero => omega
  | succ n =>
   by_cases hr1 : room = 1
   ·subst hr1
    simp only [kept]
    rw [show min (n + 1) 1 - 1 = 0 by omega, show min (n + 1 + 1) 1 - 1 = 0 by omega]
    simp [F, less]
   ·have h1 : (decide (n + 1 = 0 ∨ 1 < room)) = true := decide_eq_true (by omega)
    rw [h1]
    obtain ⟨c, hc⟩ : ∃ c, min (n + 1) room - 1 = c + 1 := ⟨min (n + 1) room - 2, by omega⟩
    have hk : kept d room X (n + 1) = (0, X 0) :: ((((n - c : Nat) : Int) * d, X (n - c)) :: F d X (n - c + 1) c) := by
     simp only [kept]
     rw [hc, F_cons, show n + 1 - (c + 1) = n - c by omega]
    rw [hk] at hlt ⊢
    rw [less_cons, if_pos rfl]
    simp only
    rw [ins_last (fun p hp => hlt p (by rcases List.mem_cons.1 hp with rfl | hp <;> simp_all))]
    simp only [kept]
    rw [show min (n + 1 + 1) room - 1 = c + 1 by omega, F_succ, show n + 1 + 1 - (c + 1) = n - c + 1 by omega, show n - c + 1 + c = n + 1 by omega]
    rfl
theorem best_append {n : Int} (a : List (Int × α)) (p : Int × α) : best n (a ++ [p]) = if p.1 ≤ n then some p else best n a := by
 unfold best cut
 rw [List.filter_append]
 by_cases h : p.1 ≤ n
 ·rw [if_pos h, List.filter_cons_of_pos (by simpa using h)]; simp
 ·rw [if_neg h, List.filter_cons_of_neg (by simpa using h)]; simp
/-- the i-th index that is kept -/
theorem kept_at {d : Int} {room : Nat} (hr : 1 ≤ room) (X : Nat → α) {n i : Nat} (hi : i < min n room) : (kept d room X n)[i]? = some (((if i = 0 then 0 else n - min n room + i : Nat) : Int) * d, X (if i = 0 then 0 else n - min n room + i)) := by
 cases n with
 | zero => omega
 | succ n =>
  simp only [kept]
  cases i with
  | zero => simp
  | succ i =>
   rw [List.getElem?_cons_succ]
   unfold F
   rw [List.getElem?_map, List.getElem?_range (by omega)]
   simp only [Option.map_some, Nat.add_one_ne_zero, if_false]
   rw [show n + 1 - (min (n + 1) room - 1) + i = n + 1 - min (n + 1) room + (i + 1) by omega]
end Go.St
