/- maps.DeleteFunc, entry by entry: what is left of a map whose keys are ints is what the predicate does not strike, in its order, with its stamps. -/
import Derived.Test.YtlgngfiiaoodjaaGreatDoorEvCtr
import Derived.Shelf.SlLaysDf
import Derived.WalkKit
import Derived.Maps.RangeWalk
import Derived.Laws.IdiomRangeMap
import Derived.Deep.LoopGhost
namespace Go.Ev
open Go Go.Proofs Go.RowKit Go.Maps Go.Shelf
open Go.ChangeMaps (setBlock)
def keyPd (pd : Int → Bool) (e : MapEntry) : Bool := match e.key with | .int _ n => pd n | _ => false
theorem filter_of_sub {α : Type} {p : α → Bool} : ∀ {l' l : List α}, l'.Sublist l → l.Nodup → (∀ x, x ∈ l' ↔ x ∈ l ∧ p x = true) → l' = l.filter p
  | _, _, .slnil, _, _ => rfl
  | l', a :: l, .cons _ h, hn, hm => by
    rw [List.nodup_cons] at hn
    have ha : p a = false := by
      cases hp : p a with
      | false => rfl
      | true => exact absurd (h.subset ((hm a).2 ⟨List.mem_cons_self .., hp⟩)) hn.1
    rw [List.filter_cons_of_neg (by simp [ha])]
    refine filter_of_sub h hn.2 fun x => ?_
    rw [hm x]
    constructor
    · rintro ⟨h1, h2⟩
      rcases List.mem_cons.1 h1 with rfl | h1
      · rw [ha] at h2; cases h2
      · exact ⟨h1, h2⟩
    · rintro ⟨h1, h2⟩; exact ⟨List.mem_cons_of_mem _ h1, h2⟩
  | a :: l', _ :: l, .cons_cons _ h, hn, hm => by
    rw [List.nodup_cons] at hn
    have ha : p a = true := ((hm a).1 (List.mem_cons_self ..)).2
    rw [List.filter_cons_of_pos ha]
    congr 1
    refine filter_of_sub h hn.2 fun x => ?_
    constructor
    · intro hx
      have := (hm x).1 (List.mem_cons_of_mem _ hx)
      exact ⟨h.subset hx, this.2⟩
    · rintro ⟨h1, h2⟩
      rcases List.mem_cons.1 ((hm x).2 ⟨List.mem_cons_of_mem _ h1, h2⟩) with rfl | h3
      · exact absurd h1 hn.1
      · exact h3
theorem setBlock_ne {w : World} {r i : Nat} {X : Obj} (h : i ≠ r) : (setBlock w r X).heap[i]? = w.heap[i]? := by
  show (w.heap.setIfInBounds r X)[i]? = _
  rw [Array.getElem?_setIfInBounds, if_neg (Ne.symm h)]
section
variable {P : Program} (w : World) {ops : Array Oper} {rest : List Oper} {o : Oper} {a : Act} {Q : Exit → Act → World → Prop}
/-- the step of a range over a map, entry by entry -/
theorem wpList_next_exact (hg : o.guard = none) (it : Operand) (hop : o.op = Op.next it false) (b r clock : Nat) (es : Array MapEntry) (seen : Array Nat) (hit : a.eval it = .pointer (some ⟨r, 0, none⟩))
    (hr : w.heap[r]? = some (.mapIter (some b) clock seen clock)) (hb : w.heap[b]? = some (.map es clock)) (hne : r ≠ b) (hold : ∀ x ∈ es.toList, x.born < clock) (hnd : (es.toList.map (·.born)).Nodup)
    (hDone : (leftOf es seen).size = 0 → wpList P ops Q rest (a.put o.dst (.tuple #[.bool false])) w)
    (hMore : ∀ (key val : Value) (e : MapEntry) (w' : World), key = e.key → val = e.val → e ∈ (leftOf es seen).toList → w'.heap[r]? = some (.mapIter (some b) clock (seen.push e.born) clock) → w'.heap[b]? = some (.map es clock) → w.grownBy w' (some r) →
      w'.heap.size = w.heap.size → (Instr.entry (.pointer (some ⟨r, 0, none⟩))).run P w' = .ok (.tuple #[key, val]) w' → wpList P ops Q rest (a.put o.dst (.tuple #[.bool true, key, val])) w') :
    wpList P ops Q (o :: rest) a w := by
  refine wpList_plain hg fun K' hK' => ?_
  unfold Oper.wp
  rcases run_next_at (P := P) w o.type r b clock clock seen es clock hr hb hold (Nat.le_refl _) with ⟨h0, hrun⟩ | ⟨e, he, w1, hal, hrun⟩
  · simp [execOp, hop, hit, hrun, Result.andThen]
    exact hK' _ _ (hDone h0)
  · simp [execOp, hop, hit, hrun, Result.andThen]
    have hrl : r < w.heap.size := (Array.getElem?_eq_some_iff.1 hr).1
    have hes : e ∈ es.toList := by
      unfold leftOf at he
      rw [Array.toList_filter] at he
      exact (List.mem_filter.1 he).1
    have h1 : (setBlock w1 r (.mapIter (some b) clock (seen.push e.born) clock)).heap[r]? = some (.mapIter (some b) clock (seen.push e.born) clock) := by
      rcases hal with rfl | rfl <;> simp [setBlock, hrl]
    have h2 : (setBlock w1 r (.mapIter (some b) clock (seen.push e.born) clock)).heap[b]? = some (.map es clock) := by
      rw [setBlock_ne (Ne.symm hne)]
      rcases hal with rfl | rfl <;> exact hb
    refine hK' _ _ (hMore e.key e.val e _ rfl rfl he h1 h2 ?_ ?_ (run_entry_at _ r b clock seen es clock e h1 h2 hes hnd))
    · rcases hal with rfl | rfl <;> exact ⟨rfl, rfl, rfl, by simp [setBlock], fun i _ hi => by rw [setBlock_ne (fun e => hi (by rw [e]))] <;> rfl⟩
    · rcases hal with rfl | rfl <;> simp [setBlock]
/-- 'range m' -/
theorem wpList_range_exact (hg : o.guard = none) (m : Operand) (t : TypeId) (hop : o.op = Op.range t m) (k e : TypeId) (ht : P.underlying t = some (.map k e)) (b clock : Nat) (es : Array MapEntry) (hm : a.eval m = .map (some b)) (hb : w.heap[b]? = some (.map es clock))
    (hK : ∀ w', w'.heap[w.heap.size]? = some (.mapIter (some b) clock #[] clock) → w'.heap[b]? = some (.map es clock) → w.grownBy w' none → wpList P ops Q rest (a.put o.dst (.pointer (some ⟨w.heap.size, 0, none⟩))) w') :
    wpList P ops Q (o :: rest) a w := by
  refine wpList_plain hg fun K' hK' => ?_
  have hbl : b < w.heap.size := (Array.getElem?_eq_some_iff.1 hb).1
  have hrun : (Instr.range t (.map (some b))).run P w = .ok (.pointer (some ⟨w.heap.size, 0, none⟩)) (w.alloc (.mapIter (some b) clock #[] clock)) := by
    simp [Instr.range, run_underlying ht, MapKept.run_getObj_map hb, newObj]
    rfl
  unfold Oper.wp
  simp [execOp, hop, hm, hrun, Result.andThen]
  refine hK' _ _ (hK _ (by show (w.heap.push _)[w.heap.size]? = _; simp) ?_ (World.grownBy_alloc _ _ _))
  show (w.heap.push _)[b]? = _
  rw [Array.getElem?_push, if_neg (by omega)]; exact hb
/-- 'delete(m, k)' -/
theorem wpList_delete_exact {H : Type} (hg : o.guard = none) (m x : Operand) (t k : TypeId) (hop : o.op = Op.call { callee := Callee.builtin Builtin.delete, args := #[m, x], argTypes := #[t, k] }) (e : TypeId) (K : Keyed P k) (ht : P.underlying t = some (.map k e))
    (b clock : Nat) (es : Array MapEntry) (hm : a.eval m = .map (some b)) (hb : w.heap[b]? = some (.map es clock)) {R : Value → Option (DataW H × List MemPlace)} (F : WideElems.Fit P k R es clock) (key : Value) (kl : Lit) (hx : a.eval x = key) (hkey : keyOf P k key = some kl)
    (hK : ∀ w' es', w'.heap[b]? = some (.map es' clock) → es'.toList.Sublist es.toList → (∀ x, x ∈ es'.toList ↔ (x ∈ es.toList ∧ x.key ≠ key)) → w.grownBy w' (some b) → (∀ j, j ≠ b → w'.heap[j]? = w.heap[j]?) → wpList P ops Q rest (a.put o.dst (.tuple #[])) w') :
    wpList P ops Q (o :: rest) a w := by
  refine wpList_plain hg fun K' hK' => ?_
  have hbl : b < w.heap.size := (Array.getElem?_eq_some_iff.1 hb).1
  obtain ⟨es', hrun, _, _, _, hsub, hwho⟩ := fit_drop_who (ty := o.type) K ht hb F hkey
  unfold Oper.wp
  simp [execOp, hop, resolve, invoke, builtin, hm, hx, hrun, Result.andThen]
  refine hK' _ _ (hK _ es' (by simp [setBlock, hbl]) hsub hwho ⟨rfl, rfl, rfl, by simp [setBlock], fun i _ hi => ?_⟩ fun j hj => ?_)
  · rw [setBlock_ne (fun e => hi (by rw [e]))]
  · rw [setBlock_ne hj]
theorem afilter_congr {α : Type} {p q : α → Bool} {xs : Array α} (h : ∀ x ∈ xs.toList, p x = q x) : xs.filter p = xs.filter q :=
  Array.toList_inj.1 (by rw [Array.toList_filter, Array.toList_filter]; exact List.filter_congr h)
theorem nodup_map_inj {α β : Type} {f : α → β} : ∀ {l : List α}, (l.map f).Nodup → ∀ {x y : α}, x ∈ l → y ∈ l → f x = f y → x = y
  | [], _, x, y, hx, _, _ => by cases hx
  | a :: l, h, x, y, hx, hy, e => by
    rw [List.map_cons, List.nodup_cons] at h
    rcases List.mem_cons.1 hx with hx1 | hx1 <;> rcases List.mem_cons.1 hy with hy1 | hy1
    · rw [hx1, hy1]
    · exact absurd (by rw [← hx1, e]; exact List.mem_map_of_mem hy1) h.1
    · exact absurd (by rw [← hy1, ← e]; exact List.mem_map_of_mem hx1) h.1
    · exact nodup_map_inj h.2 hx1 hy1 e
/-- what is there while a loop strikes: seen: the stamps that have come -/
def curOf (pd : Int → Bool) (es : Array MapEntry) (seen : Array Nat) : Array MapEntry := es.filter fun x => !(seen.contains x.born && keyPd pd x)
theorem cur_mem {pd : Int → Bool} {es : Array MapEntry} {seen : Array Nat} {x : MapEntry} (h : x ∈ (curOf pd es seen).toList) : x ∈ es.toList := by
  unfold curOf at h
  rw [Array.toList_filter] at h
  exact (List.mem_filter.1 h).1
theorem cur_nodup {pd : Int → Bool} {es : Array MapEntry} {seen : Array Nat} {α : Type} {f : MapEntry → α} (h : (es.toList.map f).Nodup) : ((curOf pd es seen).toList.map f).Nodup := by
  unfold curOf
  rw [Array.toList_filter]
  exact h.sublist (List.filter_sublist.map f)
theorem cur_start (pd : Int → Bool) (es : Array MapEntry) : curOf pd es #[] = es := by
  unfold curOf
  exact Array.filter_eq_self.2 fun x _ => by simp
theorem cur_end {pd : Int → Bool} {es : Array MapEntry} {seen : Array Nat} (h : (leftOf (curOf pd es seen) seen).size = 0) : curOf pd es seen = es.filter fun x => !keyPd pd x := by
  unfold curOf
  refine afilter_congr fun x hx => ?_
  by_cases hs : seen.contains x.born = true
  · rw [hs]; simp
  · exfalso
    have hs : seen.contains x.born = false := by simpa using hs
    have : x ∈ (leftOf (curOf pd es seen) seen).toList := by
      unfold leftOf curOf
      rw [Array.toList_filter, Array.toList_filter]
      exact List.mem_filter.2 ⟨List.mem_filter.2 ⟨hx, by rw [hs]; rfl⟩, by rw [hs]; rfl⟩
    have h0 : (leftOf (curOf pd es seen) seen).toList = [] := List.eq_nil_of_length_eq_zero (by simpa using h)
    rw [h0] at this; cases this
theorem born_inj {es : Array MapEntry} (hnd : (es.toList.map (·.born)).Nodup) {x y : MapEntry} (hx : x ∈ es.toList) (hy : y ∈ es.toList) (h : x.born = y.born) : x = y := nodup_map_inj hnd hx hy h
theorem cur_stays {pd : Int → Bool} {es : Array MapEntry} {seen : Array Nat} (hnd : (es.toList.map (·.born)).Nodup) {e : MapEntry} (he : e ∈ es.toList) (hp : keyPd pd e = false) : curOf pd es (seen.push e.born) = curOf pd es seen := by
  unfold curOf
  refine afilter_congr fun x hx => ?_
  by_cases hb : x.born = e.born
  · have := born_inj hnd hx he hb
    subst this
    rw [hp]; simp
  · have : (seen.push e.born).contains x.born = seen.contains x.born := by simp [hb]
    rw [this]
theorem cur_struck {pd : Int → Bool} {es : Array MapEntry} {seen : Array Nat} (hnd : (es.toList.map (·.born)).Nodup) (hnk : (es.toList.map (·.key)).Nodup) {e : MapEntry} (he : e ∈ es.toList) (hp : keyPd pd e = true) {es' : Array MapEntry}
    (hsub : es'.toList.Sublist (curOf pd es seen).toList) (hm : ∀ x, x ∈ es'.toList ↔ (x ∈ (curOf pd es seen).toList ∧ x.key ≠ e.key)) : es' = curOf pd es (seen.push e.born) := by
  classical
  apply Array.toList_inj.1
  have hnd' : es.toList.Nodup := by
    have := hnd
    exact List.Pairwise.of_map (fun x => x.born) (fun a b h e => h (by rw [e])) this
  have hce : (curOf pd es seen).toList.Nodup := by
    unfold curOf
    rw [Array.toList_filter]; exact hnd'.sublist List.filter_sublist
  rw [filter_of_sub (p := fun x => decide (x.key ≠ e.key)) hsub hce (fun x => by rw [hm x]; simp)]
  unfold curOf
  rw [Array.toList_filter, Array.toList_filter, List.filter_filter]
  refine List.filter_congr fun x hx => ?_
  by_cases hb : x.born = e.born
  · have := born_inj hnd hx he hb
    subst this
    simp [hp]
  · have h1 : (seen.push e.born).contains x.born = seen.contains x.born := by simp [hb]
    have h2 : x.key ≠ e.key := by
      intro hk
      have h3 : x = e := nodup_map_inj hnk hx he hk
      exact hb (by rw [h3])
    rw [h1]; simp [h2]
end
section
variable {P : Program} {ρ : Ren}
set_option maxHeartbeats 4000000 in
set_option maxRecDepth 100000 in
theorem cut_walk (L : SlLaysDf.n5 P ρ) (hk : P.underlying (ρ.t 26) = some (.int .i64)) (pd : Int → Bool) (g : Nat) (cb : Array Value) (b clock : Nat) (es : Array MapEntry) (w : World)
    (eg : ∀ args w, (callFunc g args).run P w = .ok (.enter g args) w) (hb : w.heap[b]? = some (.map es clock)) (hst : MapKept.Stamped es clock) (hsz : es.size ≤ maxLen) (hkeys : ∀ x ∈ es.toList, ∃ n, x.key = .int .i64 n ∧ (Lit.int .i64 n).wf = true)
    (hdel : ∀ (W : World) (key val : Value) (n : Int), w.grownBy W (some b) → key = .int .i64 n → Calls P g (#[key, val] ++ cb) W fun e w' => e = .returned (.bool (pd n)) ∧ W.grownBy w' none) :
    Calls P (ρ.f 5) #[.map (some b), .func (.func g) #[] cb] w fun e w' => e = .returned (.tuple #[]) ∧ w'.heap[b]? = some (.map (es.filter fun x => !keyPd pd x) clock) ∧ w.grownBy w' (some b) := by
  have mixed := L.mixed; have t0 := L.t0; have a0 := L.a0; have z0 := L.z0; have v0 := L.v0; have t4 := L.t4; have a4 := L.a4; have z4 := L.z4; have v4 := L.v4; have t23 := L.t23; have a23 := L.a23; have z23 := L.z23; have v23 := L.v23; have a24 := L.a24; have z24 := L.z24; have a26 := L.a26; have z26 := L.z26; have t27 := L.t27; have a27 := L.a27; have z27 := L.z27; have v27 := L.v27
  have hbl : b < w.heap.size := (Array.getElem?_eq_some_iff.1 hb).1
  obtain ⟨hs1, hs2, hs3⟩ := hst
  have HD : Aside _ := hdel
  clear hdel
  obtain ⟨_, _, FG⟩ := L.f5
  go_enter FG, SlBodyDf.n5_ntmps ρ
  go_wp2_with (first
    | (at_range; refine wpList_range_exact _ rfl _ (ρ.t 23) rfl (ρ.t 26) (ρ.t 24) L.t23 b clock es rfl hb ?_; intro w0 hr0 hb0 hg0)
    | go_in)
  go_frame
  go_loopw [8] (fun _ wr => ∃ (seen : Array Nat), wr.heap[w.heap.size]? = some (.mapIter (some b) clock seen clock) ∧ wr.heap[b]? = some (.map (curOf pd es seen) clock) ∧ w.grownBy wr (some b))
    (fun _ wr => wr.rangeLeft b w.heap.size)
  case atStart => exact ⟨#[], hr0, by rw [cur_start]; exact hb0, hg0.but _⟩
  case round =>
    obtain ⟨seen, hr, hbm, hgw⟩ := hrel
    have hne : w.heap.size ≠ b := by omega
    have hF : WideElems.Fit P (ρ.t 26) (fun _ => some ((.nil : DataW Unit), [])) (curOf pd es seen) clock := by
      refine ⟨?_, ⟨fun x hx => hs1 x (cur_mem hx), cur_nodup hs2, cur_nodup hs3⟩, fun x hx => ?_⟩
      · refine Nat.le_trans ?_ hsz
        unfold curOf; exact Array.size_filter_le
      · obtain ⟨n, h1, h2⟩ := hkeys x (cur_mem hx)
        exact ⟨_, WideElems.rd_mk (key := x.key) (val := x.val) (by rw [h1]; exact keyOf_int_mk hk h2) rfl⟩
    go_wp2_with (first
      | (at_next; refine wpList_next_exact _ rfl _ rfl b w.heap.size clock _ seen rfl hr hbm hne (fun x hx => hs1 x (cur_mem hx)) (cur_nodup hs2) ?_ ?_)
      | go_in)
    · -- nothing is left
      intro h0
      go_wp2
      go_end0
      exact ⟨rfl, by rw [← cur_end (by rw [h0]; rfl)]; exact hbm, hgw⟩
    · -- an entry has come
      intro key val e w1 hkey hval he hr1 hb1 hg1 hsz1 hen
      subst hkey hval
      have hgw1 := hgw.andThen hg1 (fun j hj => by cases hj; exact Or.inl (Nat.le_refl _))
      have he : e ∈ (leftOf (curOf pd es seen) seen).toList := Array.mem_toList_iff.2 (by first | exact he | exact Array.mem_toList_iff.1 he)
      have hec : e ∈ (curOf pd es seen).toList := by
        unfold leftOf at he
        rw [Array.toList_filter] at he
        exact (List.mem_filter.1 he).1
      have hee := cur_mem hec
      obtain ⟨n, hn, hwf⟩ := hkeys e hee
      have hkn : e.key = .int .i64 n := hn
      have hc := HD.out w1 (.int .i64 n) e.val n hgw1 rfl
      have hpd : keyPd pd e = pd n := by simp [keyPd, hn]
      have hkk : keyOf P (ρ.t 26) (.int .i64 n) = some (.int .i64 n) := keyOf_int_mk hk hwf
      have hrl : w.heap.size < w1.heap.size := (Array.getElem?_eq_some_iff.1 hr1).1
      have hbl1 : b < w1.heap.size := (Array.getElem?_eq_some_iff.1 hb1).1
      have hshr := left_shrinks (curOf pd es seen) seen e he
      clear hn hwf
      cases hp : pd n <;> rw [hp] at hc
      · -- it stays
        go_wp2_with (first
          | (go_at_fn g; (refine hc.mono ?_; rintro ending w2 ⟨rfl, hg2⟩))
          | go_in)
        have hr2 := (hg2.block _ hrl (by simp)).trans hr1
        have hb2 := (hg2.block _ hbl1 (by simp)).trans hb1
        go_roundw
        case rel => exact ⟨seen.push e.born, hr2, by rw [cur_stays hs2 hee (hpd.trans hp)]; exact hb2, hgw1.andThen hg2 (fun j hj => by cases hj)⟩
        case measure => simp only [World.rangeLeft, hr2, hb2, hr, hbm]; exact hshr
      · -- it is struck
        go_wp2_with (first
          | (go_at_fn g; refine hc.mono ?_; rintro ending w2 ⟨rfl, hg2⟩; have hr2 := (hg2.block _ hrl (by simp)).trans hr1; have hb2 := (hg2.block _ hbl1 (by simp)).trans hb1)
          | (at_delete; refine wpList_delete_exact _ rfl _ _ (ρ.t 23) (ρ.t 26) rfl (ρ.t 24) (int_keyed hk) L.t23 b clock _ rfl hb2 hF _ _ rfl hkk ?_; intro w3 es' hb3 hsub hmem hg3 hoth; go_frame)
          | go_in)
        have hr3 := (hoth _ hne).trans hr2
        have hes' : es' = curOf pd es (seen.push e.born) := cur_struck hs2 hs3 hee (hpd.trans hp) hsub (fun x => by rw [hkn]; exact hmem x)
        go_roundw
        case rel => exact ⟨seen.push e.born, hr3, by rw [← hes']; exact hb3, (hgw1.andThen hg2 (fun j hj => by cases hj)).andThen hg3 (fun j hj => by cases hj; exact Or.inr rfl)⟩
        case measure =>
          simp only [World.rangeLeft, hr3, hb3, hr, hbm]
          refine Nat.lt_of_le_of_lt ?_ hshr
          have e1 : ∀ a : Array MapEntry, (leftOf a (seen.push e.born)).size = (a.toList.filter fun x => !(seen.push e.born).contains x.born).length := fun a => by
            unfold leftOf
            rw [← Array.toList_filter, Array.length_toList]
          rw [e1, e1]
          exact (hsub.filter _).length_le
end
/-! ### in the evaluator's words -/
/-- one block turns, others may be laid -/
theorem HR.turn {ng : Nat} {φ : Phi} {H : Hp} {w w' : World} (h : HR ng φ H w) {b : Pos} {B B' : Blk} {p : Pl} {o' : Obj} (hb : Tr.get b H.t = some B) (hp : φ b = some p) (hB : BR φ p B' o') (hat : w'.heap[p.blk]? = some o')
    (hoth : ∀ i, i < w.heap.size → i ≠ p.blk → w'.heap[i]? = w.heap[i]?) : HR ng φ (H.set b (some B')) w' := by
  refine ⟨fun c C hC => ?_, fun c c' C C' q q' hC hC' hq hq' he => ?_, fun c hc => h.new c hc, h.glob⟩
  · simp only [Hp.set, Tr.get_set] at hC
    by_cases hcb : c = b
    · subst hcb; simp at hC; subst hC
      exact ⟨p, o', hp, hat, hB⟩
    · rw [if_neg hcb] at hC
      obtain ⟨q, o₁, hq, ho₁, hB₁⟩ := h.blk c C hC
      refine ⟨q, o₁, hq, ?_, hB₁⟩
      rw [hoth _ (Array.getElem?_eq_some_iff.1 ho₁).1]
      · exact ho₁
      · intro he; exact hcb (h.inj c b C B q p hC hb hq hp he)
  · simp only [Hp.set, Tr.get_set] at hC hC'
    have hCs : ∃ C₀, Tr.get c H.t = some C₀ := by by_cases e : c = b <;> simp_all
    have hCs' : ∃ C₀, Tr.get c' H.t = some C₀ := by by_cases e : c' = b <;> simp_all
    obtain ⟨C₀, hC₀⟩ := hCs
    obtain ⟨C₀', hC₀'⟩ := hCs'
    exact h.inj c c' C₀ C₀' q q' hC₀ hC₀' hq hq' he
theorem Keep.turn {φ : Phi} {H : Hp} {w w' : World} {b : Pos} {B B' : Blk} {p : Pl} (hb : Tr.get b H.t = some B) (hp : φ b = some p) (hg : w.grownBy w' (some p.blk)) : Keep φ H w φ (H.set b (some B')) w' := by
  refine ⟨φ.le_refl, hg.size, fun i hi hn => hg.block i hi (fun e => hn b B p hb hp (by cases e; rfl)), fun c C q hC hq hl => ?_, hg.tape, hg.os, hg.output, fun _ _ => rfl, Nat.le_refl _⟩
  simp only [Hp.set, Tr.get_set] at hC
  by_cases hcb : c = b
  · subst hcb; exact ⟨c, B, q, hb, hq, rfl⟩
  · rw [if_neg hcb] at hC; exact ⟨c, C, q, hC, hq, rfl⟩
theorem cutE_cons (n : Int) (e : AV × AV × Nat) (es : List (AV × AV × Nat)) : cutE n (e :: es) = match e.1 with | .int _ k => (match ilt n k with | true => cutE n es | false => e :: cutE n es) | _ => e :: cutE n es := rfl
theorem ER.cut {φ : Phi} {n : Int} : ∀ {es : List (AV × AV × Nat)} {ms : List MapEntry} {ks : List Int}, ER φ es ms → keyInts es = some ks → ER φ (cutE n es) (ms.filter fun x => !keyPd (fun k => decide (n < k)) x)
  | _, _, _, .nil, _ => .nil
  | _, _, ks, .cons (k := k) (e := e) hk hv he, h => by
    obtain ⟨b, r, hb, hr, rfl⟩ := (omap_cons _ _ _ _).1 h
    have ih := he.cut (n := n) hr
    rw [cutE_cons]
    simp only at hb
    split at hb
    · next m =>
      cases hb
      have hke : e.key = .int .i64 b := by cases hkk : e.key <;> rw [hkk] at hk <;> cases hk; rfl
      simp only
      rw [ilt_eq]
      by_cases hlt : n < b
      · rw [List.filter_cons_of_neg (by simp [keyPd, hke, hlt])]
        simp [hlt]; exact ih
      · rw [List.filter_cons_of_pos (by simp [keyPd, hke, hlt])]
        simp [hlt]; exact .cons hk hv ih
    · cases hb
section
variable {P : Program} {E : Env} {ρ : Ren}
theorem cut_ok {f cf : FuncId} (L : SlLaysDf.n5 P ρ) (hk : P.underlying (ρ.t 26) = some (.int .i64)) (hf : ρ.f 5 = f) (ecf : ∀ args w, (callFunc cf args).run P w = .ok (.enter cf args) w) (ef : ∀ args w, (callFunc f args).run P w = .ok (.enter f args) w)
    (hcf : ∀ (W : World) (lim n : Int) (val : Value) (a : Addr), W.cell? a = some (.int .i64 lim) → Calls P cf #[.int .i64 n, val, .pointer (some a)] W fun e w' => e = .returned (.bool (decide (lim < n))) ∧ W.grownBy w' none) : CtrOk P E f (.cut cf) := by
  intro args A φ H w v H' hA hH hG h
  refine ⟨ef A w, ?_⟩
  unfold ctrR at h
  split at h
  case h_1 => rename_i hc; cases hc
  case h_3 => rename_i hc; cases hc
  case h_4 => rename_i hc; cases hc
  case h_5 => cases h
  next cf' x g b o hc =>
  cases hc
  split at h
  case h_2 => cases h
  next m es cl ks n hg hm hcell =>
  have hg := Nat.eq_of_beq_eq_true hg
  subst hg
  rw [Hp.setK_eq] at h
  cases h
  obtain ⟨A⟩ := A
  cases hA with | cons hx hl =>
  cases hl with | cons hfn hl =>
  cases hl
  cases hfn with | fn _ hF hC =>
  rename_i F C
  obtain ⟨F⟩ := F
  obtain ⟨C⟩ := C
  cases hF
  cases hC with | cons hp hl =>
  cases hl
  cases hp with | ptr _ hp =>
  rename_i p
  rcases mapOf_some hm with ⟨_, hh⟩ | ⟨m', es', cl', ks', rfl, he, hmb, hkk, hst, hko, hlen⟩
  · cases hh
  cases he
  cases hx with | map hmp =>
  rename_i q
  obtain ⟨q', om, hq', hom, hBm⟩ := hH.blk _ _ hmb
  rw [hmp] at hq'; cases hq'
  cases hBm with | map hER =>
  rename_i ms
  obtain ⟨kd, kwf⟩ := keysOk_iff _ hko
  obtain ⟨sb, sd⟩ := stampsOk_iff es 0 hst
  have hkeys := hER.keys hkk
  have hborn := hER.born
  have hlen' : ms.toList.length = ks.length := by have := congrArg List.length hkeys; simpa using this
  obtain ⟨cv, hcv, hcr⟩ := cell_ok hH hG hp hcell
  cases hcr
  have hstm : MapKept.Stamped ms cl := by
    refine ⟨fun x hx => ?_, ?_, ?_⟩
    · have : x.born ∈ es.map (·.2.2) := by rw [← hborn]; exact List.mem_map_of_mem hx
      obtain ⟨e, he, hb⟩ := List.mem_map.1 this
      rw [← hb]; exact (sb e he).2
    · rw [hborn]; exact sd
    · rw [hkeys]
      exact List.pairwise_map.2 (kd.imp fun h e => h (by simpa using e))
  have hk2 : ∀ x ∈ ms.toList, ∃ n, x.key = .int .i64 n ∧ (Lit.int .i64 n).wf = true := by
    intro x hx
    have hkm : x.key ∈ ks.map (Value.int .i64) := by rw [← hkeys]; exact List.mem_map_of_mem hx
    obtain ⟨n', hn', hk'⟩ := List.mem_map.1 hkm
    exact ⟨n', hk'.symm, kwf n' hn'⟩
  have hsz : ms.size ≤ maxLen := by
    have : ms.size = ks.length := by simpa using hlen'
    unfold maxLen; omega
  have hblk : p.blk ≠ q.blk := by
    intro e
    have h1 := hcv
    simp only [World.cell?, e, hom] at h1
    cases h1
  have hw := cut_walk L hk (fun k => decide (n < k)) g #[.pointer (some ⟨p.blk, p.off + o, none⟩)] q.blk cl ms w ecf hom hstm hsz hk2 (fun W key val n' hgw hkey => by
    subst hkey
    exact hcf W n n' val _ (hgw.cell hcv (by simpa using hblk)))
  rw [hf] at hw
  refine goes_of_calls hw ?_
  rintro e w' ⟨rfl, hat, hgr⟩
  refine ⟨_, rfl, φ, .tup .nil, hH.turn hmb hmp (.map ?_) hat (fun i hi hne => hgr.block i hi (by simpa using hne)), .turn hmb hmp hgr⟩
  rw [Array.toList_filter]
  exact hER.cut hkk
end
end Go.Ev
