/- Calls of which the end is known: run once, on an empty heap; what is reached of the result is laid anew, under new names, wherever the call stands. -/
import Derived.Test.YtlgngfiiaoodjaaGreatDoorEvDraws
import Derived.Lib.Bytealg
import Derived.Lib.MakeNoZero
import Derived.Laws.LoneSync
set_option linter.unusedVariables false
set_option linter.unusedSimpArgs false
/- Calls of which the end is known: run once, on an empty heap; what is reached of the result is laid anew, under new names, wherever the call stands. -/
namespace Go.Ev
/-- no names in it -/
noncomputable def plainAV (d : Nat) : AV → Bool :=
  fuelRec (X := AV → Bool) (fun _ => false) (fun ih v => match v with
    | .ptr _ _ => false
    | .slice _ _ _ _ _ => false
    | .map _ => false
    | .yld _ => false
    | .fn _ a c => (match allL (ih ()) a with | true => allL (ih ()) c | false => false)
    | .iface _ v => ih () v
    | .agg l => allL (ih ()) l
    | .tup l => allL (ih ()) l
    | _ => true) d
/-- all its names are known -/
noncomputable def namesAV (ok : Pos → Bool) (d : Nat) : AV → Bool :=
  fuelRec (X := AV → Bool) (fun _ => false) (fun ih v => match v with
    | .ptr b _ => ok b
    | .slice b _ _ _ _ => ok b
    | .map b => ok b
    | .yld _ => false
    | .fn _ a c => (match allL (ih ()) a with | true => allL (ih ()) c | false => false)
    | .iface _ v => ih () v
    | .agg l => allL (ih ()) l
    | .tup l => allL (ih ()) l
    | _ => true) d
noncomputable def namesBlk (ok : Pos → Bool) (B : Blk) : Bool :=
  match B with
  | .cells _ l => allL (namesAV ok 12) l
  | .map es _ => allL (fun (e : AV × AV × Nat) => match namesAV ok 12 e.1 with | true => namesAV ok 12 e.2.1 | false => false) es
  | _ => false
/-- a name of the list, or of a block that nobody writes -/
noncomputable def okN (S : Tr Pos) (G : Tr (List AV)) (b : Pos) : Bool := match Tr.get b S with | some _ => true | none => (match Tr.get b G with | some _ => true | none => false)
noncomputable def distinctK (l : List (Pos × Blk)) (S : Tr Pos) (K : Tr Pos → Bool) : Bool :=
  lrec (X := Tr Pos → Bool) K (fun x _ ih S => match Tr.get x.1 S with | none => Tr.setK (some x.1) x.1 S fun S => ih () S | some _ => false) l S
/-- what is written down of a call is what its run gives -/
noncomputable def chkSum (G : Tr (List AV)) (s : Sum) (r : Ret) : Bool :=
  match r with
  | .no => false
  | .ok v H =>
    match avEq 12 v s.v, allL (plainAV 6) s.args with
    | true, true => distinctK s.blks .e fun S =>
      match namesAV (okN S G) 12 s.v with
      | true => allL (fun (x : Pos × Blk) => match Tr.get x.1 H.t, namesBlk (okN S G) x.2 with | some B, true => blkEq B x.2 | _, _ => false) s.blks
      | false => false
    | _, _ => false
noncomputable def isSum (E : Env) (fuel : Nat) (nx : Pos) (f : FuncId) (s : Sum) : Bool := chkSum E.gl s (callR E (run E fuel) .normal f s.args ⟨.e, nx⟩)
/-! ### laws -/
theorem plainAV_ok {φ φ' : Phi} (ho : φ'.opq = φ.opq) : ∀ (d : Nat) (v : AV) (x : Value), plainAV d v = true → VR φ v x → VR φ' v x := by
  intro d
  induction d with
  | zero => intro v x h; cases h
  | succ d ih =>
    have ihl : ∀ (l : List AV) (m : List Value), allL (plainAV d) l = true → VRL φ l m → VRL φ' l m := by
      intro l
      induction l with
      | nil => intro m _ hl; cases hl; exact .nil
      | cons a l ihl =>
        intro m h hl
        cases hl with | cons h1 h2 =>
        have h := (allL_iff' _ _).1 h
        exact .cons (ih _ _ (h a (by simp)) h1) (ihl _ ((allL_iff' _ _).2 fun v hv => h v (List.mem_cons_of_mem _ hv)) h2)
    intro v x h hv
    cases hv with
    | bool b => exact .bool b
    | int k n => exact .int k n
    | str hs0 => exact .str hs0
    | nptr => exact .nptr
    | ptr o h' => cases h
    | nslice => exact .nslice
    | sliceC o l c h' => cases h
    | sliceO o l c s h' hs hn => cases h
    | nmap => exact .nmap
    | map h' => cases h
    | fn f h1 h2 =>
      change (match allL (plainAV d) _ with | true => allL (plainAV d) _ | false => false) = true at h
      split at h
      · next ha => exact .fn f (ihl _ _ ha h1) (ihl _ _ h h2)
      · cases h
    | yld h' => cases h
    | nfn => exact .nfn
    | iface t h' => exact .iface t (ih _ _ h h')
    | nif => exact .nif
    | agg h' => exact .agg (ihl _ _ h h')
    | tup h' => exact .tup (ihl _ _ h h')
    | opq i => have := VR.opq (φ := φ') i; rw [ho] at this; exact this
    | sym k e hD => have := VR.sym (φ := φ') k e (by rw [ho]; exact hD); rw [ho] at this; exact this
    | osl hD hl hc hp => exact .osl (by rw [ho]; exact hD) (by rw [ho]; exact hl) hc hp
    | any h1 h2 => exact .any h1 h2
    | bound n t v c => exact .bound n t v c
/-- names, changed -/
theorem renAV_ok {φ φ' : Phi} {S : Tr Pos} {ok : Pos → Bool} (ho : φ'.opq = φ.opq) (hn : ∀ b p, ok b = true → φ b = some p → φ' (ren S b) = some p) : ∀ (d : Nat) (v : AV) (x : Value), namesAV ok d v = true → VR φ v x → VR φ' (renAV S d v) x := by
  intro d
  induction d with
  | zero => intro v x h; cases h
  | succ d ih =>
    have ihl : ∀ (l : List AV) (m : List Value), allL (namesAV ok d) l = true → VRL φ l m → VRL φ' (mapL (renAV S d) l) m := by
      intro l
      induction l with
      | nil => intro m _ hl; cases hl; exact .nil
      | cons a l ihl =>
        intro m h hl
        cases hl with | cons h1 h2 =>
        have h := (allL_iff' _ _).1 h
        exact .cons (ih _ _ (h a (by simp)) h1) (ihl _ ((allL_iff' _ _).2 fun v hv => h v (List.mem_cons_of_mem _ hv)) h2)
    intro v x h hv
    cases hv with
    | bool b => exact .bool b
    | int k n => exact .int k n
    | str hs0 => exact .str hs0
    | nptr => exact .nptr
    | ptr o h' => exact .ptr o (hn _ _ h h')
    | nslice => exact .nslice
    | sliceC o l c h' => exact .sliceC o l c (hn _ _ h h')
    | sliceO o l c s h' hs hnn => exact .sliceO o l c s (hn _ _ h h') hs hnn
    | nmap => exact .nmap
    | map h' => exact .map (hn _ _ h h')
    | fn f h1 h2 =>
      change (match allL (namesAV ok d) _ with | true => allL (namesAV ok d) _ | false => false) = true at h
      split at h
      · next ha => exact .fn f (ihl _ _ ha h1) (ihl _ _ h h2)
      · cases h
    | yld h' => cases h
    | nfn => exact .nfn
    | iface t h' => exact .iface t (ih _ _ h h')
    | nif => exact .nif
    | agg h' => exact .agg (ihl _ _ h h')
    | tup h' => exact .tup (ihl _ _ h h')
    | opq i => have := VR.opq (φ := φ') i; rw [ho] at this; exact this
    | sym k e hD => have := VR.sym (φ := φ') k e (by rw [ho]; exact hD); rw [ho] at this; exact this
    | osl hD hl hc hp => exact .osl (by rw [ho]; exact hD) (by rw [ho]; exact hl) hc hp
    | any h1 h2 => exact .any h1 h2
    | bound n t v c => exact .bound n t v c
theorem eqL_eq {f : AV → AV → Bool} (hf : ∀ a b, f a b = true → a = b) (l m : List AV) (h : eqL f l m = true) : l = m := allGo_eq hf l m h
theorem eqE_eq : ∀ (l m : List (AV × AV × Nat)), eqE l m = true → l = m
  | [], [], _ => rfl
  | [], _ :: _, h => by cases h
  | _ :: _, [], h => by cases h
  | a :: l, b :: m, h => by
    change (match avEq 12 a.1 b.1, avEq 12 a.2.1 b.2.1, Nat.beq a.2.2 b.2.2 with | true, true, true => eqE l m | _, _, _ => false) = true at h
    split at h
    · next h1 h2 h3 =>
      have e1 := avEq_eq _ _ _ h1
      have e2 := avEq_eq _ _ _ h2
      have e3 := Nat.eq_of_beq_eq_true h3
      rw [eqE_eq l m h, show a = b from Prod.ext e1 (Prod.ext e2 e3)]
    · cases h
theorem blkEq_eq {B C : Blk} (h : blkEq B C = true) : B = C := by
  unfold blkEq at h
  split at h
  · split at h
    · next h1 => rw [Nat.eq_of_beq_eq_true h1, eqL_eq (avEq_eq 12) _ _ h]
    · cases h
  · split at h
    · next h1 => rw [Nat.eq_of_beq_eq_true h1, eqE_eq _ _ h]
    · cases h
  · cases h
theorem mapL_length {α β : Type} (f : α → β) (l : List α) : (mapL f l).length = l.length := by rw [mapL_eq]; simp
theorem renER_ok {φ φ' : Phi} {S : Tr Pos} {ok : Pos → Bool} (ho : φ'.opq = φ.opq) (hn : ∀ b p, ok b = true → φ b = some p → φ' (ren S b) = some p) :
    ∀ (es : List (AV × AV × Nat)) (ms : List MapEntry), (∀ x ∈ es, (match namesAV ok 12 x.1 with | true => namesAV ok 12 x.2.1 | false => false) = true) → ER φ es ms →
      ER φ' (es.map fun e => (renAV S 12 e.1, renAV S 12 e.2.1, e.2.2)) ms := by
  intro es ms hk he
  induction he with
  | nil => exact .nil
  | cons hk' hv' _ ih =>
    have hh := hk _ (List.mem_cons_self ..)
    simp only at hh
    split at hh
    · next h1 => exact .cons (renAV_ok ho hn 12 _ _ h1 hk') (renAV_ok ho hn 12 _ _ hh hv') (ih fun x hx => hk x (List.mem_cons_of_mem _ hx))
    · cases hh
theorem renBlk_ok {φ φ' : Phi} {S : Tr Pos} {ok : Pos → Bool} (ho : φ'.opq = φ.opq) (hn : ∀ b p, ok b = true → φ b = some p → φ' (ren S b) = some p) {p : Pl} {B C : Blk} {o : Obj} (hk : namesBlk ok B = true) (h : BR φ p B o) (hc : renBlk S B = some C) : BR φ' p C o := by
  cases h with
  | cells hl hcz hg hf hp =>
    cases hc
    have hk := (allL_iff' _ _).1 hk
    refine .cells (by rw [mapL_length]; exact hl) hcz (fun i v hv => ?_) hf hp
    rw [mapL_eq, List.getElem?_map] at hv
    obtain ⟨u, hu, rfl⟩ := Option.map_eq_some_iff.1 hv
    obtain ⟨x, hx, hr⟩ := hg i u hu
    exact ⟨x, hx, renAV_ok ho hn 12 _ _ (hk u (List.mem_of_getElem? hu)) hr⟩
  | map he =>
    cases hc
    have hk := (allL_iff' _ _).1 hk
    refine .map ?_
    rw [mapL_eq]
    exact renER_ok ho hn _ _ hk he
  | siter h0 h => cases hc
  | loop ht hd => cases hc
  | dfrT => cases hc
  | dfrF => cases hc
/-! ### names for the blocks -/
def posAdd (p : Pos) : Nat → Pos
  | 0 => p
  | n + 1 => posAdd p.succ n
theorem posAdd_val : ∀ (n : Nat) (p : Pos), (posAdd p n).val = p.val + n
  | 0, _ => rfl
  | n + 1, p => by rw [posAdd, posAdd_val n, Pos.val_succ]; omega
noncomputable def nameS : List (Pos × Blk) → Tr Pos → Pos → Tr Pos
  | [], S, _ => S
  | x :: l, S, nx => nameS l (Tr.set (some nx) x.1 S) nx.succ
theorem nameK_eq (K : Tr Pos → Ret) : ∀ (l : List (Pos × Blk)) (S : Tr Pos) (nx : Pos), nameK l S nx K = K (nameS l S nx)
  | [], _, _ => rfl
  | x :: l, S, nx => by
    change Tr.setK (some nx) x.1 S (fun S => Pos.succK nx fun nx => nameK l S nx K) = _
    rw [Tr.setK_eq, Pos.succK_eq, nameK_eq K l]; rfl
theorem nameS_get : ∀ (l : List (Pos × Blk)) (S : Tr Pos) (nx : Pos) (b c : Pos), Tr.get b (nameS l S nx) = some c → (∃ i B, l[i]? = some (b, B) ∧ c = posAdd nx i) ∨ Tr.get b S = some c
  | [], _, _, _, _, h => .inr h
  | x :: l, S, nx, b, c, h => by
    rcases nameS_get l _ _ b c h with ⟨i, B, h1, h2⟩ | h1
    · exact .inl ⟨i + 1, B, by simpa using h1, h2⟩
    · rw [Tr.get_set] at h1
      by_cases e : b = x.1
      · rw [if_pos e] at h1; cases h1; exact .inl ⟨0, x.2, by simp [e], rfl⟩
      · rw [if_neg e] at h1; exact .inr h1
theorem nameS_has : ∀ (l : List (Pos × Blk)) (S : Tr Pos) (nx : Pos) (b : Pos), ((∃ B, (b, B) ∈ l) ∨ (Tr.get b S).isSome = true) → (Tr.get b (nameS l S nx)).isSome = true
  | [], _, _, _, h => by rcases h with ⟨B, h⟩ | h; cases h; exact h
  | x :: l, S, nx, b, h => by
    refine nameS_has l _ _ b ?_
    rcases h with ⟨B, h⟩ | h
    · cases h with
      | head => right; rw [Tr.get_set]; simp
      | tail _ h => exact .inl ⟨B, h⟩
    · right
      rw [Tr.get_set]
      split
      · rfl
      · exact h
theorem layK_ok {S : Tr Pos} {K : Hp → Ret} {v : AV} {H' : Hp} : ∀ (l : List (Pos × Blk)) (H : Hp), layK S l H K = .ok v H' →
    ∃ H1, K H1 = .ok v H' ∧ H1.nx.val = H.nx.val + l.length ∧ (∀ (c : Pos) (C : Blk), Tr.get c H1.t = some C → (∃ i x, l[i]? = some x ∧ c = posAdd H.nx i ∧ renBlk S x.2 = some C) ∨ (Tr.get c H.t = some C))
  | [], H, h => ⟨H, h, by simp, fun c C hc => .inr hc⟩
  | x :: l, H, h => by
    change (match renBlk S x.2 with | some B => Hp.newK B H fun _ H => layK S l H K | none => .no) = _ at h
    split at h
    · next B hB =>
      rw [Hp.newK_eq] at h
      obtain ⟨H1, h1, h2, h3⟩ := layK_ok l _ h
      have hnx : (H.add B).nx.val = H.nx.val + 1 := Pos.val_succ _
      refine ⟨H1, h1, by rw [h2, hnx]; simp; omega, fun c C hc => ?_⟩
      rcases h3 c C hc with ⟨i, y, g1, g2, g3⟩ | g1
      · exact .inl ⟨i + 1, y, by simpa using g1, g2, g3⟩
      · simp only [Hp.add, Tr.get_set] at g1
        by_cases e : c = H.nx
        · rw [if_pos e] at g1; cases g1; exact .inl ⟨0, x, by simp, e, hB⟩
        · rw [if_neg e] at g1; exact .inr g1
    · cases h
theorem distinctK_ok {K : Tr Pos → Bool} : ∀ (l : List (Pos × Blk)) (S : Tr Pos), distinctK l S K = true →
    ∃ S', K S' = true ∧ (∀ b c, Tr.get b S' = some c → (∃ B, (b, B) ∈ l) ∨ (Tr.get b S).isSome = true) ∧ (∀ x ∈ l, Tr.get x.1 S = none) ∧ (l.map (·.1)).Nodup
  | [], S, h => ⟨S, h, fun b c hb => .inr (by rw [hb]; rfl), by simp, by simp⟩
  | x :: l, S, h => by
    change (match Tr.get x.1 S with | none => Tr.setK (some x.1) x.1 S fun S => distinctK l S K | some _ => false) = true at h
    split at h
    · next hx =>
      rw [Tr.setK_eq] at h
      obtain ⟨S', h1, h2, h3, h4⟩ := distinctK_ok l _ h
      have hne : ∀ y ∈ l, y.1 ≠ x.1 ∧ Tr.get y.1 S = none := by
        intro y hy
        have := h3 y hy
        rw [Tr.get_set] at this
        split at this
        · cases this
        · exact ⟨by assumption, this⟩
      refine ⟨S', h1, fun b c hb => ?_, fun y hy => ?_, ?_⟩
      · rcases h2 b c hb with ⟨B, hB⟩ | hB
        · exact .inl ⟨B, List.mem_cons_of_mem _ hB⟩
        · rw [Tr.get_set] at hB
          by_cases e : b = x.1
          · exact .inl ⟨x.2, by rw [e]; exact List.mem_cons_self ..⟩
          · rw [if_neg e] at hB; exact .inr hB
      · cases hy with
        | head => exact hx
        | tail _ hy => exact (hne y hy).2
      · rw [List.map_cons, List.nodup_cons]
        refine ⟨fun hm => ?_, h4⟩
        obtain ⟨y, hy, he⟩ := List.mem_map.1 hm
        exact (hne y hy).1 he
    · cases h
open Classical in
/-- the names that every call can see -/
noncomputable def seen (E : Env) (nx : Pos) (φ : Phi) : Phi :=
  ⟨fun b => if b.val < nx.val ∧ ((∃ g, g < E.ng ∧ b = posOf g) ∨ (∃ l, Tr.get b E.gl = some l)) then φ b else none, φ.opq⟩
theorem seen_some {E : Env} {nx : Pos} {φ : Phi} {b : Pos} {p : Pl} (h : seen E nx φ b = some p) : φ b = some p ∧ b.val < nx.val := by
  unfold seen at h
  simp only at h
  split at h
  · next hc => exact ⟨h, hc.1⟩
  · cases h
theorem seen_eq {E : Env} {nx : Pos} {φ : Phi} {b : Pos} (h : b.val < nx.val) (h' : (∃ g, g < E.ng ∧ b = posOf g) ∨ (∃ l, Tr.get b E.gl = some l)) : seen E nx φ b = φ b := by
  unfold seen
  simp only
  rw [if_pos ⟨h, h'⟩]
/-- the names after a call of which the end is known -/
noncomputable def after (φ φ1 : Phi) (nx : Pos) (l : List (Pos × Blk)) : Phi :=
  ⟨fun c => if c.val < nx.val then φ c else (match l[c.val - nx.val]? with | some x => φ1 x.1 | none => none), φ.opq⟩
theorem after_old {φ φ1 : Phi} {nx : Pos} {l : List (Pos × Blk)} {c : Pos} (h : c.val < nx.val) : after φ φ1 nx l c = φ c := by
  unfold after; simp only; rw [if_pos h]
theorem after_new {φ φ1 : Phi} {nx : Pos} {l : List (Pos × Blk)} {i : Nat} {x : Pos × Blk} (h : l[i]? = some x) : after φ φ1 nx l (posAdd nx i) = φ1 x.1 := by
  unfold after; simp only; rw [posAdd_val, if_neg (by omega), show nx.val + i - nx.val = i by omega, h]
/-- what is written down of a call holds wherever it is called -/
theorem sum_ok {P : Program} {E : Env} (hE : EnvOk2 P E) {fuel : Nat} {nx : Pos} {f : FuncId} {s : Sum} (hlow : ∀ g, g < E.ng → (posOf g).val < nx.val) (hgl : ∀ b l, Tr.get b E.gl = some l → b.val < nx.val ∧ allL (plainAV 6) l = true)
    (h : isSum E fuel nx f s = true) {E' : Env} (hng : E'.ng = E.ng) (hgl' : E'.gl = E.gl) (hfn : ∃ fn c, P.funcs[f]? = some fn ∧ fn.name ≠ "runtime.NumGoroutine" ∧ fn.body = some c) : SumOk P E' f s := by
  intro args A φ H w v H' hargs hA hH hG hr
  obtain ⟨fn, c, hf1, hf2, hf3⟩ := hfn
  have henter := callFunc_enter (A := A) (w := w) hf1 hf2 hf3
  refine ⟨henter, ?_⟩
  have hargs : s.args = args := allGo_eq (avEq_eq 6) _ _ hargs
  subst hargs
  unfold isSum chkSum at h
  split at h
  · cases h
  next v1 H1 hcall =>
  split at h
  case h_2 => cases h
  next hv hplain =>
  have hv := avEq_eq _ _ _ hv
  subst hv
  obtain ⟨S', h, hS', _, hnd⟩ := distinctK_ok _ _ h
  split at h
  case h_2 => cases h
  next hnv =>
  have hblks := (allL_iff' _ _).1 h
  have hmono : ∀ (l : List AV) (m : List Value), allL (plainAV 6) l = true → VRL φ l m → VRL (seen E nx φ) l m := by
    intro l
    induction l with
    | nil => intro m _ hl; cases hl; exact .nil
    | cons a l ihl =>
      intro m h hl
      cases hl with | cons h1 h2 =>
      have h := (allL_iff' _ _).1 h
      exact .cons (plainAV_ok (φ := φ) (φ' := seen E nx φ) rfl _ _ _ (h a (by simp)) h1) (ihl _ ((allL_iff' _ _).2 fun v hv => h v (List.mem_cons_of_mem _ hv)) h2)
  have hnew : ∀ b p, φ b = some p → b.val < H.nx.val := by
    intro b p hb
    rcases Nat.lt_or_ge b.val H.nx.val with h | h
    · exact h
    · rw [hH.new b h] at hb; cases hb
  have h0g : ∀ g, g < E.ng → seen E nx φ (posOf g) = φ (posOf g) := fun g hg => seen_eq (hlow g hg) (.inl ⟨g, hg, rfl⟩)
  have h0l : ∀ b l, Tr.get b E.gl = some l → seen E nx φ b = φ b := fun b l hb => seen_eq (hgl b l hb).1 (.inr ⟨l, hb⟩)
  have hH0 : HR E.ng (seen E nx φ) ⟨.e, nx⟩ w := by
    refine ⟨?_, ?_, ?_, ?_⟩
    · intro b B hb; rw [show Tr.get b (⟨.e, nx⟩ : Hp).t = none from Tr.get_e b] at hb; cases hb
    · intro b b' B B' p p' hb; rw [show Tr.get b (⟨.e, nx⟩ : Hp).t = none from Tr.get_e b] at hb; cases hb
    · intro b hb
      cases hh : seen E nx φ b with
      | none => rfl
      | some p => have h1 := (seen_some hh).2; have h2 : nx.val ≤ b.val := hb; omega
    · intro g hg; rw [h0g g hg]; exact hH.glob g (by rw [hng]; exact hg)
  have hG0 : GL E (seen E nx φ) ⟨.e, nx⟩ w := by
    refine ⟨?_, ?_, ?_⟩
    · intro b l hb
      obtain ⟨p, o, t, hp, ho, hB⟩ := hG.at_ b l (by rw [hgl']; exact hb)
      refine ⟨p, o, t, by rw [h0l b l hb]; exact hp, ho, ?_⟩
      have hpl := (allL_iff' _ _).1 (hgl b l hb).2
      cases hB with
      | cells hl hcz hg hf hp' =>
        refine .cells hl hcz (fun i v hv => ?_) hf hp'
        obtain ⟨x, hx, hr⟩ := hg i v hv
        exact ⟨x, hx, plainAV_ok (φ := φ) (φ' := seen E nx φ) rfl _ _ _ (hpl v (List.mem_of_getElem? hv)) hr⟩
    · intro b l p b' B' p' _ _ hb'; rw [show Tr.get b' (⟨.e, nx⟩ : Hp).t = none from Tr.get_e b'] at hb'; cases hb'
    · intro b l b' l' p p' hb hb' hp hp'
      exact hG.inj b l b' l' p p' (by rw [hgl']; exact hb) (by rw [hgl']; exact hb') (seen_some hp).1 (seen_some hp').1
  rw [sumR, nameK_eq] at hr
  obtain ⟨H2, hr, hnx2, hget2⟩ := layK_ok _ _ hr
  obtain ⟨rfl, rfl⟩ : renAV (nameS s.blks .e H.nx) 12 s.v = v ∧ H2 = H' := by injection hr with a b; exact ⟨a, b⟩
  generalize hSd : nameS s.blks .e H.nx = S at *
  have hgoes : Goes P .normal f .normal (fun cs => lone (Frame.enter P f A .normal) cs w) (Post E (seen E nx φ) ⟨.e, nx⟩ w s.v H1) := by
    rcases calls_ok hE hcall (hmono _ _ hplain hA) hH0 hG0 with ⟨y, w', h1, _⟩ | ⟨_, h1⟩
    · rw [henter] at h1; cases h1
    · exact h1
  refine hgoes.mono fun x w1 hpost => ?_
  obtain ⟨φ1, hv1, hH1, hk1⟩ := hpost
  have hE0 : ∀ b (B : Blk), Tr.get b (⟨.e, nx⟩ : Hp).t = some B → False := by
    intro b B hb; rw [show Tr.get b (⟨.e, nx⟩ : Hp).t = none from Tr.get_e b] at hb; cases hb
  have hsame : ∀ i, i < w.heap.size → w1.heap[i]? = w.heap[i]? := fun i hi => hk1.old i hi fun b B p hb => (hE0 b B hb).elim
  have hfar : ∀ b B p, Tr.get b H1.t = some B → φ1 b = some p → w.heap.size ≤ p.blk := by
    intro b B p hb hp
    rcases Nat.lt_or_ge p.blk w.heap.size with h | h
    · obtain ⟨b0, B0, _, hb0, _⟩ := hk1.own b B p hb hp h; exact (hE0 b0 B0 hb0).elim
    · exact h
  have hopq : (after φ φ1 H.nx s.blks).opq = φ1.opq := by
    show φ.opq = φ1.opq
    rw [hk1.le.opq]; rfl
  have hren : ∀ b p, okN S' E.gl b = true → φ1 b = some p → after φ φ1 H.nx s.blks (ren S b) = some p := by
    intro b p hok hb
    unfold ren
    cases hc : Tr.get b S with
    | some c =>
      subst hSd
      rcases nameS_get _ _ _ _ _ hc with ⟨i, B, h1, h2⟩ | h1
      · subst h2; simp only; rw [after_new h1]; exact hb
      · rw [Tr.get_e] at h1; cases h1
    | none =>
      simp only
      unfold okN at hok
      split at hok
      · next c0 hc0 =>
        rcases hS' _ _ hc0 with h1 | h1
        · have := nameS_has s.blks .e H.nx b (.inl h1)
          rw [hSd, hc] at this; cases this
        · rw [Tr.get_e] at h1; cases h1
      · split at hok
        · next l hl =>
          obtain ⟨q, o, _, hq, _⟩ := hG.at_ b l (by rw [hgl']; exact hl)
          rw [after_old (hnew b q hq), ← h0l b l hl, ← hk1.dom b (hgl b l hl).1]; exact hb
        · cases hok
  have hle : φ.le (after φ φ1 H.nx s.blks) := ⟨fun b p hb => by rw [after_old (hnew b p hb)]; exact hb, rfl⟩
  have hnewB : ∀ (c : Pos) (C : Blk), Tr.get c H2.t = some C → (∃ i x p o, s.blks[i]? = some x ∧ c = posAdd H.nx i ∧ after φ φ1 H.nx s.blks c = some p ∧ φ1 x.1 = some p ∧ Tr.get x.1 H1.t = some x.2 ∧ w1.heap[p.blk]? = some o ∧ BR (after φ φ1 H.nx s.blks) p C o ∧ w.heap.size ≤ p.blk)
      ∨ (∃ p o, Tr.get c H.t = some C ∧ φ c = some p ∧ after φ φ1 H.nx s.blks c = some p ∧ w1.heap[p.blk]? = some o ∧ BR (after φ φ1 H.nx s.blks) p C o ∧ p.blk < w.heap.size) := by
    intro c C hc
    rcases hget2 c C hc with ⟨i, x, h1, h2, h3⟩ | h1
    · left
      have hx := hblks x (List.mem_of_getElem? h1)
      split at hx
      · next B hB hnm =>
        have := blkEq_eq hx
        subst this
        obtain ⟨p, o, hp, ho, hbr⟩ := hH1.blk _ _ hB
        refine ⟨i, x, p, o, h1, h2, by rw [h2, after_new h1]; exact hp, hp, hB, ho, renBlk_ok hopq hren hnm hbr h3, hfar _ _ _ hB hp⟩
      · cases hx
    · right
      obtain ⟨p, o, hp, ho, hbr⟩ := hH.blk _ _ h1
      have hlt := (Array.getElem?_eq_some_iff.1 ho).1
      exact ⟨p, o, h1, hp, hle.at_ _ _ hp, by rw [hsame _ hlt]; exact ho, hbr.mono hle, hlt⟩
  refine ⟨after φ φ1 H.nx s.blks, renAV_ok hopq hren 12 _ _ hnv hv1, ⟨?_, ?_, ?_, ?_⟩, ⟨hle, hk1.size, ?_, ?_, hk1.tape, hk1.os, hk1.out, ?_, ?_⟩⟩
  · intro b B hb
    rcases hnewB b B hb with ⟨_, _, p, o, _, _, h1, _, _, h2, h3, _⟩ | ⟨p, o, _, _, h1, h2, h3, _⟩
    · exact ⟨p, o, h1, h2, h3⟩
    · exact ⟨p, o, h1, h2, h3⟩
  · intro b b' B B' p p' hb hb' hp hp' he
    rcases hnewB b B hb with ⟨i, x, q, o, hi, hbi, h1, h1x, h1g, _, _, h2⟩ | ⟨q, o, g1, g2, h1, _, _, h2⟩ <;>
    rcases hnewB b' B' hb' with ⟨i', x', q', o', hi', hbi', h1', h1x', h1g', _, _, h2'⟩ | ⟨q', o', g1', g2', h1', _, _, h2'⟩ <;>
    (rw [hp] at h1; cases h1; rw [hp'] at h1'; cases h1')
    · have hxx := hH1.inj _ _ _ _ _ _ h1g h1g' h1x h1x' he
      have hii : i = i' := by
        have hl : i < (s.blks.map (·.1)).length := by rw [List.length_map]; exact (List.getElem?_eq_some_iff.1 hi).1
        refine (List.getElem?_inj hl hnd).1 ?_
        rw [List.getElem?_map, List.getElem?_map, hi, hi']
        simp only [Option.map_some, hxx]
      rw [hbi, hbi', hii]
    · omega
    · omega
    · exact hH.inj _ _ _ _ _ _ g1 g1' g2 g2' he
  · intro b hb
    rw [hnx2] at hb
    unfold after
    simp only
    rw [if_neg (by omega), List.getElem?_eq_none (by omega)]
  · intro g hg
    obtain ⟨p, h1, h2, h3⟩ := hH.glob g hg
    exact ⟨p, hle.at_ _ _ h1, h2, h3⟩
  · intro i hi _; exact hsame i hi
  · intro b B p hb hp hlt
    rcases hnewB b B hb with ⟨_, _, q, o, _, _, h1, _, _, _, _, h2⟩ | ⟨q, o, g1, g2, h1, _, _, h2⟩
    · rw [hp] at h1; cases h1; omega
    · rw [hp] at h1; cases h1; exact ⟨b, B, p, g1, g2, rfl⟩
  · intro b hb; exact after_old hb
  · omega
end Go.Ev
/- Functions without a body: what the evaluator takes them to do is what the machine's entries do. -/
namespace Go.Ev
/-- which entry of the machine is meant -/
def ExtIs (P : Program) (x : Ext) (e : Option (Array Value → Sem Value)) : Prop :=
  match x with
  | .load k => e = some (Extern.Atomic.loadT (.int k))
  | .store => e = some Extern.Atomic.storeT
  | .cas k => e = some (Extern.Atomic.casT (.int k))
  | .add k => e = some (Extern.Atomic.update (Op.intArith .add) k true)
  | .nop0 => ∃ m, e = some (fun _ => do mark m; pure Extern.Race.none_)
  | .nop1 => ∃ m, e = some (Extern.Race.marked m)
  | .idxByte => e = some Extern.BytealgIndexByte.indexByte
  | .count => e = some Extern.BytealgCount.count
  | .same => e = some Extern.AbiNoEscape.same
  | .mknz t => ∃ ps rt, e = some (Extern.BytealgMakeNoZero.makeNoZero ps #[rt]) ∧ P.underlying rt = some (.slice t)
section
variable {P : Program} {E : Env}
theorem put1_ok (P : Program) {ng : Nat} {φ : Phi} {H : Hp} {w : World} {b : Pos} {pl : Nat} {l : List AV} {p : Pl} {o : Nat} {v : AV} {x : Value} (hE : E.ng = ng) (hH : HR ng φ H w) (hb : Tr.get b H.t = some (.cells pl l)) (hp : φ b = some p)
    (hv : VR φ v x) (ho : Value.oneCell' x = true) (hle : o + 1 ≤ l.length) :
    (∃ u, w.cell? ⟨p.blk, p.off + o, none⟩ = some u) ∧ w.frozen? ⟨p.blk, p.off + o, none⟩ = false ∧
      HR ng φ (H.set b (some (.cells pl (l.take o ++ [v] ++ l.drop (o + 1))))) (w.setCell ⟨p.blk, p.off + o, none⟩ x) ∧
      Keep φ H w φ (H.set b (some (.cells pl (l.take o ++ [v] ++ l.drop (o + 1))))) (w.setCell ⟨p.blk, p.off + o, none⟩ x) := by
  subst hE
  have hboth : (∃ u, w.cell? ⟨p.blk, p.off + o, none⟩ = some u) ∧ w.frozen? ⟨p.blk, p.off + o, none⟩ = false := by
    obtain ⟨q, ob, hq, hob, hB⟩ := hH.blk _ _ hb
    rw [hp] at hq; cases hq
    cases hB with | cells hl hc hg hf hpl =>
    obtain ⟨x, hx, _⟩ := hg o l[o] (List.getElem?_eq_getElem (by omega))
    refine ⟨⟨x, by simp [World.cell?, hob, hx]⟩, ?_⟩
    have := hf o (by omega)
    simp [World.frozen?, hob]; omega
  obtain ⟨⟨u, hu⟩, hz⟩ := hboth
  refine ⟨⟨u, hu⟩, hz, ?_⟩
  obtain ⟨w', h1, h2, h3⟩ := put_ok (P := P) (E := E) (o := o) hH hb hp (VRL.cons hv .nil) (fun y hy => by simp at hy; subst hy; exact ho) (by simpa using hle)
  have : (storeCells ⟨p.blk, p.off + o, none⟩ [x]).run P w = .ok () (w.setCell ⟨p.blk, p.off + o, none⟩ x) := by
    have hadd : Addr.add ⟨p.blk, p.off + o, none⟩ 0 = ⟨p.blk, p.off + o, none⟩ := by rw [Addr.add_lit]; rfl
    simp [storeCells, hadd, run_store P w _ x .plain ho, hu, hz]
  rw [this] at h1; cases h1
  exact ⟨h2, h3⟩
theorem frozen_plain {ng : Nat} {φ : Phi} {H : Hp} {w : World} {b : Pos} {l : List AV} {p : Pl} {ty : Nat} (hH : HR ng φ H w) (hb : Tr.get b H.t = some (.cells (ty + 1) l)) (hp : φ b = some p) (o : Nat) : w.frozen? ⟨p.blk, o, none⟩ = false := by
  obtain ⟨qq, ob', hqq, hob, hB⟩ := hH.blk _ _ hb
  rw [hp] at hqq; cases hqq
  cases hB with | cells hl hc hg hf hpl =>
  have := (hpl _ rfl).1
  subst this
  simp [World.frozen?, hob]
theorem cl_mod (a : UInt8) (l : List UInt8) : Nat.mod (cl (a :: l)) 256 = a.toNat := by
  show cl (a :: l) % 256 = a.toNat
  have := a.toNat_lt
  simp only [cl]; omega
theorem cl_div (a : UInt8) (l : List UInt8) : Nat.div (cl (a :: l)) 256 = cl l := by
  show cl (a :: l) / 256 = cl l
  have := a.toNat_lt
  simp only [cl]; omega
theorem idxByteW_eq (x : UInt8) (st : (Unit → Nat → Nat → Int) → Nat → Nat → Int) (hst : ∀ ih i c, st ih i c = if c % 256 = x.toNat then (i : Int) else ih () (i + 1) (c / 256)) :
    ∀ (l : List UInt8) (i : Nat), (fuelRec (X := Nat → Nat → Int) (fun _ _ => .negSucc 0) st l.length i (cl l)) = if Lib.indexByte l x = -1 then -1 else Lib.indexByte l x + i
  | [], i => rfl
  | a :: l, i => by
    have h0 : fuelRec (X := Nat → Nat → Int) (fun _ _ => .negSucc 0) st (a :: l).length i (cl (a :: l)) = st (fun _ => fuelRec (X := Nat → Nat → Int) (fun _ _ => .negSucc 0) st l.length) i (cl (a :: l)) := rfl
    have h1 : cl (a :: l) % 256 = a.toNat := cl_mod a l
    have h2 : cl (a :: l) / 256 = cl l := cl_div a l
    rw [h0, hst, h1, h2, idxByteW_eq x st hst l]
    have hge := Lib.indexByte_ge l x
    rw [show Lib.indexByte (a :: l) x = if a == x then 0 else if Lib.indexByte l x == -1 then -1 else Lib.indexByte l x + 1 from rfl]
    by_cases hb : a.toNat = x.toNat
    · have h1 : a = x := UInt8.toNat_inj.1 hb
      subst h1
      simp
    · have h1 : ¬ a = x := fun e => by subst e; exact hb rfl
      have h2 : (a == x) = false := by simpa using h1
      simp only [h2, hb, Bool.false_eq_true, if_false]
      by_cases h3 : Lib.indexByte l x = -1
      · simp [h3]
      · have h4 : (Lib.indexByte l x == -1) = false := by simpa using h3
        simp only [h3, h4, if_false, Bool.false_eq_true]
        rw [if_neg (by omega)]
        push_cast; omega
theorem countW_eq (x : UInt8) (st : (Unit → Nat → Nat → Nat) → Nat → Nat → Nat) (hst : ∀ ih m c, st ih m c = if c % 256 = x.toNat then ih () (m + 1) (c / 256) else ih () m (c / 256)) :
    ∀ (l : List UInt8) (m : Nat), (fuelRec (X := Nat → Nat → Nat) (fun m _ => m) st l.length m (cl l)) = l.count x + m
  | [], m => by simp; rfl
  | a :: l, m => by
    have h0 : fuelRec (X := Nat → Nat → Nat) (fun m _ => m) st (a :: l).length m (cl (a :: l)) = st (fun _ => fuelRec (X := Nat → Nat → Nat) (fun m _ => m) st l.length) m (cl (a :: l)) := rfl
    have h1 : cl (a :: l) % 256 = a.toNat := cl_mod a l
    have h2 : cl (a :: l) / 256 = cl l := cl_div a l
    rw [h0, hst, h1, h2, countW_eq x st hst l, countW_eq x st hst l, List.count_cons]
    by_cases hb : a.toNat = x.toNat
    · have h1 : a = x := UInt8.toNat_inj.1 hb
      subst h1
      simp; omega
    · have h1 : ¬ a = x := fun e => by subst e; exact hb rfl
      have h2 : (a == x) = false := by simpa using h1
      simp [h2, hb]
theorem beq_split {X : Type} (a b : Nat) (p q : X) : (match Nat.beq a b with | true => p | false => q) = if a = b then p else q := by
  by_cases h : a = b
  · subst h; simp
  · rw [if_neg h]; cases hb : Nat.beq a b with
    | true => exact absurd (Nat.eq_of_beq_eq_true hb) h
    | false => rfl
theorem toUInt8_mod (x : Nat) : ((Int.ofNat x).toNat.toUInt8).toNat = Nat.mod x 256 := by
  show (x.toUInt8).toNat = x % 256
  simp
theorem idx_ok {n c x : Nat} {s : ByteArray} (h : StrIs n c s) : idxByteW n c (Nat.mod x 256) = firstIdx s (Int.ofNat x).toNat.toUInt8 := by
  obtain ⟨rfl, rfl⟩ := h
  rw [Lib.firstIdx_eq, codeOf_eq, ← toUInt8_mod, ← bytes_length]
  refine (idxByteW_eq (Int.ofNat x).toNat.toUInt8 _ (fun ih i c => ?_) _ _).trans ?_
  · exact beq_split (c % 256) _ _ _
  · split
    · next h => rw [h]
    · simp
theorem cnt_ok {n c x : Nat} {s : ByteArray} (h : StrIs n c s) : countW n c (Nat.mod x 256) = Lib.countByte s.data.toList (Int.ofNat x).toNat.toUInt8 := by
  obtain ⟨rfl, rfl⟩ := h
  rw [codeOf_eq, ← toUInt8_mod, ← bytes_length]
  refine (countW_eq (Int.ofNat x).toNat.toUInt8 _ (fun ih i c => ?_) _ _).trans ?_
  · exact beq_split (c % 256) _ _ _
  · simp [Lib.countByte]
theorem VRL.toA {φ : Phi} {l : List AV} {A : Array Value} (h : VRL φ l A.toList) : ∃ m, A = ⟨m⟩ ∧ VRL φ l m := ⟨A.toList, by cases A; rfl, h⟩
theorem post_same {φ : Phi} {H : Hp} {w : World} {v : AV} {y : Value} (hH : HR E.ng φ H w) (h : VR φ v y) : Post E φ H w v H y w := ⟨φ, h, hH, Keep.refl φ H w⟩
theorem intAt_ok {k : IntKind} {b : Pos} {o : Nat} {H : Hp} {f : Int → Ret} {v : AV} {H' : Hp} (h : intAt E.gl k b o H f = .ok v H') : ∃ z, cell E.gl b o H = some (.int k z) ∧ f z = .ok v H' := by
  unfold intAt at h
  split at h
  · next j z hc =>
    split at h
    · next hj => rw [kinds_eq hj] at hc; exact ⟨z, hc, h⟩
    · cases h
  · cases h
theorem digits_one : ∀ (n t : Nat) (acc : Array Value), (∀ x ∈ acc.toList, ∃ k, x = .int .u8 k) → ∀ x ∈ (Extern.BytealgMakeNoZero.digits n t acc).toList, ∃ k, x = .int .u8 k
  | 0, _, _, h => h
  | n + 1, t, acc, h => by
    rw [Extern.BytealgMakeNoZero.digits]
    refine digits_one n _ _ fun x hx => ?_
    rw [Array.toList_push, List.mem_append] at hx
    rcases hx with hx | hx
    · exact h x hx
    · exact ⟨_, by simpa using hx⟩
/-- a row of bytes that nobody knows -/
theorem run_mknz {w : World} (ps : Array TypeId) (t e : TypeId) (ht : P.underlying t = some (.slice e)) (n : Nat) (hn : n ≤ 65536) :
    ∃ cs : Array Value, (Extern.BytealgMakeNoZero.makeNoZero ps #[t] #[.int .i64 n]).run P w = .ok (.slice (some ⟨w.heap.size, 0, none⟩) n cs.size) (w.drew.drew.alloc (.cells cs e)) ∧ n ≤ cs.size ∧ ∀ x ∈ cs.toList, ∃ k, x = .int .u8 k := by
  have hdef : Extern.BytealgMakeNoZero.makeNoZero ps #[t] #[.int .i64 n] =
      (do
        let .slice elem ← underlying t | stuck "bytealg.MakeNoZero: slice type expected"
        if (n : Int) < 0 || (n : Int) > 2 ^ 48 then runtimePanic (.error "makeslice: len out of range")
        let cap ← choose (.appendCap (n : Int).toNat 0 elem)
        askRoom cap
        let bytes ← choose (.extern "internal/bytealg.MakeNoZero.bytes" 0)
        let a ← newRow elem (Extern.BytealgMakeNoZero.digits cap bytes #[])
        pure (.slice (some a) (n : Int).toNat cap)) := rfl
  refine ⟨Extern.BytealgMakeNoZero.digits (grownCap w n 0 e) ((Question.extern "internal/bytealg.MakeNoZero.bytes" 0).cut (w.tape (w.drawn + 1) (.extern "internal/bytealg.MakeNoZero.bytes" 0))) #[], ?_, ?_, digits_one _ _ _ (fun x hx => by cases hx)⟩
  · rw [hdef]
    have h1 : ¬ (n : Int) < 0 := by omega
    have h2 : ¬ (281474976710656 : Int) < (n : Int) := by omega
    simp [run_underlying ht, h1, h2, Question.forced, newRow, Lib.size_digits, grownCap]
  · rw [Lib.size_digits]
    simpa using grownCap_ge w n 0 e
theorem ext_ok {f : FuncId} {fn : Func} {x : Ext} (hf : P.funcs[f]? = some fn) (hname : (fn.name == "runtime.NumGoroutine") = false) (hb : fn.body.isNone = true) (hn : Extern.findNext fn = none)
    (he : ExtIs P x (Extern.find fn)) : ExtOk P E f x := by
  intro args A φ H w v H' hA hH hG h
  obtain ⟨m, rfl, hA⟩ := hA.toA
  unfold extR at h
  split at h
  · next k b o hA =>
    cases hA with | cons h1 h2 => cases h2; cases h1 with | ptr _ hp =>
    replace h := intAt_ok h
    obtain ⟨z, hz, h⟩ := h
    cases h
    obtain ⟨y, hy, hr⟩ := cell_ok hH hG hp hz
    cases hr
    exact ⟨_, _, run_call_load hf hname hb hn k he hy, post_same hH (.int _ _)⟩
  · next b o k y hA =>
    cases hA with | cons h1 h2 => cases h2 with | cons h2 h3 => cases h3; cases h2; cases h1 with | ptr _ hp =>
    obtain ⟨_, pl, l, hbl, hle, h⟩ := storeR_ok h
    cases h
    obtain ⟨⟨u, hu⟩, hz, g1, g2⟩ := put1_ok P rfl hH hbl hp (.int k y) rfl hle
    exact ⟨_, _, run_call_store hf hname hb hn he hu hz, φ, .tup .nil, g1, g2⟩
  · next k b o j x' i y hA =>
    cases hA with | cons h1 h2 => cases h2 with | cons h2 h3 => cases h3 with | cons h3 h4 => cases h4; cases h2; cases h3; cases h1 with | ptr _ hp =>
    split at h
    case h_2 => cases h
    next hj hi =>
    have hj := kinds_eq hj
    have hi := kinds_eq hi
    subst hj hi
    replace h := intAt_ok h
    obtain ⟨z, hz, h⟩ := h
    obtain ⟨q, hq, hr⟩ := cell_ok hH hG hp hz
    cases hr
    split at h
    · next hzx =>
      have hzx := (ieq_iff _ _).1 hzx
      subst hzx
      replace h := storeR_ok h
      obtain ⟨_, pl, l, hbl, hle, h⟩ := h
      cases h
      obtain ⟨_, hzz, g1, g2⟩ := put1_ok P rfl hH hbl hp (.int _ y) rfl hle
      exact ⟨_, _, run_call_cas_hit hf hname hb hn _ he hq hzz, φ, .bool true, g1, g2⟩
    · next hzx =>
      have hne : ¬ z = x' := fun e => by rw [(ieq_iff z x').2 e] at hzx; cases hzx
      split at h
      · next ty l hbl =>
        cases h
        exact ⟨_, _, run_call_cas_miss hf hname hb hn _ he hq (frozen_plain hH hbl hp _) hne, post_same hH (.bool false)⟩
      · cases h
  · next k b o j y hA =>
    cases hA with | cons h1 h2 => cases h2 with | cons h2 h3 => cases h3; cases h2; cases h1 with | ptr _ hp =>
    split at h
    case h_2 => cases h
    next hj =>
    have hj := kinds_eq hj
    subst hj
    replace h := intAt_ok h
    obtain ⟨z, hz, h⟩ := h
    obtain ⟨q, hq, hr⟩ := cell_ok hH hG hp hz
    cases hr
    obtain ⟨_, pl, l, hbl, hle, h⟩ := storeR_ok h
    cases h
    rw [wr_eq, addI_eq]
    obtain ⟨_, hzz, g1, g2⟩ := put1_ok P rfl hH hbl hp (.int _ ((_ : IntKind).wrap (z + y))) rfl hle
    exact ⟨_, _, run_call_add hf hname hb hn _ he hq hzz (by simp [Op.intArith]), φ, .int _ _, g1, g2⟩
  · next hA =>
    cases h; cases hA
    obtain ⟨m, he⟩ := he
    exact ⟨_, _, run_call_mark0 hf hname hb hn m he w, post_same hH (.tup .nil)⟩
  · next hA =>
    cases h
    cases hA with | cons h1 h2 => cases h2; cases h1 with | ptr _ hp =>
    obtain ⟨m, he⟩ := he
    exact ⟨_, _, run_call_marked hf hname hb hn m he _ w, post_same hH (.tup .nil)⟩
  · next n c x hA =>
    cases h
    cases hA with | cons h1 h2 => cases h2 with | cons h2 h3 => cases h3; cases h2; cases h1 with | str hs =>
    refine ⟨_, _, ?_, post_same hH (.int .i64 _)⟩
    rw [run_callFunc_extern hf hname hb hn he, run_indexByte_string, idx_ok hs]
    rfl
  · next n c x hA =>
    cases h
    cases hA with | cons h1 h2 => cases h2 with | cons h2 h3 => cases h3; cases h2; cases h1 with | str hs =>
    refine ⟨_, _, ?_, post_same hH (.int .i64 _)⟩
    rw [run_callFunc_extern hf hname hb hn he, Lib.run_countString, cnt_ok hs]
    rfl
  · next u hA =>
    cases h
    cases hA with | cons h1 h2 =>
    cases h2
    refine ⟨_, _, ?_, post_same hH h1⟩
    rw [run_callFunc_extern hf hname hb hn he]
    rfl
  · next t n hA =>
    cases hA with | cons h1 h2 =>
    cases h2; cases h1
    split at h
    case h_2 => cases h
    next g1 g2 =>
    have g1 := le_of_ble g1
    have g2 := le_of_ble g2
    rw [replK_eq, Hp.newK_eq] at h
    cases h
    obtain ⟨ps, rt, he, hu⟩ := he
    obtain ⟨cs, hrun, hle, hel⟩ := run_mknz (P := P) (w := w) ps rt t hu n g2
    have hcall : (callFunc f (Array.mk [.int .i64 (n : Int)])).run P w = .ok (.value (.slice (some ⟨w.heap.size, 0, none⟩) n cs.size)) (w.drew.drew.alloc (.cells cs t)) := by
      rw [run_callFunc_extern hf hname hb hn he]
      simp [hrun]
    have hll : (List.replicate n [AV.any]).flatten.length = n := by simp
    generalize hpp : (⟨w.heap.size, 0, n, 1, cs.size - n⟩ : Pl) = p'
    have hB : BR (φ.upd H.nx p') p' (.cells (t + 1) (List.replicate n [AV.any]).flatten) (.cells cs t) := by
      subst hpp
      refine .cells hll (by simp only; omega) (fun i v hv => ?_) (fun i _ => by simp) (fun t' h => ⟨rfl, rfl, Nat.succ.inj h⟩)
      have hi : i < n := by rw [← hll]; exact (List.getElem?_eq_some_iff.1 hv).1
      have hv' : v = .any := by
        have := List.mem_of_getElem? hv
        simp at this
        exact this.2
      subst hv'
      have hic : i < cs.size := by omega
      refine ⟨cs[i], by simp [hic], ?_⟩
      obtain ⟨k, hk⟩ := hel cs[i] (by simp)
      rw [hk]
      exact .any (fun a h => by cases h) (fun a h => by cases h)
    obtain ⟨g3, g4⟩ := hH.new_block (w' := w.drew.drew.alloc (.cells cs t)) (p := p') (by subst hpp; rfl) hB rfl rfl rfl rfl
    refine ⟨_, _, hcall, φ.upd H.nx p', ?_, g3, g4⟩
    have := VR.sliceO (φ := φ.upd H.nx p') 0 n n 0 (Phi.upd_self φ H.nx p') (by subst hpp; rfl) (by subst hpp; simp)
    subst hpp
    simp only [Nat.add_zero] at this
    rw [show n + (cs.size - n) = cs.size by omega] at this
    exact this
  · cases h
end
end Go.Ev
/- The evaluator's tables, out of a program. -/
namespace Go.Ev
noncomputable def trOf {α : Type} (l : List α) : Tr α :=
  lrec (X := Nat → Tr α → Tr α) (fun _ t => t) (fun a _ ih i t => Tr.setK (some a) (posOf i) t (fun t => ih () (Nat.succ i) t)) l 0 .e
noncomputable def trAt {α : Type} (l : List (Nat × α)) : Tr α :=
  lrec (X := Tr α → Tr α) (fun t => t) (fun a _ ih t => Tr.setK (some a.2) (posOf a.1) t (fun t => ih () t)) l .e
theorem trOf_get {α : Type} (l : List α) (i : Nat) : Tr.get (posOf i) (trOf l) = l[i]? := by
  have key : ∀ (l : List α) (k : Nat) (t : Tr α), Tr.get (posOf i) (lrec (X := Nat → Tr α → Tr α) (fun _ t => t) (fun a _ ih i t => Tr.setK (some a) (posOf i) t (fun t => ih () (Nat.succ i) t)) l k t) =
      if k ≤ i ∧ i < k + l.length then l[i - k]? else Tr.get (posOf i) t := by
    intro l
    induction l with
    | nil => intro k t; rw [if_neg (by simp only [List.length_nil]; omega)]; rfl
    | cons a l ih =>
      intro k t
      have h0 : (lrec (X := Nat → Tr α → Tr α) (fun _ t => t) (fun a _ ih i t => Tr.setK (some a) (posOf i) t (fun t => ih () (Nat.succ i) t)) (a :: l) k t) =
        Tr.setK (some a) (posOf k) t (fun t => lrec (X := Nat → Tr α → Tr α) (fun _ t => t) (fun a _ ih i t => Tr.setK (some a) (posOf i) t (fun t => ih () (Nat.succ i) t)) l (Nat.succ k) t) := rfl
      rw [h0, Tr.setK_eq, ih, Tr.get_set]
      simp only [Nat.succ_eq_add_one]
      simp only [List.length_cons]
      by_cases h1 : k + 1 ≤ i ∧ i < k + 1 + l.length
      · rw [if_pos h1, if_pos (by omega), show i - k = (i - (k + 1)) + 1 by omega, List.getElem?_cons_succ]
      · rw [if_neg h1]
        by_cases h2 : i = k
        · subst h2; rw [if_pos rfl, if_pos (by omega), Nat.sub_self]; rfl
        · rw [if_neg (fun h => h2 (posOf_inj h)), if_neg (by omega)]
  rw [trOf, key]
  simp only [Nat.zero_le, true_and, Nat.zero_add, Nat.sub_zero, Tr.get_e]
  split
  · rfl
  · rw [List.getElem?_eq_none (by omega)]
theorem info_of {P : Program} {t : TypeId} {i : TypeInfo} (h : P.types[t]? = some i) : P.info? t = some i := by
  unfold Tables.info?
  rw [if_pos (Array.getElem?_eq_some_iff.1 h).1]
  exact h
theorem trAt_get {α : Type} (l : List (Nat × α)) {b : Pos} {x : α} (h : Tr.get b (trAt l) = some x) : ∃ k, (k, x) ∈ l ∧ b = posOf k := by
  have key : ∀ (l : List (Nat × α)) (t : Tr α), Tr.get b (lrec (X := Tr α → Tr α) (fun t => t) (fun a _ ih t => Tr.setK (some a.2) (posOf a.1) t (fun t => ih () t)) l t) = some x →
      (∃ k, (k, x) ∈ l ∧ b = posOf k) ∨ Tr.get b t = some x := by
    intro l
    induction l with
    | nil => intro t h; exact .inr h
    | cons a l ih =>
      intro t h
      have h : Tr.get b (Tr.setK (some a.2) (posOf a.1) t fun t => lrec (X := Tr α → Tr α) (fun t => t) (fun a _ ih t => Tr.setK (some a.2) (posOf a.1) t (fun t => ih () t)) l t) = some x := h
      rw [Tr.setK_eq] at h
      rcases ih _ h with ⟨k, h1, h2⟩ | h1
      · exact .inl ⟨k, List.mem_cons_of_mem _ h1, h2⟩
      · rw [Tr.get_set] at h1
        split at h1
        · next e => cases h1; exact .inl ⟨a.1, List.mem_cons_self .., e⟩
        · exact .inr h1
  rcases key l .e h with h1 | h1
  · exact h1
  · rw [Tr.get_e] at h1; cases h1
/-- the types that are in the list: false; all others: true -/
noncomputable def notIn (T : Tr Unit) (t : TypeId) : Bool := match Tr.get (posOf t) T with | some _ => false | none => true
theorem notIn_false {l : List (Nat × Unit)} {t : TypeId} (h : notIn (trAt l) t = false) : (t, ()) ∈ l := by
  unfold notIn at h
  split at h
  · next u hu => obtain ⟨k, h1, h2⟩ := trAt_get l hu; rw [posOf_inj h2]; exact h1
  · cases h
noncomputable def sumsOf (T : Tr (List Sum)) (f : FuncId) : List Sum := match Tr.get (posOf f) T with | some l => l | none => []
theorem sumsOf_mem {l : List (Nat × List Sum)} {f : FuncId} {s : Sum} (h : s ∈ sumsOf (trAt l) f) : ∃ m, (f, m) ∈ l ∧ s ∈ m := by
  unfold sumsOf at h
  split at h
  · next m hm => obtain ⟨k, h1, h2⟩ := trAt_get l hm; rw [posOf_inj h2]; exact ⟨m, h1, h⟩
  · cases h
/-- an environment is right -/
theorem env_ok {P : Program} {E : Env} {tys : List TypeInfo} {fns : List Func} {exs : List (Nat × Ext)} {hel eqs : List (Nat × Unit)} {sums : List (Nat × List Sum)} {ctrs : List (Nat × Ctr)}
    (hti : E.ti = fun t => Tr.get (posOf t) (trOf tys)) (hfns : E.fns = fun f => Tr.get (posOf f) (trOf fns)) (hext : E.ext = fun f => Tr.get (posOf f) (trAt exs)) (hheld : E.held = notIn (trAt hel)) (heqg : E.eqg = notIn (trAt eqs)) (hsum : E.sums = sumsOf (trAt sums)) (hctr : E.ctr = fun f => Tr.get (posOf f) (trAt ctrs))
    (htys : P.types.toList = tys) (hfn : P.funcs.toList = fns) (hnames : (fns.all fun f => !(f.name == "runtime.NumGoroutine")) = true) (hhel : (hel.all fun t => !(P.stoodInHeld t.1)) = true) (heqs : (eqs.all fun t => !(P.eqGuardType P.depth t.1)) = true)
    (hmixed : P.follows .mixedOrders = true) (hx : ∀ f x, (f, x) ∈ exs → ExtOk P E f x) (hs : ∀ f m s, (f, m) ∈ sums → s ∈ m → SumOk P E f s) (hc : ∀ f c, (f, c) ∈ ctrs → CtrOk P E f c) : EnvOk2 P E where
  ti t i h := by
    rw [hti] at h
    simp only [trOf_get] at h
    subst htys
    rw [Array.getElem?_toList] at h
    exact info_of h
  fns f fn h := by
    rw [hfns] at h
    simp only [trOf_get] at h
    have hm := List.all_eq_true.1 hnames fn (List.mem_of_getElem? h)
    subst hfn
    rw [Array.getElem?_toList] at h
    refine ⟨h, ?_⟩
    simpa using hm
  held t h := by
    rw [hheld] at h
    have := List.all_eq_true.1 hhel _ (notIn_false h)
    simpa using this
  eqg t h := by
    rw [heqg] at h
    have := List.all_eq_true.1 heqs _ (notIn_false h)
    simpa using this
  mixed := hmixed
  ext f x h := by
    rw [hext] at h
    obtain ⟨k, h1, h2⟩ := trAt_get exs h
    rw [posOf_inj h2]; exact hx k x h1
  sums f s h := by
    rw [hsum] at h
    obtain ⟨m, h1, h2⟩ := sumsOf_mem h
    exact hs f m s h1 h2
  ctr f c h := by
    rw [hctr] at h
    obtain ⟨k, h1, h2⟩ := trAt_get ctrs h
    rw [posOf_inj h2]; exact hc k c h1
end Go.Ev
