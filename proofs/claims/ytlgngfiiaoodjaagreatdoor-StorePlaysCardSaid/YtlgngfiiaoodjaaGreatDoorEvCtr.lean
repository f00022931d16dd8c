/- Calls of which a law tells the end: slices.Sorted at what maps.Keys has made, out of the library's contract. -/
import Derived.Test.YtlgngfiiaoodjaaGreatDoorEvSums
import Derived.Shelf.SlIterI.Nil
set_option linter.unusedVariables false
set_option linter.unusedSimpArgs false
namespace Go.Ev
open Go.Proofs Go.RowKit Go.Maps Go.Sort Go.Shelf
/-! ### numbers in order -/
theorem insI_perm (n : Int) : ∀ l : List Int, (insI n l).Perm (n :: l)
  | [] => .refl _
  | a :: l => by
    change (match ilt a n with | true => a :: insI n l | false => n :: a :: l).Perm _
    split
    · exact ((insI_perm n l).cons a).trans (.swap n a l)
    · exact .refl _
theorem insI_sorted (n : Int) : ∀ l : List Int, l.Pairwise (· ≤ ·) → (insI n l).Pairwise (· ≤ ·)
  | [], _ => by simp [insI, lrec]
  | a :: l, h => by
    change (match ilt a n with | true => a :: insI n l | false => n :: a :: l).Pairwise _
    rw [List.pairwise_cons] at h
    split
    · next e =>
      rw [List.pairwise_cons]
      refine ⟨fun x hx => ?_, insI_sorted n l h.2⟩
      have e := (ilt_iff _ _).1 e
      rcases List.mem_cons.1 ((insI_perm n l).mem_iff.1 hx) with rfl | hx
      · omega
      · exact h.1 x hx
    · next e =>
      rw [ilt_eq] at e
      have e := of_decide_eq_false e
      rw [List.pairwise_cons, List.pairwise_cons]
      refine ⟨fun x hx => ?_, h⟩
      rcases List.mem_cons.1 hx with rfl | hx
      · omega
      · have := h.1 x hx; omega
theorem sortI_perm : ∀ l : List Int, (sortI l).Perm l
  | [] => .refl _
  | a :: l => (insI_perm a (sortI l)).trans ((sortI_perm l).cons a)
theorem sortI_sorted : ∀ l : List Int, (sortI l).Pairwise (· ≤ ·)
  | [] => .nil
  | a :: l => insI_sorted a _ (sortI_sorted l)
theorem sortI_eq {ks ss : List Int} (h : ss.Perm ks) : ss.mergeSort (fun x y => decide (x ≤ y)) = sortI ks := by
  have tr : ∀ a b c : Int, decide (a ≤ b) = true → decide (b ≤ c) = true → decide (a ≤ c) = true := fun a b c h1 h2 => by simp only [decide_eq_true_eq] at *; exact Int.le_trans h1 h2
  have to : ∀ a b : Int, (decide (a ≤ b) || decide (b ≤ a)) = true := fun a b => by simp only [Bool.or_eq_true, decide_eq_true_eq]; exact Int.le_total a b
  refine List.Perm.eq_of_pairwise (le := fun a b : Int => a ≤ b) (fun a b _ _ h1 h2 => Int.le_antisymm h1 h2) ?_ (sortI_sorted ks) ((List.mergeSort_perm ss _).trans (h.trans (sortI_perm ks).symm))
  exact (List.pairwise_mergeSort tr to ss).imp fun h => by simpa using h
/-! ### what is found of a map -/
theorem keysOk_iff : ∀ l : List Int, keysOk l = true → l.Nodup ∧ ∀ a ∈ l, (Lit.int .i64 a).wf = true
  | [], _ => ⟨.nil, fun a h => by cases h⟩
  | a :: l, h => by
    change (match allL (fun b => bnot (ieq a b)) l, ilt a (-9223372036854775808), ilt 9223372036854775807 a with | true, false, false => keysOk l | _, _, _ => false) = true at h
    split at h
    · next h1 h2 h3 =>
      obtain ⟨i1, i2⟩ := keysOk_iff l h
      have h1 := (allL_iff' _ _).1 h1
      rw [ilt_eq] at h2 h3
      have h2 := of_decide_eq_false h2
      have h3 := of_decide_eq_false h3
      refine ⟨List.nodup_cons.2 ⟨fun hm => ?_, i1⟩, fun b hb => ?_⟩
      · have := h1 a hm
        rw [(ieq_iff a a).2 rfl] at this; cases this
      · rcases List.mem_cons.1 hb with rfl | hb
        · exact WalkArith.wf_i64 (by omega)
        · exact i2 b hb
    · cases h
theorem stampsOk_iff {cl : Nat} : ∀ (es : List (AV × AV × Nat)) (lo : Nat), lrec (X := Nat → Bool) (fun _ => true) (fun e _ ih lo => match Nat.ble lo e.2.2, Nat.blt e.2.2 cl with | true, true => ih () (Nat.succ e.2.2) | _, _ => false) es lo = true →
    (∀ e ∈ es, lo ≤ e.2.2 ∧ e.2.2 < cl) ∧ (es.map (·.2.2)).Nodup
  | [], _, _ => ⟨fun e h => (by cases h), List.nodup_nil⟩
  | e :: es, lo, h => by
    change (match Nat.ble lo e.2.2, Nat.blt e.2.2 cl with | true, true => lrec (X := Nat → Bool) (fun _ => true) (fun e _ ih lo => match Nat.ble lo e.2.2, Nat.blt e.2.2 cl with | true, true => ih () (Nat.succ e.2.2) | _, _ => false) es (Nat.succ e.2.2) | _, _ => false) = true at h
    split at h
    · next h1 h2 =>
      obtain ⟨i1, i2⟩ := stampsOk_iff es _ h
      have h1 := Nat.le_of_ble_eq_true h1
      have h2 : e.2.2 < cl := by simpa [Nat.blt_eq] using h2
      refine ⟨fun x hx => ?_, ?_⟩
      · rcases List.mem_cons.1 hx with rfl | hx
        · exact ⟨h1, h2⟩
        · have := i1 x hx; exact ⟨by omega, this.2⟩
      · rw [List.map_cons, List.nodup_cons]
        refine ⟨fun hm => ?_, i2⟩
        obtain ⟨x, hx, he⟩ := List.mem_map.1 hm
        have := (i1 x hx).1
        omega
    · cases h
theorem VR_int {φ : Phi} {k : IntKind} {n : Int} {X : Value} (h : VR φ (.int k n) X) : X = .int k n := by cases h; rfl
/-- the entries, as the model has them -/
theorem ER.keys {φ : Phi} : ∀ {es : List (AV × AV × Nat)} {ms : List MapEntry} {ks : List Int}, ER φ es ms → keyInts es = some ks → ms.map (·.key) = ks.map (Value.int .i64)
  | _, _, _, .nil, h => by cases h; rfl
  | _, _, ks, .cons (k := k) hk hv he, h => by
    obtain ⟨b, r, hb, hr, rfl⟩ := (omap_cons _ _ _ _).1 h
    simp only at hb
    split at hb
    · cases hb
      simp [VR_int hk, he.keys hr]
    · cases hb
theorem ER.born {φ : Phi} : ∀ {es : List (AV × AV × Nat)} {ms : List MapEntry}, ER φ es ms → ms.map (·.born) = es.map (·.2.2)
  | _, _, .nil => rfl
  | _, _, .cons hk hv he => by simp [he.born]
theorem mapOf_some {v : AV} {H : Hp} {r : Option (Pos × List (AV × AV × Nat) × Nat × List Int)} (h : mapOf v H = some r) :
    (v = .nmap ∧ r = none) ∨ ∃ m es cl ks, v = .map m ∧ r = some (m, es, cl, ks) ∧ Tr.get m H.t = some (.map es cl) ∧ keyInts es = some ks ∧ stampsOk cl es = true ∧ keysOk ks = true ∧ ks.length ≤ 4096 := by
  unfold mapOf at h
  split at h
  · cases h; exact .inl ⟨rfl, rfl⟩
  · next m =>
    right
    split at h
    · next es cl hm =>
      obtain ⟨ks, hk, h⟩ := ob_some.1 h
      split at h
      · next h1 h2 h3 => cases h; exact ⟨m, es, cl, ks, rfl, rfl, hm, hk, h1, h2, by rw [← len_eq]; exact Nat.le_of_ble_eq_true h3⟩
      · cases h
    · cases h
  · cases h
/-! ### worlds that have grown -/
theorem HR.below {ng : Nat} {φ : Phi} {H : Hp} {w w' : World} (h : HR ng φ H w) (hb : Below w.heap.size w w') : HR ng φ H w' := by
  refine ⟨fun b B hB => ?_, h.inj, h.new, h.glob⟩
  obtain ⟨p, o, hp, ho, hr⟩ := h.blk b B hB
  exact ⟨p, o, hp, by rw [hb.block _ (Array.getElem?_eq_some_iff.1 ho).1]; exact ho, hr⟩
theorem Keep.below {φ : Phi} {H : Hp} {w w' : World} (hb : Below w.heap.size w w') : Keep φ H w φ H w' :=
  ⟨φ.le_refl, hb.size, fun i hi _ => hb.block i hi, fun b B p h hp _ => ⟨b, B, p, h, hp, rfl⟩, hb.tape, hb.os, hb.output, fun _ _ => rfl, Nat.le_refl _⟩
/-- a contract of the library's, in the evaluator's words -/
theorem goes_of_calls {P : Program} {f : FuncId} {A : Array Value} {w : World} {R : Ending → World → Prop} {R' : Value → World → Prop} (h : Calls P f A w R) (hr : ∀ e w', R e w' → ∃ x, e = .returned x ∧ R' x w') :
    Goes P .normal f .normal (fun cs => lone (Frame.enter P f A .normal) cs w) R' := by
  intro cs _
  obtain ⟨e, w', fr, h1, h2, h3, h4⟩ := h cs
  obtain ⟨x, rfl, hx⟩ := hr e w' h1
  obtain ⟨k1, k2, k3, fn, k4, k5⟩ := h4
  exact ⟨x, w', fr, hx, h2, h3, k3, k1, k2, fn, by rw [← h3]; exact k4, k5⟩
theorem insert_perm {H : Type} (x : Lit × DataW H) : ∀ l : List (Lit × DataW H), (DataW.insert x l).Perm (x :: l)
  | [] => .refl _
  | y :: r => by
    unfold DataW.insert
    split
    · exact .refl _
    · exact ((insert_perm x r).cons y).trans (.swap x y r)
theorem foldr_insert_perm {H : Type} : ∀ l : List (Lit × DataW H), (l.foldr DataW.insert []).Perm l
  | [] => .refl _
  | a :: l => (insert_perm a _).trans ((foldr_insert_perm l).cons a)
theorem keys_ok {P : Program} {E : Env} {ρ ρ' : Ren} {f kf : FuncId} (L6 : SlLaysZI.n6 P ρ) (L10 : SlLaysZI.n10 P ρ') (hf : ρ.f 6 = f) (hkf : ρ'.f 10 = kf) (hsort : ∀ m, AnyZI.SortsIn P ρ Fence.wide m)
    (e9 : ∀ args w, (callFunc (ρ.f 9) args).run P w = .ok (.enter (ρ.f 9) args) w) (ek : ∀ args w, (callFunc kf args).run P w = .ok (.enter kf args) w) (ef : ∀ args w, (callFunc f args).run P w = .ok (.enter f args) w) : CtrOk P E f (.keys kf) := by
  intro args A φ H w v H' hA hH hG h
  refine ⟨ef A w, ?_⟩
  unfold ctrR at h
  split at h
  case h_2 => rename_i hc; cases hc
  case h_3 => rename_i hc; cases hc
  case h_4 => rename_i hc; cases hc
  case h_5 => cases h
  next kf' g b hc =>
  cases hc
  split at h
  case h_2 => cases h
  next ty x tl hg hb =>
  have hg := Nat.eq_of_beq_eq_true hg
  subst hg
  obtain ⟨A⟩ := A
  cases hA with | cons hx hl =>
  cases hl
  cases hx with | fn _ hF hC =>
  rename_i F C
  obtain ⟨F⟩ := F
  obtain ⟨C⟩ := C
  cases hF
  cases hC with | cons hp hl =>
  cases hl
  cases hp with | ptr _ hp =>
  rename_i p
  obtain ⟨q, ob, hq, hob, hB⟩ := hH.blk _ _ hb
  rw [hp] at hq; cases hq
  cases hB with | cells hcl hcc hcg hcf hcp =>
  rename_i cs ce fz
  obtain ⟨hfz, hoff, _⟩ := hcp _ rfl
  subst hfz
  obtain ⟨X, hX, hxr⟩ := hcg 0 x rfl
  have hcell : w.cell? ⟨p.blk, 0, none⟩ = some X := by simp only [hoff, Nat.add_zero] at hX; simp [World.cell?, hob, hX]
  have hplt : p.blk < w.heap.size := (Array.getElem?_eq_some_iff.1 hob).1
  rw [hoff]
  have main : ∀ (ss0 : List Int) (N : Nat), N ≤ 4096 → SeqGives Fence.wide 2 P (ρ'.f 10) #[.pointer (some ⟨p.blk, 0, none⟩)] encZ (fun ss => ss.Perm ss0) N w →
      Calls P f #[.func (.func (ρ'.f 10)) #[] #[.pointer (some ⟨p.blk, 0, none⟩)]] w fun e w' => ∃ (v : Value) (ss : List Int), e = .returned v ∧ ss.Perm ss0 ∧
        w'.ownsRow w.heap.size (ρ.t 26) 1 v ss.length ((ss.mergeSort (fun x y => decide (x ≤ y))).map encZ) ∧ (v = .slice none 0 0 ↔ ss = []) ∧ Below w.heap.size w w' := by
    intro ss0 N hN hseq
    have := AnyZI.sorted_in L6 Fence.wide 5 trivial trivial trivial trivial rfl (by omega) (hsort _) e9 (ρ'.f 10) #[.pointer (some ⟨p.blk, 0, none⟩)] trivial (by rw [hkf]; exact ek) (fun ss => ss.Perm ss0) N (by unfold maxLen; omega) (by omega) w hseq
    rw [hf] at this
    exact callsIn_wide.1 this
  have nilcase : ∀ (ss0 : List Int) (N : Nat), ss0 = [] → N ≤ 4096 → SeqGives Fence.wide 2 P (ρ'.f 10) #[.pointer (some ⟨p.blk, 0, none⟩)] encZ (fun ss => ss.Perm ss0) N w →
      Goes P .normal f .normal (fun cs => lone (Frame.enter P f #[.func (.func (ρ'.f 10)) #[] #[.pointer (some ⟨p.blk, 0, none⟩)]] .normal) cs w) (Post E φ H w .nslice H) := by
    intro ss0 N h0 hN hseq
    subst h0
    refine goes_of_calls (main [] N hN hseq) ?_
    rintro e w' ⟨v, ss, rfl, hp, _, hnil, hbl⟩
    have hss : ss = [] := List.Perm.eq_nil hp
    obtain rfl := hnil.2 hss
    exact ⟨_, rfl, φ, .nslice, hH.below hbl, .below hbl⟩
  rw [← hkf]
  split at h
  · next hm =>
    cases h
    rcases mapOf_some hm with ⟨rfl, _⟩ | ⟨_, _, _, _, _, h, _⟩
    · cases hxr
      refine nilcase [] 0 rfl (by omega) ?_
      have := AnyZI.keys_gives_nil L10 Fence.wide 2 trivial rfl p.blk w hplt hcell
      exact fun l J W hW hJ hY h0 => (this l J W hW hJ hY h0).mono fun e W' ⟨hv, xs, hS, hJ'⟩ => ⟨hv, xs, by rw [hS], hJ'⟩
    · cases h
  · next m es cl ks hm =>
    rcases mapOf_some hm with ⟨_, h⟩ | ⟨m1, es1, cl1, ks1, rfl, he, hmb, hkk, hst, hko, hlen⟩
    · cases h
    cases he
    cases hxr with | map hmp =>
    rename_i q
    obtain ⟨q', om, hq', hom, hBm⟩ := hH.blk _ _ hmb
    rw [hmp] at hq'; cases hq'
    cases hBm with | map hER =>
    rename_i ms
    obtain ⟨kd, kwf⟩ := keysOk_iff _ hko
    obtain ⟨sb, sd⟩ := stampsOk_iff es 0 hst
    have hkeys := hER.keys hkk
    have hborn := hER.born
    have hlen' : ms.toList.length = ks.length := by have := congrArg List.length hkeys; simpa using this
    let R : Value → Option (DataW Unit × List MemPlace) := fun _ => some (.nil, [])
    have hrd : ∀ x ∈ ms.toList, ∃ n, n ∈ ks ∧ x.key = .int .i64 n ∧ WideElems.rd P (ρ'.t 26) R x = some (.int .i64 n, .nil) := by
      intro x hx
      have hk : x.key ∈ ks.map (Value.int .i64) := by rw [← hkeys]; exact List.mem_map_of_mem hx
      obtain ⟨n, hn, hk⟩ := List.mem_map.1 hk
      refine ⟨n, hn, hk.symm, ?_⟩
      have h1 : keyOf P (ρ'.t 26) x.key = some (.int .i64 n) := by rw [← hk]; exact keyOf_int_mk L10.t26 (kwf n hn)
      exact WideElems.rd_mk (key := x.key) (val := x.val) h1 (show R x.val = some (.nil, []) from rfl)
    have hFit : WideElems.Fit P (ρ'.t 26) R ms cl := by
      refine ⟨?_, ⟨fun x hx => ?_, ?_, ?_⟩, fun x hx => ?_⟩
      · have : ms.size = ks.length := by simpa using hlen'
        unfold maxLen; omega
      · have : x.born ∈ es.map (·.2.2) := by rw [← hborn]; exact List.mem_map_of_mem hx
        obtain ⟨e, he, hb⟩ := List.mem_map.1 this
        rw [← hb]; exact (sb e he).2
      · rw [hborn]; exact sd
      · rw [hkeys]
        exact List.pairwise_map.2 (kd.imp fun h e => h (by simpa using e))
      · obtain ⟨n, _, _, h⟩ := hrd x hx
        exact ⟨_, h⟩
    have hown : w.ownsMap P (ρ'.t 26) R q.blk ms.size (.map ((ms.toList.map (WideElems.rg P (ρ'.t 26) R)).foldr DataW.insert [])) := ⟨ms, cl, hom, hFit, Nat.le_refl _, rfl⟩
    generalize hl0 : (ms.toList.map (WideElems.rg P (ρ'.t 26) R)).foldr DataW.insert [] = l0 at hown
    have hp0 : l0.Perm (ms.toList.map (WideElems.rg P (ρ'.t 26) R)) := by rw [← hl0]; exact foldr_insert_perm _
    have hk0 : (ms.toList.map (WideElems.rg P (ρ'.t 26) R)).map (fun p => intOf p.1) = ks := by
      have inj : ∀ a b : Int, Value.int .i64 a = Value.int .i64 b → a = b := fun a b h => by simpa using h
      refine (List.map_inj_right inj).1 ?_
      rw [← hkeys, List.map_map, List.map_map]
      refine List.map_congr_left fun x hx => ?_
      obtain ⟨n, _, h1, h2⟩ := hrd x hx
      simp only [Function.comp_apply, WideElems.rg_of h2, h1, intOf]
    have hperm : (Go.intKeys (.map l0)).Perm ks := by rw [← hk0]; exact hp0.map _
    have hsize : Maps.size (DataW.map l0) ≤ 4096 := by
      have : Maps.size (DataW.map l0) = l0.length := rfl
      rw [this, hp0.length_eq, List.length_map, hlen']; exact hlen
    have hseq := AnyZI.keys_gives L10 Fence.wide 2 trivial rfl (by omega) p.blk q.blk ms.size (.map l0) w hplt hcell hown
    split at h
    · cases h
      exact nilcase _ _ (List.Perm.eq_nil hperm) hsize hseq
    · next k0 kr =>
      rw [Hp.newK_eq] at h
      cases h
      refine goes_of_calls (main _ _ hsize hseq) ?_
      rintro e w' ⟨v, ss, rfl, hpp, hrow, hnil, hbl⟩
      have hpk : ss.Perm (k0 :: kr) := hpp.trans hperm
      have hsl : ss.length = (k0 :: kr).length := hpk.length_eq
      obtain ⟨hrl, hrow⟩ := hrow
      rcases hrow with ⟨_, hz⟩ | ⟨g, cap, cur, rfl, hge, hgb, r1, r2, r3, r4⟩
      · rw [hsl] at hz; cases hz
      · refine ⟨_, rfl, ?_⟩
        have hnx : φ H.nx = none := hH.new _ (Nat.le_refl _)
        rw [sortI_eq hpk] at r4
        simp only [len_eq]
        generalize hpp' : (⟨g, 0, (k0 :: kr).length, 1, cap - (k0 :: kr).length⟩ : Pl) = p'
        have hle := Phi.le_upd hnx p'
        have hsll : (sortI (k0 :: kr)).length = (k0 :: kr).length := (sortI_perm _).length_eq
        have hBR : BR (φ.upd H.nx p') p' (.cells 0 (mapL (fun n => AV.int .i64 n) (sortI (k0 :: kr)))) (.cells cur (ρ.t 26) (0, 0)) := by
          subst hpp'
          refine .cells (by rw [mapL_length, hsll]) (by simp only; omega) (fun i u hu => ?_) (fun i _ => by simp) (fun t h => by cases h)
          rw [mapL_eq, List.getElem?_map] at hu
          obtain ⟨n, hn, rfl⟩ := Option.map_eq_some_iff.1 hu
          refine ⟨.int .i64 n, ?_, .int _ _⟩
          have hi : i < (sortI (k0 :: kr)).length := (List.getElem?_eq_some_iff.1 hn).1
          have := congrArg (fun l => l[i]?) r4
          simp only [List.getElem?_map, hn, Option.map_some] at this
          rw [List.getElem?_take, if_pos (by omega), Array.getElem?_toList] at this
          simpa using this
        refine ⟨φ.upd H.nx p', ?_, hH.add hBR (fun b B q hb hq => ?_) (by subst hpp'; exact hgb) (fun i _ hi => hbl.block i hi), ⟨hle, hbl.size, fun i hi _ => hbl.block i hi, fun c C q hC hq hl => ?_, hbl.tape, hbl.os, hbl.output, Phi.upd_dom φ p', Hp.nx_add _ _⟩⟩
        · have := VR.sliceO (φ := φ.upd H.nx p') 0 (k0 :: kr).length (k0 :: kr).length 0 (Phi.upd_self φ H.nx p') (by subst hpp'; rfl) (by subst hpp'; simp)
          subst hpp'
          simp only [Nat.add_zero] at this
          rw [show (k0 :: kr).length + (cap - (k0 :: kr).length) = cap by omega] at this
          rw [hsl]; exact this
        · subst hpp'
          obtain ⟨_, o, hq', ho, _⟩ := hH.blk b B hb
          rw [hq] at hq'; cases hq'
          have := (Array.getElem?_eq_some_iff.1 ho).1
          simp only; omega
        · simp only [Hp.add, Tr.get_set] at hC
          by_cases hcb : c = H.nx
          · subst hcb; rw [Phi.upd_self] at hq; cases hq; subst hpp'; simp only at hl; omega
          · rw [if_neg hcb] at hC
            have : φ c = some q := by simpa [Phi.upd, hcb] using hq
            exact ⟨c, C, q, hC, this, rfl⟩
  · cases h
end Go.Ev
