/- The law's function, called in any world in which the variables hold what they hold: it returns true. -/
import Derived.Test.YtlgngfiiaoodjaaGreatDoorEvSound
import Derived.Test.YtlgngfiiaoodjaaGreatDoorEvSLawA
import Derived.RowKit3
import Derived.Below
set_option linter.unusedVariables false
set_option linter.unusedSimpArgs false
namespace Go.Ev
open Go.Proofs
set_option maxRecDepth 100000
def lens : List Nat := [23, 15, 1, 4, 9, 12, 256, 0, 0, 0, 0, 256, 32, 0, 0, 0]
def phi (o : Nat → Int) : Phi := ⟨fun p => if p.val ≤ 16 then some ⟨p.val - 1, 0, lens.getD (p.val - 1) 0, 0, 0⟩ else none, o⟩
theorem phi_at (o : Nat → Int) {g : Nat} (hg : g < 16) : phi o (posOf g) = some ⟨g, 0, lens.getD g 0, 0, 0⟩ := by
  unfold phi
  simp only [posOf_val]
  rw [if_pos (by omega)]; rfl
theorem lens_ok : (glL.all fun x => decide (x.1 < 16) && Nat.beq (lens.getD x.1 0) x.2.length) = true := by kernel_rfl
theorem law_calls {W : World} (o : Nat → Int) {av : List AV} {A : Array Value} {H' : Hp} (hr : callR E5 (run E5 100000000) .normal 13 av ⟨.e, nx0⟩ = .ok (.bool true) H') (hA : VRL (phi o) av A.toList)
    (hrows : ∀ g l, (g, l) ∈ glL → ∃ c e, W.heap[g]? = some (.cells c e (0, 0)) ∧ VRL (phi o) l c.toList) :
    Calls Tryz.prog 13 A W fun e W' => e = .returned (.bool true) ∧ RowKit.Below W.heap.size W W' := by
  have hE0 : ∀ c (B : Blk), Tr.get c (⟨.e, nx0⟩ : Hp).t = some B → False := by
    intro c B hb; rw [show Tr.get c (⟨.e, nx0⟩ : Hp).t = none from Tr.get_e c] at hb; cases hb
  have hall : ∀ g l, (g, l) ∈ glL → g < 16 ∧ lens.getD g 0 = l.length := by
    intro g l h
    have := List.all_eq_true.1 lens_ok _ h
    simp only [Bool.and_eq_true, decide_eq_true_eq] at this
    exact ⟨this.1, Nat.eq_of_beq_eq_true this.2⟩
  have hH : HR E5.ng (phi o) ⟨.e, nx0⟩ W := by
    refine ⟨fun c B hb => (hE0 c B hb).elim, fun c c' B B' p p' hb => (hE0 c B hb).elim, fun c hc => ?_, fun g hg => ⟨_, phi_at o hg, rfl, rfl⟩⟩
    have hc : nx0.val ≤ c.val := hc
    rw [nx0, posOf_val] at hc
    unfold phi
    simp only
    rw [if_neg (by omega)]
  have hG : GL E5 (phi o) ⟨.e, nx0⟩ W := by
    refine ⟨fun c l hc => ?_, fun c l p b' B' p' _ _ hb' => (hE0 b' B' hb').elim, fun c l c' l' p p' hc hc' hp hp' he => ?_⟩
    · obtain ⟨k, h1, rfl⟩ := trAt_get glL hc
      obtain ⟨h2, h3⟩ := hall k l h1
      obtain ⟨cs, e, h4, h5⟩ := hrows k l h1
      refine ⟨_, _, e, phi_at o h2, h4, .cells h3.symm ?_ (fun i v hv => ?_) (fun i _ => by simp) (fun t h => ⟨rfl, rfl, Nat.succ.inj h⟩)⟩
      · have := h5.length
        simp only [Array.length_toList] at this
        show 0 + lens.getD k 0 + 0 * 0 ≤ cs.size
        rw [h3]; omega
      · obtain ⟨x, hx, hr⟩ := h5.get hv
        exact ⟨x, by simpa using hx, hr⟩
    · obtain ⟨k, h1, rfl⟩ := trAt_get glL hc
      obtain ⟨k', h1', rfl⟩ := trAt_get glL hc'
      rw [phi_at o (hall k l h1).1] at hp
      rw [phi_at o (hall k' l' h1').1] at hp'
      cases hp; cases hp'
      simp only at he
      rw [he]
  intro cs
  rcases calls_ok e5_ok hr hA hH hG with ⟨y, w', h1, _⟩ | ⟨_, h2⟩
  · rw [callFunc_enter (c := (Tryz.f13.body.getD default)) Tryz.func13 (by decide) (by rfl)] at h1; cases h1
  · obtain ⟨x, w', fr', ⟨φ', hx, _, hk⟩, hs, hl⟩ := h2 cs trivial
    cases hx
    exact ⟨.returned (.bool true), w', fr', ⟨rfl, hk.os, hk.tape, hk.out, hk.size, fun i hi => hk.old i hi fun c B p hb => (hE0 c B hb).elim⟩, hs, hl.hfn, hl.hmode, hl.hdefers, hl.hkind, by rw [hl.hfn]; exact hl.res⟩
theorem of_isTrueA : ∀ (r : Ret), isTrueA r = true → ∃ H', r = .ok (.bool true) H'
  | .ok (.bool true) H', _ => ⟨H', rfl⟩
theorem law_callsA {W : World} (o : Nat → Int) {A : Array Value} (hA : VRL (phi o) [] A.toList) (hrows : ∀ g l, (g, l) ∈ glL → ∃ c e, W.heap[g]? = some (.cells c e (0, 0)) ∧ VRL (phi o) l c.toList) :
    Calls Tryz.prog 13 A W fun e W' => e = .returned (.bool true) ∧ RowKit.Below W.heap.size W W' := by
  obtain ⟨H', hr⟩ := of_isTrueA _ law_isA
  exact law_calls o hr hA hrows
theorem snaps_calls2 {W : World} (o : Nat → Int) (hrows : ∀ g l, (g, l) ∈ glL → ∃ c e, W.heap[g]? = some (.cells c e (0, 0)) ∧ VRL (phi o) l c.toList) :
    Calls Tryz.prog 9 #[.int .i64 2] W fun e W' => ∃ (g c : Nat) (bs : Nat → Nat), e = .returned (.slice (some ⟨g, 0, none⟩) 2 c) ∧ (∀ j, j < 2 → W'.cell? ⟨g, j, none⟩ = some (.pointer (some ⟨bs j, 0, none⟩)) ∧ ∃ a, W'.cell? ⟨bs j, 0, none⟩ = some (.pointer (some a))) ∧ RowKit.Below W.heap.size W W' := by
  have hE0 : ∀ c (B : Blk), Tr.get c (⟨.e, nx0⟩ : Hp).t = some B → False := by
    intro c B hb; rw [show Tr.get c (⟨.e, nx0⟩ : Hp).t = none from Tr.get_e c] at hb; cases hb
  have hall : ∀ g l, (g, l) ∈ glL → g < 16 ∧ lens.getD g 0 = l.length := by
    intro g l h
    have := List.all_eq_true.1 lens_ok _ h
    simp only [Bool.and_eq_true, decide_eq_true_eq] at this
    exact ⟨this.1, Nat.eq_of_beq_eq_true this.2⟩
  have hH : HR E5.ng (phi o) ⟨.e, nx0⟩ W := by
    refine ⟨fun c B hb => (hE0 c B hb).elim, fun c c' B B' p p' hb => (hE0 c B hb).elim, fun c hc => ?_, fun g hg => ⟨_, phi_at o hg, rfl, rfl⟩⟩
    have hc : nx0.val ≤ c.val := hc
    rw [nx0, posOf_val] at hc
    unfold phi
    simp only
    rw [if_neg (by omega)]
  have hG : GL E5 (phi o) ⟨.e, nx0⟩ W := by
    refine ⟨fun c l hc => ?_, fun c l p b' B' p' _ _ hb' => (hE0 b' B' hb').elim, fun c l c' l' p p' hc hc' hp hp' he => ?_⟩
    · obtain ⟨k, h1, rfl⟩ := trAt_get glL hc
      obtain ⟨h2, h3⟩ := hall k l h1
      obtain ⟨cs, e, h4, h5⟩ := hrows k l h1
      refine ⟨_, _, e, phi_at o h2, h4, .cells h3.symm ?_ (fun i v hv => ?_) (fun i _ => by simp) (fun t h => ⟨rfl, rfl, Nat.succ.inj h⟩)⟩
      · have := h5.length
        simp only [Array.length_toList] at this
        show 0 + lens.getD k 0 + 0 * 0 ≤ cs.size
        rw [h3]; omega
      · obtain ⟨x, hx, hr⟩ := h5.get hv
        exact ⟨x, by simpa using hx, hr⟩
    · obtain ⟨k, h1, rfl⟩ := trAt_get glL hc
      obtain ⟨k', h1', rfl⟩ := trAt_get glL hc'
      rw [phi_at o (hall k l h1).1] at hp
      rw [phi_at o (hall k' l' h1').1] at hp'
      cases hp; cases hp'
      simp only at he
      rw [he]
  have hs := law_isS2
  cases hr : callR E5 (run E5 100000000) .normal 9 [.int .i64 (.ofNat 2)] ⟨.e, nx0⟩ with
  | no => rw [hr] at hs; cases hs
  | ok v H' =>
    rw [hr] at hs
    refine (calls_gen e5_ok hr (A := #[.int .i64 2]) (.cons (.int .i64 2) .nil) hH hG (callFunc_enter (c := (Tryz.f9.body.getD default)) Tryz.func9 (by decide) (by rfl))).mono ?_
    rintro e W' ⟨x, rfl, φ', hx, hHR, hk⟩
    obtain ⟨g, c, bs, rfl, hb⟩ := snaps_of hHR hs hx
    exact ⟨g, c, bs, rfl, hb, hk.os, hk.tape, hk.out, hk.size, fun i hi => hk.old i hi fun c B p hb => (hE0 c B hb).elim⟩
theorem snaps_calls3 {W : World} (o : Nat → Int) (hrows : ∀ g l, (g, l) ∈ glL → ∃ c e, W.heap[g]? = some (.cells c e (0, 0)) ∧ VRL (phi o) l c.toList) :
    Calls Tryz.prog 9 #[.int .i64 3] W fun e W' => ∃ (g c : Nat) (bs : Nat → Nat), e = .returned (.slice (some ⟨g, 0, none⟩) 3 c) ∧ (∀ j, j < 3 → W'.cell? ⟨g, j, none⟩ = some (.pointer (some ⟨bs j, 0, none⟩)) ∧ ∃ a, W'.cell? ⟨bs j, 0, none⟩ = some (.pointer (some a))) ∧ RowKit.Below W.heap.size W W' := by
  have hE0 : ∀ c (B : Blk), Tr.get c (⟨.e, nx0⟩ : Hp).t = some B → False := by
    intro c B hb; rw [show Tr.get c (⟨.e, nx0⟩ : Hp).t = none from Tr.get_e c] at hb; cases hb
  have hall : ∀ g l, (g, l) ∈ glL → g < 16 ∧ lens.getD g 0 = l.length := by
    intro g l h
    have := List.all_eq_true.1 lens_ok _ h
    simp only [Bool.and_eq_true, decide_eq_true_eq] at this
    exact ⟨this.1, Nat.eq_of_beq_eq_true this.2⟩
  have hH : HR E5.ng (phi o) ⟨.e, nx0⟩ W := by
    refine ⟨fun c B hb => (hE0 c B hb).elim, fun c c' B B' p p' hb => (hE0 c B hb).elim, fun c hc => ?_, fun g hg => ⟨_, phi_at o hg, rfl, rfl⟩⟩
    have hc : nx0.val ≤ c.val := hc
    rw [nx0, posOf_val] at hc
    unfold phi
    simp only
    rw [if_neg (by omega)]
  have hG : GL E5 (phi o) ⟨.e, nx0⟩ W := by
    refine ⟨fun c l hc => ?_, fun c l p b' B' p' _ _ hb' => (hE0 b' B' hb').elim, fun c l c' l' p p' hc hc' hp hp' he => ?_⟩
    · obtain ⟨k, h1, rfl⟩ := trAt_get glL hc
      obtain ⟨h2, h3⟩ := hall k l h1
      obtain ⟨cs, e, h4, h5⟩ := hrows k l h1
      refine ⟨_, _, e, phi_at o h2, h4, .cells h3.symm ?_ (fun i v hv => ?_) (fun i _ => by simp) (fun t h => ⟨rfl, rfl, Nat.succ.inj h⟩)⟩
      · have := h5.length
        simp only [Array.length_toList] at this
        show 0 + lens.getD k 0 + 0 * 0 ≤ cs.size
        rw [h3]; omega
      · obtain ⟨x, hx, hr⟩ := h5.get hv
        exact ⟨x, by simpa using hx, hr⟩
    · obtain ⟨k, h1, rfl⟩ := trAt_get glL hc
      obtain ⟨k', h1', rfl⟩ := trAt_get glL hc'
      rw [phi_at o (hall k l h1).1] at hp
      rw [phi_at o (hall k' l' h1').1] at hp'
      cases hp; cases hp'
      simp only at he
      rw [he]
  have hs := law_isS3
  cases hr : callR E5 (run E5 100000000) .normal 9 [.int .i64 (.ofNat 3)] ⟨.e, nx0⟩ with
  | no => rw [hr] at hs; cases hs
  | ok v H' =>
    rw [hr] at hs
    refine (calls_gen e5_ok hr (A := #[.int .i64 3]) (.cons (.int .i64 3) .nil) hH hG (callFunc_enter (c := (Tryz.f9.body.getD default)) Tryz.func9 (by decide) (by rfl))).mono ?_
    rintro e W' ⟨x, rfl, φ', hx, hHR, hk⟩
    obtain ⟨g, c, bs, rfl, hb⟩ := snaps_of hHR hs hx
    exact ⟨g, c, bs, rfl, hb, hk.os, hk.tape, hk.out, hk.size, fun i hi => hk.old i hi fun c B p hb => (hE0 c B hb).elim⟩
theorem snaps_calls4 {W : World} (o : Nat → Int) (hrows : ∀ g l, (g, l) ∈ glL → ∃ c e, W.heap[g]? = some (.cells c e (0, 0)) ∧ VRL (phi o) l c.toList) :
    Calls Tryz.prog 9 #[.int .i64 4] W fun e W' => ∃ (g c : Nat) (bs : Nat → Nat), e = .returned (.slice (some ⟨g, 0, none⟩) 4 c) ∧ (∀ j, j < 4 → W'.cell? ⟨g, j, none⟩ = some (.pointer (some ⟨bs j, 0, none⟩)) ∧ ∃ a, W'.cell? ⟨bs j, 0, none⟩ = some (.pointer (some a))) ∧ RowKit.Below W.heap.size W W' := by
  have hE0 : ∀ c (B : Blk), Tr.get c (⟨.e, nx0⟩ : Hp).t = some B → False := by
    intro c B hb; rw [show Tr.get c (⟨.e, nx0⟩ : Hp).t = none from Tr.get_e c] at hb; cases hb
  have hall : ∀ g l, (g, l) ∈ glL → g < 16 ∧ lens.getD g 0 = l.length := by
    intro g l h
    have := List.all_eq_true.1 lens_ok _ h
    simp only [Bool.and_eq_true, decide_eq_true_eq] at this
    exact ⟨this.1, Nat.eq_of_beq_eq_true this.2⟩
  have hH : HR E5.ng (phi o) ⟨.e, nx0⟩ W := by
    refine ⟨fun c B hb => (hE0 c B hb).elim, fun c c' B B' p p' hb => (hE0 c B hb).elim, fun c hc => ?_, fun g hg => ⟨_, phi_at o hg, rfl, rfl⟩⟩
    have hc : nx0.val ≤ c.val := hc
    rw [nx0, posOf_val] at hc
    unfold phi
    simp only
    rw [if_neg (by omega)]
  have hG : GL E5 (phi o) ⟨.e, nx0⟩ W := by
    refine ⟨fun c l hc => ?_, fun c l p b' B' p' _ _ hb' => (hE0 b' B' hb').elim, fun c l c' l' p p' hc hc' hp hp' he => ?_⟩
    · obtain ⟨k, h1, rfl⟩ := trAt_get glL hc
      obtain ⟨h2, h3⟩ := hall k l h1
      obtain ⟨cs, e, h4, h5⟩ := hrows k l h1
      refine ⟨_, _, e, phi_at o h2, h4, .cells h3.symm ?_ (fun i v hv => ?_) (fun i _ => by simp) (fun t h => ⟨rfl, rfl, Nat.succ.inj h⟩)⟩
      · have := h5.length
        simp only [Array.length_toList] at this
        show 0 + lens.getD k 0 + 0 * 0 ≤ cs.size
        rw [h3]; omega
      · obtain ⟨x, hx, hr⟩ := h5.get hv
        exact ⟨x, by simpa using hx, hr⟩
    · obtain ⟨k, h1, rfl⟩ := trAt_get glL hc
      obtain ⟨k', h1', rfl⟩ := trAt_get glL hc'
      rw [phi_at o (hall k l h1).1] at hp
      rw [phi_at o (hall k' l' h1').1] at hp'
      cases hp; cases hp'
      simp only at he
      rw [he]
  have hs := law_isS4
  cases hr : callR E5 (run E5 100000000) .normal 9 [.int .i64 (.ofNat 4)] ⟨.e, nx0⟩ with
  | no => rw [hr] at hs; cases hs
  | ok v H' =>
    rw [hr] at hs
    refine (calls_gen e5_ok hr (A := #[.int .i64 4]) (.cons (.int .i64 4) .nil) hH hG (callFunc_enter (c := (Tryz.f9.body.getD default)) Tryz.func9 (by decide) (by rfl))).mono ?_
    rintro e W' ⟨x, rfl, φ', hx, hHR, hk⟩
    obtain ⟨g, c, bs, rfl, hb⟩ := snaps_of hHR hs hx
    exact ⟨g, c, bs, rfl, hb, hk.os, hk.tape, hk.out, hk.size, fun i hi => hk.old i hi fun c B p hb => (hE0 c B hb).elim⟩
theorem snaps_calls6 {W : World} (o : Nat → Int) (hrows : ∀ g l, (g, l) ∈ glL → ∃ c e, W.heap[g]? = some (.cells c e (0, 0)) ∧ VRL (phi o) l c.toList) :
    Calls Tryz.prog 9 #[.int .i64 6] W fun e W' => ∃ (g c : Nat) (bs : Nat → Nat), e = .returned (.slice (some ⟨g, 0, none⟩) 6 c) ∧ (∀ j, j < 6 → W'.cell? ⟨g, j, none⟩ = some (.pointer (some ⟨bs j, 0, none⟩)) ∧ ∃ a, W'.cell? ⟨bs j, 0, none⟩ = some (.pointer (some a))) ∧ RowKit.Below W.heap.size W W' := by
  have hE0 : ∀ c (B : Blk), Tr.get c (⟨.e, nx0⟩ : Hp).t = some B → False := by
    intro c B hb; rw [show Tr.get c (⟨.e, nx0⟩ : Hp).t = none from Tr.get_e c] at hb; cases hb
  have hall : ∀ g l, (g, l) ∈ glL → g < 16 ∧ lens.getD g 0 = l.length := by
    intro g l h
    have := List.all_eq_true.1 lens_ok _ h
    simp only [Bool.and_eq_true, decide_eq_true_eq] at this
    exact ⟨this.1, Nat.eq_of_beq_eq_true this.2⟩
  have hH : HR E5.ng (phi o) ⟨.e, nx0⟩ W := by
    refine ⟨fun c B hb => (hE0 c B hb).elim, fun c c' B B' p p' hb => (hE0 c B hb).elim, fun c hc => ?_, fun g hg => ⟨_, phi_at o hg, rfl, rfl⟩⟩
    have hc : nx0.val ≤ c.val := hc
    rw [nx0, posOf_val] at hc
    unfold phi
    simp only
    rw [if_neg (by omega)]
  have hG : GL E5 (phi o) ⟨.e, nx0⟩ W := by
    refine ⟨fun c l hc => ?_, fun c l p b' B' p' _ _ hb' => (hE0 b' B' hb').elim, fun c l c' l' p p' hc hc' hp hp' he => ?_⟩
    · obtain ⟨k, h1, rfl⟩ := trAt_get glL hc
      obtain ⟨h2, h3⟩ := hall k l h1
      obtain ⟨cs, e, h4, h5⟩ := hrows k l h1
      refine ⟨_, _, e, phi_at o h2, h4, .cells h3.symm ?_ (fun i v hv => ?_) (fun i _ => by simp) (fun t h => ⟨rfl, rfl, Nat.succ.inj h⟩)⟩
      · have := h5.length
        simp only [Array.length_toList] at this
        show 0 + lens.getD k 0 + 0 * 0 ≤ cs.size
        rw [h3]; omega
      · obtain ⟨x, hx, hr⟩ := h5.get hv
        exact ⟨x, by simpa using hx, hr⟩
    · obtain ⟨k, h1, rfl⟩ := trAt_get glL hc
      obtain ⟨k', h1', rfl⟩ := trAt_get glL hc'
      rw [phi_at o (hall k l h1).1] at hp
      rw [phi_at o (hall k' l' h1').1] at hp'
      cases hp; cases hp'
      simp only at he
      rw [he]
  have hs := law_isS6
  cases hr : callR E5 (run E5 100000000) .normal 9 [.int .i64 (.ofNat 6)] ⟨.e, nx0⟩ with
  | no => rw [hr] at hs; cases hs
  | ok v H' =>
    rw [hr] at hs
    refine (calls_gen e5_ok hr (A := #[.int .i64 6]) (.cons (.int .i64 6) .nil) hH hG (callFunc_enter (c := (Tryz.f9.body.getD default)) Tryz.func9 (by decide) (by rfl))).mono ?_
    rintro e W' ⟨x, rfl, φ', hx, hHR, hk⟩
    obtain ⟨g, c, bs, rfl, hb⟩ := snaps_of hHR hs hx
    exact ⟨g, c, bs, rfl, hb, hk.os, hk.tape, hk.out, hk.size, fun i hi => hk.old i hi fun c B p hb => (hE0 c B hb).elim⟩
end Go.Ev
