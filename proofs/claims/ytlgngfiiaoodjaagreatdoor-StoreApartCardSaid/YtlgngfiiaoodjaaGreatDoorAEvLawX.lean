/- Snapshots made by the program: their blocks are whole. -/
import Derived.Test.YtlgngfiiaoodjaaGreatDoorEvLaw
import Derived.Test.YtlgngfiiaoodjaaGreatDoorEvSnap2
namespace Go.Ev
open Go.Proofs
set_option maxRecDepth 100000
theorem snaps_firm4 {W : World} (o : Nat → Int) (hrows : ∀ g l, (g, l) ∈ glL → ∃ c e, W.heap[g]? = some (.cells c e (0, 0)) ∧ VRL (phi o) l c.toList) :
    Calls Tryz.prog 9 #[.int .i64 4] W fun e W' => ∃ (g c : Nat) (bs : Nat → Nat), e = .returned (.slice (some ⟨g, 0, none⟩) 4 c) ∧ (∀ j, j < 4 → W'.cell? ⟨g, j, none⟩ = some (.pointer (some ⟨bs j, 0, none⟩)) ∧ ∃ a, W'.cell? ⟨bs j, 0, none⟩ = some (.pointer (some a))) ∧ (∀ j, j < 4 → ∃ c t, W'.heap[bs j]? = some (.cells c t (0, 0))) ∧ RowKit.Below W.heap.size W W' := by
  have hE0 : ∀ c (B : Blk), Tr.get c (⟨.e, nx0⟩ : Hp).t = some B → False := by
    intro c B hb; rw [show Tr.get c (⟨.e, nx0⟩ : Hp).t = none from Tr.get_e c] at hb; cases hb
  have hall : ∀ g l, (g, l) ∈ glL → g < 16 ∧ lens.getD g 0 = l.length := by
    intro g l h
    have := List.all_eq_true.1 lens_ok _ h
    simp only [Bool.and_eq_true, decide_eq_true_eq] at this
    exact ⟨this.1, Nat.eq_of_beq_eq_true this.2⟩
  have hH : HR E5.ng (phi o) ⟨.e, nx0⟩ W := by
    refine ⟨fun c B hb => (hE0 c B hb).elim, fun c c' B B' p p' hb => (hE0 c B hb).elim, fun c hc => ?_, fun g hg => ⟨_, phi_at o hg, rfl, rfl⟩⟩
    have hc : nx0.val ≤ c.val := hc
    rw [nx0, posOf_val] at hc
    unfold phi
    simp only
    rw [if_neg (by omega)]
  have hG : GL E5 (phi o) ⟨.e, nx0⟩ W := by
    refine ⟨fun c l hc => ?_, fun c l p b' B' p' _ _ hb' => (hE0 b' B' hb').elim, fun c l c' l' p p' hc hc' hp hp' he => ?_⟩
    · obtain ⟨k, h1, rfl⟩ := trAt_get glL hc
      obtain ⟨h2, h3⟩ := hall k l h1
      obtain ⟨cs, e, h4, h5⟩ := hrows k l h1
      refine ⟨_, _, e, phi_at o h2, h4, .cells h3.symm ?_ (fun i v hv => ?_) (fun i _ => by simp) (fun t h => ⟨rfl, rfl, Nat.succ.inj h⟩)⟩
      · have := h5.length
        simp only [Array.length_toList] at this
        show 0 + lens.getD k 0 + 0 * 0 ≤ cs.size
        rw [h3]; omega
      · obtain ⟨x, hx, hr⟩ := h5.get hv
        exact ⟨x, by simpa using hx, hr⟩
    · obtain ⟨k, h1, rfl⟩ := trAt_get glL hc
      obtain ⟨k', h1', rfl⟩ := trAt_get glL hc'
      rw [phi_at o (hall k l h1).1] at hp
      rw [phi_at o (hall k' l' h1').1] at hp'
      cases hp; cases hp'
      simp only at he
      rw [he]
  have hs := law_isS4
  cases hr : callR E5 (run E5 100000000) .normal 9 [.int .i64 (.ofNat 4)] ⟨.e, nx0⟩ with
  | no => rw [hr] at hs; cases hs
  | ok v H' =>
    rw [hr] at hs
    refine (calls_gen e5_ok hr (A := #[.int .i64 4]) (.cons (.int .i64 4) .nil) hH hG (callFunc_enter (c := (Tryz.f9.body.getD default)) Tryz.func9 (by decide) (by rfl))).mono ?_
    rintro e W' ⟨x, rfl, φ', hx, hHR, hk⟩
    obtain ⟨g, c, bs, rfl, hb, hf⟩ := snaps_firm hHR hs hx
    exact ⟨g, c, bs, rfl, hb, hf, hk.os, hk.tape, hk.out, hk.size, fun i hi => hk.old i hi fun c B p hb => (hE0 c B hb).elim⟩
end Go.Ev
