/- What a run that makes a slice of snapshots leaves in the world: their blocks are whole and nothing in them is frozen. -/
import Derived.Test.YtlgngfiiaoodjaaGreatDoorEvDraws
namespace Go.Ev
open Go
theorem snap_firm {ng : Nat} {φ : Phi} {H : Hp} {w : World} (hH : HR ng φ H w) {v : AV} {x : Value} (h : snapR H v = true) (hx : VR φ v x) : ∃ b : Nat, x = .pointer (some ⟨b, 0, none⟩) ∧ (∃ a, w.cell? ⟨b, 0, none⟩ = some (.pointer (some a))) ∧ ∃ c t, w.heap[b]? = some (.cells c t (0, 0)) := by
  unfold snapR at h
  split at h
  · next b o =>
    simp only [Bool.and_eq_true] at h
    obtain ⟨ho, h⟩ := h
    have ho := Nat.eq_of_beq_eq_true ho
    subst ho
    split at h
    · next pl l hb =>
      simp only [Bool.and_eq_true] at h
      obtain ⟨hpl, h⟩ := h
      have hpl := Nat.le_of_ble_eq_true hpl
      split at h
      · next b' o' t =>
        obtain ⟨p, ob, hp, hob, hB⟩ := hH.blk b _ hb
        obtain ⟨t', rfl⟩ : ∃ t', pl = t' + 1 := ⟨pl - 1, by omega⟩
        cases hB with
        | cells hl hc hg hf hpp =>
          obtain ⟨rfl, hoff, rfl⟩ := hpp _ rfl
          cases hx with
          | ptr _ hφ =>
            rw [hp] at hφ
            cases hφ
            obtain ⟨y, hy, hyr⟩ := hg 0 _ rfl
            refine ⟨p.blk, by simp [hoff], ?_, _, _, hob⟩
            cases hyr with
            | @ptr _ q _ hq =>
              rw [hoff] at hy
              refine ⟨⟨q.blk, q.off + o', none⟩, ?_⟩
              simp only [World.cell?, hob]
              simpa using hy
      · cases h
    · cases h
  · cases h
theorem snaps_firm {ng : Nat} {φ : Phi} {H : Hp} {w : World} (hH : HR ng φ H w) {n : Nat} {v : AV} {x : Value} (h : snapsR n (.ok v H) = true) (hx : VR φ v x) :
    ∃ (g c : Nat) (bs : Nat → Nat), x = .slice (some ⟨g, 0, none⟩) n c ∧ (∀ j, j < n → w.cell? ⟨g, j, none⟩ = some (.pointer (some ⟨bs j, 0, none⟩)) ∧ ∃ a, w.cell? ⟨bs j, 0, none⟩ = some (.pointer (some a))) ∧ ∀ j, j < n → ∃ c t, w.heap[bs j]? = some (.cells c t (0, 0)) := by
  unfold snapsR at h
  simp only at h
  split at h
  · next b o l c op =>
    simp only [Bool.and_eq_true] at h
    obtain ⟨⟨ho, hl⟩, h⟩ := h
    have ho := Nat.eq_of_beq_eq_true ho
    have hl := Nat.eq_of_beq_eq_true hl
    subst ho
    subst hl
    split at h
    · next pl cs hb =>
      simp only [Bool.and_eq_true] at h
      obtain ⟨⟨hpl, hlen⟩, hall⟩ := h
      have hpl := Nat.le_of_ble_eq_true hpl
      have hlen := Nat.eq_of_beq_eq_true hlen
      obtain ⟨p, ob, hp, hob, hB⟩ := hH.blk b _ hb
      obtain ⟨t', rfl⟩ : ∃ t', pl = t' + 1 := ⟨pl - 1, by omega⟩
      cases hB with
      | cells hl' hc hg hf hpp =>
        obtain ⟨rfl, hoff, rfl⟩ := hpp _ rfl
        have hsl : ∃ c', x = .slice (some ⟨p.blk, 0, none⟩) l c' := by
          cases hx with
          | sliceC _ _ _ hφ => rw [hp] at hφ; cases hφ; exact ⟨c, by rw [hoff]⟩
          | sliceO _ _ _ _ hφ => rw [hp] at hφ; cases hφ; exact ⟨c + p.ext, by rw [hoff]⟩
        obtain ⟨c', rfl⟩ := hsl
        have key : ∀ j, j < l → ∃ b : Nat, w.cell? ⟨p.blk, j, none⟩ = some (.pointer (some ⟨b, 0, none⟩)) ∧ (∃ a, w.cell? ⟨b, 0, none⟩ = some (.pointer (some a))) ∧ ∃ c t, w.heap[b]? = some (.cells c t (0, 0)) := fun j hj => by
          have hjl : j < cs.length := by omega
          obtain ⟨y, hy, hyr⟩ := hg j cs[j] (List.getElem?_eq_getElem hjl)
          have h1 := List.all_eq_true.1 hall cs[j] (List.getElem_mem hjl)
          obtain ⟨b', rfl, ha⟩ := snap_firm hH h1 hyr
          refine ⟨b', ?_, ha⟩
          rw [hoff] at hy
          simp only [World.cell?, hob]
          simpa using hy
        refine ⟨p.blk, c', fun j => if hj : j < l then (key j hj).choose else 0, rfl, fun j hj => ?_, fun j hj => ?_⟩
        · simp only [hj, dif_pos]
          exact ⟨(key j hj).choose_spec.1, (key j hj).choose_spec.2.1⟩
        · simp only [hj, dif_pos]
          exact (key j hj).choose_spec.2.2
    · cases h
  · cases h
end Go.Ev
