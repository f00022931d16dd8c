/- What StoreRefuses asks of its numbers: every answer is the same for all of them. -/
import Derived.Test.YtacbdljjlcbdlaaGreatDoorEvRelate
namespace Go.Ev
section
variable {o : Nat → Int} {a b : Tm} {x y : Int}
theorem den_add (ha : a.den o = x) (hb : b.den o = y) (h : -9223372036854775808 ≤ x + y ∧ x + y < 9223372036854775808) : (Tm.bin .add .i64 a b).den o = x + y := by
  have : (Tm.bin .add .i64 a b).den o = wr .i64 (addI (a.den o) (b.den o)) := rfl
  rw [this, ha, hb, addI_eq, wr_eq, IntKind.wrap_i64]; omega
theorem den_sub (ha : a.den o = x) (hb : b.den o = y) (h : -9223372036854775808 ≤ x - y ∧ x - y < 9223372036854775808) : (Tm.bin .sub .i64 a b).den o = x - y := by
  have : (Tm.bin .sub .i64 a b).den o = wr .i64 (subI (a.den o) (b.den o)) := rfl
  rw [this, ha, hb, subI_eq, wr_eq, IntKind.wrap_i64]; omega
theorem den_mul (ha : a.den o = x) (hb : b.den o = y) (h : -9223372036854775808 ≤ x * y ∧ x * y < 9223372036854775808) : (Tm.bin .mul .i64 a b).den o = x * y := by
  have : (Tm.bin .mul .i64 a b).den o = wr .i64 (Int.mul (a.den o) (b.den o)) := rfl
  rw [this, ha, hb, wr_eq, IntKind.wrap_i64]
  show _ = x * y
  have e : Int.mul x y = x * y := rfl
  rw [e]; omega
theorem den_rem {k : IntKind} (ha : a.den o = x) (hb : b.den o = y) (h : y ≠ 0) : (Tm.bin .rem k a b).den o = Int.tmod x y := by
  have : (Tm.bin .rem k a b).den o = (match (match ieq (b.den o) 0 with | true => none | false => some (AV.int k (Int.tmod (a.den o) (b.den o)))) with | some (.int _ n) => n | _ => 0) := rfl
  rw [this, ha, hb, ieq_eq, decide_eq_false h]
theorem den_conv (ha : a.den o = x) (h : -9223372036854775808 ≤ x ∧ x < 9223372036854775808) : (Tm.conv .i64 a).den o = x := by
  have : (Tm.conv .i64 a).den o = wr .i64 (a.den o) := rfl
  rw [this, ha, wr_eq, IntKind.wrap_i64]; omega
end
theorem refuses_conds {o : Nat → Int} (h0 : 0 ≤ o 0 ∧ o 0 < 256) (h1 : 0 ≤ o 1 ∧ o 1 < 65536) (h2 : 0 ≤ o 2 ∧ o 2 < 65536) : DOk o [
  (.eq (.bin .add .i64 (.c (.ofNat 2)) (.conv .i64 (.bin .rem .u8 (.v 0) (.c (.ofNat 20))))) (.c (.ofNat 0)) false),
  (.eq (.bin .rem .i64 (.bin .add .i64 (.bin .add .i64 (.bin .mul .i64 (.conv .i64 (.v 2)) (.bin .add .i64 (.c (.ofNat 2)) (.conv .i64 (.bin .rem .u8 (.v 0) (.c (.ofNat 20)))))) (.c (.ofNat 1))) (.bin .rem .i64 (.conv .i64 (.v 1)) (.bin .sub .i64 (.bin .add .i64 (.c (.ofNat 2)) (.conv .i64 (.bin .rem .u8 (.v 0) (.c (.ofNat 20))))) (.c (.ofNat 1))))) (.bin .add .i64 (.c (.ofNat 2)) (.conv .i64 (.bin .rem .u8 (.v 0) (.c (.ofNat 20)))))) (.c (.ofNat 0)) false),
  (.eq (.bin .sub .i64 (.bin .add .i64 (.c (.ofNat 2)) (.conv .i64 (.bin .rem .u8 (.v 0) (.c (.ofNat 20))))) (.c (.ofNat 1))) (.c (.ofNat 0)) false),
  (.eq (.c (.ofNat 20)) (.c (.ofNat 0)) false),
  (.lt (.bin .add .i64 (.bin .add .i64 (.bin .mul .i64 (.conv .i64 (.v 2)) (.bin .add .i64 (.c (.ofNat 2)) (.conv .i64 (.bin .rem .u8 (.v 0) (.c (.ofNat 20)))))) (.c (.ofNat 1))) (.bin .rem .i64 (.conv .i64 (.v 1)) (.bin .sub .i64 (.bin .add .i64 (.c (.ofNat 2)) (.conv .i64 (.bin .rem .u8 (.v 0) (.c (.ofNat 20))))) (.c (.ofNat 1))))) (.c (.ofNat 0)) false),
  (.lt (.bin .add .i64 (.c (.ofNat 10001)) (.conv .i64 (.v 1))) (.c (.ofNat 1)) false),
  (.lt (.bin .add .i64 (.c (.ofNat 101)) (.conv .i64 (.v 1))) (.c (.ofNat 1)) false),
  (.lt (.bin .add .i64 (.c (.ofNat 2)) (.conv .i64 (.bin .rem .u8 (.v 0) (.c (.ofNat 20))))) (.c (.ofNat 1)) false),
  (.lt (.bin .sub .i64 (.c (.negSucc 0)) (.conv .i64 (.v 1))) (.c (.ofNat 0)) true),
  (.lt (.bin .sub .i64 (.c (.ofNat 0)) (.conv .i64 (.v 1))) (.c (.ofNat 1)) true),
  (.lt (.c (.ofNat 100)) (.bin .add .i64 (.c (.ofNat 101)) (.conv .i64 (.v 1))) true),
  (.lt (.c (.ofNat 10000)) (.bin .add .i64 (.c (.ofNat 10001)) (.conv .i64 (.v 1))) true),
  (.lt (.c (.ofNat 10000)) (.bin .add .i64 (.c (.ofNat 2)) (.conv .i64 (.bin .rem .u8 (.v 0) (.c (.ofNat 20))))) false)] := by
  have cc : ∀ n : Int, (Tm.c n).den o = n := fun n => rfl
  have k0 : (Tm.c (.ofNat 0)).den o = 0 := rfl
  have k1 : (Tm.c (.ofNat 1)).den o = 1 := rfl
  have k2 : (Tm.c (.ofNat 2)).den o = 2 := rfl
  have k101 : (Tm.c (.ofNat 101)).den o = 101 := rfl
  have k10001 : (Tm.c (.ofNat 10001)).den o = 10001 := rfl
  have km : (Tm.c (.negSucc 0)).den o = -1 := rfl
  obtain ⟨r, hr, hr0, hr1⟩ : ∃ r : Int, Int.tmod (o 0) 20 = r ∧ 0 ≤ r ∧ r < 20 := by
    refine ⟨_, rfl, ?_, ?_⟩
    · rw [Int.tmod_eq_emod_of_nonneg h0.1]; omega
    · rw [Int.tmod_eq_emod_of_nonneg h0.1]; omega
  have er : (Tm.bin .rem .u8 (.v 0) (.c (.ofNat 20))).den o = r := by
    rw [den_rem (x := o 0) (y := 20) rfl rfl (by decide)]; exact hr
  have ed : (Tm.bin .add .i64 (.c (.ofNat 2)) (.conv .i64 (.bin .rem .u8 (.v 0) (.c (.ofNat 20))))).den o = 2 + r :=
    den_add k2 (den_conv er (by omega)) (by omega)
  have ed1 : (Tm.bin .sub .i64 (.bin .add .i64 (.c (.ofNat 2)) (.conv .i64 (.bin .rem .u8 (.v 0) (.c (.ofNat 20))))) (.c (.ofNat 1))).den o = 1 + r := by
    rw [den_sub ed k1 (by omega)]; omega
  have e1 : (Tm.conv .i64 (.v 1)).den o = o 1 := den_conv rfl (by omega)
  have e2 : (Tm.conv .i64 (.v 2)).den o = o 2 := den_conv rfl (by omega)
  obtain ⟨m, hm, hm0, hm1⟩ : ∃ m : Int, Int.tmod (o 1) (1 + r) = m ∧ 0 ≤ m ∧ m < 1 + r := by
    refine ⟨_, rfl, ?_, ?_⟩
    · rw [Int.tmod_eq_emod_of_nonneg h1.1]; exact Int.emod_nonneg _ (by omega)
    · rw [Int.tmod_eq_emod_of_nonneg h1.1]; exact Int.emod_lt_of_pos _ (by omega)
  have em : (Tm.bin .rem .i64 (.conv .i64 (.v 1)) (.bin .sub .i64 (.bin .add .i64 (.c (.ofNat 2)) (.conv .i64 (.bin .rem .u8 (.v 0) (.c (.ofNat 20))))) (.c (.ofNat 1)))).den o = m := by
    rw [den_rem e1 ed1 (by omega)]; exact hm
  have hp0 : 0 ≤ o 2 * (2 + r) := Int.mul_nonneg h2.1 (by omega)
  have hp1 : o 2 * (2 + r) ≤ 65536 * 22 := Int.mul_le_mul (by omega) (by omega) (by omega) (by omega)
  have ep : (Tm.bin .mul .i64 (.conv .i64 (.v 2)) (.bin .add .i64 (.c (.ofNat 2)) (.conv .i64 (.bin .rem .u8 (.v 0) (.c (.ofNat 20)))))).den o = o 2 * (2 + r) :=
    den_mul e2 ed (by omega)
  have es : (Tm.bin .add .i64 (.bin .add .i64 (.bin .mul .i64 (.conv .i64 (.v 2)) (.bin .add .i64 (.c (.ofNat 2)) (.conv .i64 (.bin .rem .u8 (.v 0) (.c (.ofNat 20)))))) (.c (.ofNat 1))) (.bin .rem .i64 (.conv .i64 (.v 1)) (.bin .sub .i64 (.bin .add .i64 (.c (.ofNat 2)) (.conv .i64 (.bin .rem .u8 (.v 0) (.c (.ofNat 20))))) (.c (.ofNat 1))))).den o = o 2 * (2 + r) + 1 + m :=
    den_add (den_add ep k1 (by omega)) em (by omega)
  have hne : Int.tmod (o 2 * (2 + r) + 1 + m) (2 + r) ≠ 0 := by
    rw [Int.tmod_eq_emod_of_nonneg (by omega), show o 2 * (2 + r) + 1 + m = (1 + m) + (2 + r) * o 2 by rw [Int.mul_comm (2 + r)]; omega, Int.add_mul_emod_self_left, Int.emod_eq_of_lt (by omega) (by omega)]
    omega
  intro c hc
  simp only [List.mem_cons, List.not_mem_nil, or_false] at hc
  rcases hc with rfl | rfl | rfl | rfl | rfl | rfl | rfl | rfl | rfl | rfl | rfl | rfl | rfl
  · refine decide_eq_false ?_
    rw [ed, cc]; exact fun h => absurd h (by show ¬ 2 + r = (0 : Int); omega)
  · refine decide_eq_false ?_
    rw [den_rem es ed (by omega), cc]; exact hne
  · refine decide_eq_false ?_
    rw [ed1, cc]; show ¬ 1 + r = (0 : Int); omega
  · exact decide_eq_false (by rw [cc, cc]; decide)
  · refine decide_eq_false ?_
    rw [es, cc]; show ¬ (o 2 * (2 + r) + 1 + m < (0 : Int)); omega
  · refine decide_eq_false ?_
    rw [den_add k10001 e1 (by omega), cc]; show ¬ ((10001 : Int) + o 1 < 1); omega
  · refine decide_eq_false ?_
    rw [den_add k101 e1 (by omega), cc]; show ¬ ((101 : Int) + o 1 < 1); omega
  · refine decide_eq_false ?_
    rw [ed, cc]; show ¬ (2 + r < (1 : Int)); omega
  · refine decide_eq_true ?_
    rw [den_sub km e1 (by omega), cc]; show (-1 : Int) - o 1 < 0; omega
  · refine decide_eq_true ?_
    rw [den_sub k0 e1 (by omega), cc]; show (0 : Int) - o 1 < 1; omega
  · refine decide_eq_true ?_
    rw [den_add k101 e1 (by omega), cc]; show (100 : Int) < 101 + o 1; omega
  · refine decide_eq_true ?_
    rw [den_add k10001 e1 (by omega), cc]; show (10000 : Int) < 10001 + o 1; omega
  · refine decide_eq_false ?_
    rw [ed, cc]; show ¬ ((10000 : Int) < 2 + r); omega
end Go.Ev
