/- The tables are right: what the evaluator takes of the program is the program's. -/
import Derived.Test.YtlgngfiiaoodjaaGreatDoorEvTab
import Derived.Test.YtlgngfiiaoodjaaGreatDoorEvMemos
import Derived.Test.YtlgngfiiaoodjaaGreatDoorEvK0
import Derived.Test.YtlgngfiiaoodjaaGreatDoorEvK1
import Derived.Test.YtlgngfiiaoodjaaGreatDoorEvK2
import Derived.Test.YtlgngfiiaoodjaaGreatDoorEvK3
import Derived.Test.YtlgngfiiaoodjaaGreatDoorEvCtrAt
set_option linter.unusedVariables false
set_option linter.unusedSimpArgs false
namespace Go.Ev
open Go.Proofs
set_option maxRecDepth 100000
theorem x147_ok (E : Env) : ExtOk Tryz.prog E 147 (.count) := ext_ok Tryz.func147 (by kernel_rfl) (by kernel_rfl) (by kernel_rfl) (show Extern.find Tryz.f147 = some (Extern.BytealgCount.count) by kernel_rfl)
theorem x204_ok (E : Env) : ExtOk Tryz.prog E 204 (.add .i64) := ext_ok Tryz.func204 (by kernel_rfl) (by kernel_rfl) (by kernel_rfl) (show Extern.find Tryz.f204 = some (Extern.Atomic.update (Op.intArith .add) .i64 true) by kernel_rfl)
theorem x264_ok (E : Env) : ExtOk Tryz.prog E 264 (.store) := ext_ok Tryz.func264 (by kernel_rfl) (by kernel_rfl) (by kernel_rfl) (show Extern.find Tryz.f264 = some (Extern.Atomic.storeT) by kernel_rfl)
theorem x282_ok (E : Env) : ExtOk Tryz.prog E 282 (.idxByte) := ext_ok Tryz.func282 (by kernel_rfl) (by kernel_rfl) (by kernel_rfl) (show Extern.find Tryz.f282 = some (Extern.BytealgIndexByte.indexByte) by kernel_rfl)
theorem x317_ok (E : Env) : ExtOk Tryz.prog E 317 (.load .u32) := ext_ok Tryz.func317 (by kernel_rfl) (by kernel_rfl) (by kernel_rfl) (show Extern.find Tryz.f317 = some (Extern.Atomic.loadT (.int .u32)) by kernel_rfl)
theorem x366_ok (E : Env) : ExtOk Tryz.prog E 366 (.store) := ext_ok Tryz.func366 (by kernel_rfl) (by kernel_rfl) (by kernel_rfl) (show Extern.find Tryz.f366 = some (Extern.Atomic.storeT) by kernel_rfl)
theorem x399_ok (E : Env) : ExtOk Tryz.prog E 399 (.nop0) := ext_ok Tryz.func399 (by kernel_rfl) (by kernel_rfl) (by kernel_rfl) ⟨.disable, by kernel_rfl⟩
theorem x400_ok (E : Env) : ExtOk Tryz.prog E 400 (.cas .i32) := ext_ok Tryz.func400 (by kernel_rfl) (by kernel_rfl) (by kernel_rfl) (show Extern.find Tryz.f400 = some (Extern.Atomic.casT (.int .i32)) by kernel_rfl)
theorem x401_ok (E : Env) : ExtOk Tryz.prog E 401 (.nop0) := ext_ok Tryz.func401 (by kernel_rfl) (by kernel_rfl) (by kernel_rfl) ⟨.enable, by kernel_rfl⟩
theorem x402_ok (E : Env) : ExtOk Tryz.prog E 402 (.nop1) := ext_ok Tryz.func402 (by kernel_rfl) (by kernel_rfl) (by kernel_rfl) ⟨.acquire, by kernel_rfl⟩
theorem x404_ok (E : Env) : ExtOk Tryz.prog E 404 (.nop1) := ext_ok Tryz.func404 (by kernel_rfl) (by kernel_rfl) (by kernel_rfl) ⟨.releaseMerge, by kernel_rfl⟩
theorem x405_ok (E : Env) : ExtOk Tryz.prog E 405 (.add .i32) := ext_ok Tryz.func405 (by kernel_rfl) (by kernel_rfl) (by kernel_rfl) (show Extern.find Tryz.f405 = some (Extern.Atomic.update (Op.intArith .add) .i32 true) by kernel_rfl)
theorem names_ok : (Tryz.prog.funcs.toList.all fun f => !(f.name == "runtime.NumGoroutine")) = true := by kernel_rfl
theorem held_ok : (heL.all fun t => !(Tryz.prog.stoodInHeld t.1)) = true := by kernel_rfl
theorem eqg_ok : (heL.all fun t => !(Tryz.prog.eqGuardType Tryz.prog.depth t.1)) = true := by kernel_rfl
theorem mixed_ok : Tryz.prog.follows .mixedOrders = true := by kernel_rfl
theorem envE_ok {l : List (Nat × List Sum)} {cl : List (Nat × Ctr)} (hs : ∀ f m s, (f, m) ∈ l → s ∈ m → SumOk Tryz.prog (envE (trAt l) (trAt cl)) f s) (hc : ∀ f c, (f, c) ∈ cl → CtrOk Tryz.prog (envE (trAt l) (trAt cl)) f c) : EnvOk2 Tryz.prog (envE (trAt l) (trAt cl)) := by
  refine env_ok (tys := Tryz.prog.types.toList) (fns := Tryz.prog.funcs.toList) (exs := exL) (hel := heL) (eqs := heL) (sums := l) (ctrs := cl) rfl rfl rfl rfl rfl rfl rfl rfl rfl names_ok held_ok eqg_ok mixed_ok ?_ hs hc
  intro f x h
  simp only [exL, List.mem_cons, List.not_mem_nil, or_false, Prod.mk.injEq] at h
  rcases h with ⟨rfl, rfl⟩ | ⟨rfl, rfl⟩ | ⟨rfl, rfl⟩ | ⟨rfl, rfl⟩ | ⟨rfl, rfl⟩ | ⟨rfl, rfl⟩ | ⟨rfl, rfl⟩ | ⟨rfl, rfl⟩ | ⟨rfl, rfl⟩ | ⟨rfl, rfl⟩ | ⟨rfl, rfl⟩ | ⟨rfl, rfl⟩
  · exact x147_ok _
  · exact x204_ok _
  · exact x264_ok _
  · exact x282_ok _
  · exact x317_ok _
  · exact x366_ok _
  · exact x399_ok _
  · exact x400_ok _
  · exact x401_ok _
  · exact x402_ok _
  · exact x404_ok _
  · exact x405_ok _
theorem gl_plain : (glL.all fun x => decide (x.1 < 16) && allL (plainAV 6) x.2) = true := by kernel_rfl
theorem low_ok (T : Tr (List Sum)) (C : Tr Ctr) : ∀ g, g < (envE T C).ng → (posOf g).val < nx0.val := by
  intro g hg
  have hg : g < 16 := hg
  rw [posOf_val, nx0, posOf_val]; omega
theorem gl_ok (T : Tr (List Sum)) (C : Tr Ctr) : ∀ b l, Tr.get b (envE T C).gl = some l → b.val < nx0.val ∧ allL (plainAV 6) l = true := by
  intro b l h
  obtain ⟨k, h1, rfl⟩ := trAt_get glL h
  have := List.all_eq_true.1 gl_plain _ h1
  simp only [Bool.and_eq_true, decide_eq_true_eq] at this
  refine ⟨?_, this.2⟩
  rw [posOf_val, nx0, posOf_val]; omega
/-- it holds of every call, whatever else is written down -/
def Holds (f : FuncId) (s : Sum) : Prop := ∀ T C, SumOk Tryz.prog (envE T C) f s
theorem holds_of {T : Tr (List Sum)} {C : Tr Ctr} (h : EnvOk2 Tryz.prog (envE T C)) {f : FuncId} {fn : Func} {s : Sum} (hs : isSum (envE T C) 100000000 nx0 f s = true) (hf : Tryz.prog.funcs[f]? = some fn) (hn : (fn.name == "runtime.NumGoroutine") = false) (hb : fn.body.isSome = true) : Holds f s := by
  intro T' C'
  obtain ⟨c, hc⟩ := Option.isSome_iff_exists.1 hb
  exact sum_ok h (low_ok T C) (gl_ok T C) hs rfl rfl ⟨fn, c, hf, by simpa using hn, hc⟩
theorem memos_ok (T : Tr (List Sum)) (C : Tr Ctr) {f : FuncId} {fn : Func} {l : List MEnt} (hf : Tryz.prog.funcs[f]? = some fn) (hn : (fn.name == "runtime.NumGoroutine") = false) (hb : fn.body.isSome = true) (hl : ∀ e ∈ l, MemoOk Tryz.prog 16 glT f e) : CtrOk Tryz.prog (envE T C) f (.memo l) :=
  let ⟨c, hc⟩ := Option.isSome_iff_exists.1 hb
  memo_ok ⟨fn, c, hf, hn, hc⟩ hl
theorem gl_glob (T : Tr (List Sum)) (C : Tr Ctr) : ∀ b l, Tr.get b (envE T C).gl = some l → (∃ g, g < (envE T C).ng ∧ b = posOf g) ∧ allL (plainAV 6) l = true := by
  intro b l h
  obtain ⟨k, h1, rfl⟩ := trAt_get glL h
  have := List.all_eq_true.1 gl_plain _ h1
  simp only [Bool.and_eq_true, decide_eq_true_eq] at this
  exact ⟨⟨k, this.1, rfl⟩, this.2⟩
theorem rmemos_ok (T : Tr (List Sum)) (C : Tr Ctr) {f : FuncId} {fn : Func} {l : List REnt} (hf : Tryz.prog.funcs[f]? = some fn) (hn : (fn.name == "runtime.NumGoroutine") = false) (hb : fn.body.isSome = true) (hl : ∀ e ∈ l, RenOk Tryz.prog 16 glT f e) : CtrOk Tryz.prog (envE T C) f (.rmemo 16 l) :=
  let ⟨c, hc⟩ := Option.isSome_iff_exists.1 hb
  rmemo_ok (E := envE T C) (gl_glob T C) ⟨fn, c, hf, hn, hc⟩ hl
def AllC (l : List (Nat × Ctr)) : Prop := ∀ f c, (f, c) ∈ l → ∀ T C, CtrOk Tryz.prog (envE T C) f c
theorem allC_app {l m : List (Nat × Ctr)} (h : AllC l) (h' : AllC m) : AllC (l ++ m) := fun f c hm => (List.mem_append.1 hm).elim (h f c) (h' f c)
theorem allC_one {f : Nat} {c : Ctr} (h : ∀ T C, CtrOk Tryz.prog (envE T C) f c) : AllC [(f, c)] := fun g d hm => by
  simp only [List.mem_cons, List.not_mem_nil, or_false, Prod.mk.injEq] at hm
  obtain ⟨rfl, rfl⟩ := hm
  exact h
def AllR (f : FuncId) (l : List REnt) : Prop := ∀ e ∈ l, RenOk Tryz.prog 16 glT f e
theorem allR_one {f : FuncId} {e : REnt} (h : RenOk Tryz.prog 16 glT f e) : AllR f [e] := fun x hx => by rw [List.mem_singleton.1 hx]; exact h
theorem allR_snoc {f : FuncId} {l : List REnt} {e : REnt} (hl : AllR f l) (h : RenOk Tryz.prog 16 glT f e) : AllR f (l ++ [e]) := fun x hx => (List.mem_append.1 hx).elim (hl x) (allR_one h x)
theorem vc0 : AllC VL0 := fun f c h T C => by
  simp only [VL0, List.mem_cons, List.not_mem_nil, or_false, Prod.mk.injEq] at h
  rcases h with ⟨rfl, rfl⟩ | ⟨rfl, rfl⟩
  · exact keysCtr _
  · exact cutCtr _
theorem sums0_ok (C : Tr Ctr) : ∀ f m s, (f, m) ∈ L0 → s ∈ m → SumOk Tryz.prog (envE (trAt L0) C) f s := (fun f m s h => by cases h)
theorem e0_ok : EnvOk2 Tryz.prog E0 := envE_ok (l := L0) (cl := VL0) (fun f m s h hs => sums0_ok _ f m s h hs) (fun f c h => vc0 f c h _ _)
theorem s157_0_holds : Holds 157 s157_0 := holds_of e0_ok s157_0_is Tryz.func157 (by kernel_rfl) (by kernel_rfl)
theorem s157_1_holds : Holds 157 s157_1 := holds_of e0_ok s157_1_is Tryz.func157 (by kernel_rfl) (by kernel_rfl)
theorem s157_2_holds : Holds 157 s157_2 := holds_of e0_ok s157_2_is Tryz.func157 (by kernel_rfl) (by kernel_rfl)
theorem sums1_ok (C : Tr Ctr) : ∀ f m s, (f, m) ∈ L1 → s ∈ m → SumOk Tryz.prog (envE (trAt L1) C) f s := (fun f m s h hs => by
    simp only [L1, List.mem_cons, List.not_mem_nil, or_false, Prod.mk.injEq] at h
    rcases h with ⟨rfl, rfl⟩
    · simp only [List.mem_cons, List.not_mem_nil, or_false] at hs
      rcases hs with rfl | rfl | rfl
      · exact s157_0_holds _ _
      · exact s157_1_holds _ _
      · exact s157_2_holds _ _)
theorem e1_ok : EnvOk2 Tryz.prog E1 := envE_ok (l := L1) (cl := VL0) (fun f m s h hs => sums1_ok _ f m s h hs) (fun f c h => vc0 f c h _ _)
theorem s59_0_holds : Holds 59 s59_0 := holds_of e1_ok s59_0_is Tryz.func59 (by kernel_rfl) (by kernel_rfl)
theorem sums2_ok (C : Tr Ctr) : ∀ f m s, (f, m) ∈ L2 → s ∈ m → SumOk Tryz.prog (envE (trAt L2) C) f s := (fun f m s h hs => by
    simp only [L2, List.mem_cons, List.not_mem_nil, or_false, Prod.mk.injEq] at h
    rcases h with ⟨rfl, rfl⟩ | ⟨rfl, rfl⟩
    · simp only [List.mem_cons, List.not_mem_nil, or_false] at hs
      rcases hs with rfl | rfl | rfl
      · exact s157_0_holds _ _
      · exact s157_1_holds _ _
      · exact s157_2_holds _ _
    · simp only [List.mem_cons, List.not_mem_nil, or_false] at hs
      rcases hs with rfl
      · exact s59_0_holds _ _)
theorem e2_ok : EnvOk2 Tryz.prog E2 := envE_ok (l := L2) (cl := VL0) (fun f m s h hs => sums2_ok _ f m s h hs) (fun f c h => vc0 f c h _ _)
theorem s40_0_holds : Holds 40 s40_0 := holds_of e2_ok s40_0_is Tryz.func40 (by kernel_rfl) (by kernel_rfl)
theorem sums3_ok (C : Tr Ctr) : ∀ f m s, (f, m) ∈ L3 → s ∈ m → SumOk Tryz.prog (envE (trAt L3) C) f s := (fun f m s h hs => by
    simp only [L3, List.mem_cons, List.not_mem_nil, or_false, Prod.mk.injEq] at h
    rcases h with ⟨rfl, rfl⟩ | ⟨rfl, rfl⟩ | ⟨rfl, rfl⟩
    · simp only [List.mem_cons, List.not_mem_nil, or_false] at hs
      rcases hs with rfl | rfl | rfl
      · exact s157_0_holds _ _
      · exact s157_1_holds _ _
      · exact s157_2_holds _ _
    · simp only [List.mem_cons, List.not_mem_nil, or_false] at hs
      rcases hs with rfl
      · exact s59_0_holds _ _
    · simp only [List.mem_cons, List.not_mem_nil, or_false] at hs
      rcases hs with rfl
      · exact s40_0_holds _ _)
theorem e3_ok : EnvOk2 Tryz.prog E3 := envE_ok (l := L3) (cl := VL0) (fun f m s h hs => sums3_ok _ f m s h hs) (fun f c h => vc0 f c h _ _)
theorem m5_ok : MemoOk Tryz.prog 16 glT 250 m5 := ⟨E3, 100000000, e3_ok, rfl, rfl, m5_is⟩
theorem m6_ok : MemoOk Tryz.prog 16 glT 250 m6 := ⟨E3, 100000000, e3_ok, rfl, rfl, m6_is⟩
theorem m7_ok : MemoOk Tryz.prog 16 glT 250 m7 := ⟨E3, 100000000, e3_ok, rfl, rfl, m7_is⟩
theorem m8_ok : MemoOk Tryz.prog 16 glT 250 m8 := ⟨E3, 100000000, e3_ok, rfl, rfl, m8_is⟩
theorem m9_ok : MemoOk Tryz.prog 16 glT 250 m9 := ⟨E3, 100000000, e3_ok, rfl, rfl, m9_is⟩
theorem m10_ok : MemoOk Tryz.prog 16 glT 250 m10 := ⟨E3, 100000000, e3_ok, rfl, rfl, m10_is⟩
theorem m11_ok : MemoOk Tryz.prog 16 glT 250 m11 := ⟨E3, 100000000, e3_ok, rfl, rfl, m11_is⟩
theorem uc12 : AllC CL12 := allC_app vc0 (fun f c h T C => by
    simp only [List.mem_cons, List.not_mem_nil, or_false, Prod.mk.injEq] at h
    obtain ⟨rfl, rfl⟩ := h
    · refine memos_ok _ _ Tryz.func250 (by kernel_rfl) (by kernel_rfl) fun e he => ?_
      simp only [List.mem_cons, List.not_mem_nil, or_false] at he
      rcases he with rfl | rfl | rfl | rfl | rfl | rfl | rfl
      · exact m5_ok
      · exact m6_ok
      · exact m7_ok
      · exact m8_ok
      · exact m9_ok
      · exact m10_ok
      · exact m11_ok)
theorem u12_ok : EnvOk2 Tryz.prog U12 := envE_ok (l := L3) (cl := CL12) (fun f m s h hs => sums3_ok _ f m s h hs) (fun f c h => uc12 f c h _ _)
theorem m12_ok : MemoOk Tryz.prog 16 glT 174 m12 := ⟨U12, 100000000, u12_ok, rfl, rfl, m12_is⟩
theorem uc13 : AllC CL13 := allC_app vc0 (fun f c h T C => by
    simp only [List.mem_cons, List.not_mem_nil, or_false, Prod.mk.injEq] at h
    obtain ⟨rfl, rfl⟩ := h
    · refine memos_ok _ _ Tryz.func174 (by kernel_rfl) (by kernel_rfl) fun e he => ?_
      simp only [List.mem_cons, List.not_mem_nil, or_false] at he
      subst he
      · exact m12_ok)
theorem u13_ok : EnvOk2 Tryz.prog U13 := envE_ok (l := L3) (cl := CL13) (fun f m s h hs => sums3_ok _ f m s h hs) (fun f c h => uc13 f c h _ _)
theorem s24_0_holds : Holds 24 s24_0 := holds_of u13_ok s24_0_is Tryz.func24 (by kernel_rfl) (by kernel_rfl)
theorem sums4_ok (C : Tr Ctr) : ∀ f m s, (f, m) ∈ L4 → s ∈ m → SumOk Tryz.prog (envE (trAt L4) C) f s := (fun f m s h hs => by
    simp only [L4, List.mem_cons, List.not_mem_nil, or_false, Prod.mk.injEq] at h
    rcases h with ⟨rfl, rfl⟩ | ⟨rfl, rfl⟩ | ⟨rfl, rfl⟩ | ⟨rfl, rfl⟩
    · simp only [List.mem_cons, List.not_mem_nil, or_false] at hs
      rcases hs with rfl | rfl | rfl
      · exact s157_0_holds _ _
      · exact s157_1_holds _ _
      · exact s157_2_holds _ _
    · simp only [List.mem_cons, List.not_mem_nil, or_false] at hs
      rcases hs with rfl
      · exact s59_0_holds _ _
    · simp only [List.mem_cons, List.not_mem_nil, or_false] at hs
      rcases hs with rfl
      · exact s40_0_holds _ _
    · simp only [List.mem_cons, List.not_mem_nil, or_false] at hs
      rcases hs with rfl
      · exact s24_0_holds _ _)
theorem e4_ok : EnvOk2 Tryz.prog E4 := envE_ok (l := L4) (cl := VL0) (fun f m s h hs => sums4_ok _ f m s h hs) (fun f c h => vc0 f c h _ _)
theorem m16_ok : MemoOk Tryz.prog 16 glT 26 m16 := ⟨E4, 100000000, e4_ok, rfl, rfl, m16_is⟩
theorem uc17 : AllC CL17 := allC_app vc0 (fun f c h T C => by
    simp only [List.mem_cons, List.not_mem_nil, or_false, Prod.mk.injEq] at h
    obtain ⟨rfl, rfl⟩ := h
    · refine memos_ok _ _ Tryz.func26 (by kernel_rfl) (by kernel_rfl) fun e he => ?_
      simp only [List.mem_cons, List.not_mem_nil, or_false] at he
      subst he
      · exact m16_ok)
theorem u17_ok : EnvOk2 Tryz.prog U17 := envE_ok (l := L4) (cl := CL17) (fun f m s h hs => sums4_ok _ f m s h hs) (fun f c h => uc17 f c h _ _)
theorem m18_ok : MemoOk Tryz.prog 16 glT 26 m18 := ⟨E4, 100000000, e4_ok, rfl, rfl, m18_is⟩
theorem uc19 : AllC CL19 := allC_app vc0 (fun f c h T C => by
    simp only [List.mem_cons, List.not_mem_nil, or_false, Prod.mk.injEq] at h
    obtain ⟨rfl, rfl⟩ := h
    · refine memos_ok _ _ Tryz.func26 (by kernel_rfl) (by kernel_rfl) fun e he => ?_
      simp only [List.mem_cons, List.not_mem_nil, or_false] at he
      subst he
      · exact m18_ok)
theorem u19_ok : EnvOk2 Tryz.prog U19 := envE_ok (l := L4) (cl := CL19) (fun f m s h hs => sums4_ok _ f m s h hs) (fun f c h => uc19 f c h _ _)
theorem m20_ok : MemoOk Tryz.prog 16 glT 26 m20 := ⟨E4, 100000000, e4_ok, rfl, rfl, m20_is⟩
theorem m21_ok : MemoOk Tryz.prog 16 glT 27 m21 := ⟨E4, 100000000, e4_ok, rfl, rfl, m21_is⟩
theorem m22_ok : MemoOk Tryz.prog 16 glT 27 m22 := ⟨E4, 100000000, e4_ok, rfl, rfl, m22_is⟩
theorem uc23 : AllC CL23 := allC_app vc0 (fun f c h T C => by
    simp only [List.mem_cons, List.not_mem_nil, or_false, Prod.mk.injEq] at h
    rcases h with ⟨rfl, rfl⟩ | ⟨rfl, rfl⟩
    · refine memos_ok _ _ Tryz.func26 (by kernel_rfl) (by kernel_rfl) fun e he => ?_
      simp only [List.mem_cons, List.not_mem_nil, or_false] at he
      subst he
      · exact m20_ok
    · refine memos_ok _ _ Tryz.func27 (by kernel_rfl) (by kernel_rfl) fun e he => ?_
      simp only [List.mem_cons, List.not_mem_nil, or_false] at he
      rcases he with rfl | rfl
      · exact m21_ok
      · exact m22_ok)
theorem u23_ok : EnvOk2 Tryz.prog U23 := envE_ok (l := L4) (cl := CL23) (fun f m s h hs => sums4_ok _ f m s h hs) (fun f c h => uc23 f c h _ _)
theorem s9_0_holds : Holds 9 s9_0 := holds_of e4_ok s9_0_is Tryz.func9 (by kernel_rfl) (by kernel_rfl)
theorem s9_1_holds : Holds 9 s9_1 := holds_of e4_ok s9_1_is Tryz.func9 (by kernel_rfl) (by kernel_rfl)
theorem s9_2_holds : Holds 9 s9_2 := holds_of u17_ok s9_2_is Tryz.func9 (by kernel_rfl) (by kernel_rfl)
theorem s9_3_holds : Holds 9 s9_3 := holds_of u19_ok s9_3_is Tryz.func9 (by kernel_rfl) (by kernel_rfl)
theorem s9_4_holds : Holds 9 s9_4 := holds_of u23_ok s9_4_is Tryz.func9 (by kernel_rfl) (by kernel_rfl)
theorem sums5_ok (C : Tr Ctr) : ∀ f m s, (f, m) ∈ L5 → s ∈ m → SumOk Tryz.prog (envE (trAt L5) C) f s := (fun f m s h hs => by
    simp only [L5, List.mem_cons, List.not_mem_nil, or_false, Prod.mk.injEq] at h
    rcases h with ⟨rfl, rfl⟩ | ⟨rfl, rfl⟩ | ⟨rfl, rfl⟩ | ⟨rfl, rfl⟩ | ⟨rfl, rfl⟩
    · simp only [List.mem_cons, List.not_mem_nil, or_false] at hs
      rcases hs with rfl | rfl | rfl
      · exact s157_0_holds _ _
      · exact s157_1_holds _ _
      · exact s157_2_holds _ _
    · simp only [List.mem_cons, List.not_mem_nil, or_false] at hs
      rcases hs with rfl
      · exact s59_0_holds _ _
    · simp only [List.mem_cons, List.not_mem_nil, or_false] at hs
      rcases hs with rfl
      · exact s40_0_holds _ _
    · simp only [List.mem_cons, List.not_mem_nil, or_false] at hs
      rcases hs with rfl
      · exact s24_0_holds _ _
    · simp only [List.mem_cons, List.not_mem_nil, or_false] at hs
      rcases hs with rfl | rfl | rfl | rfl | rfl
      · exact s9_0_holds _ _
      · exact s9_1_holds _ _
      · exact s9_2_holds _ _
      · exact s9_3_holds _ _
      · exact s9_4_holds _ _)
theorem e5_ok : EnvOk2 Tryz.prog E5 := envE_ok (l := L5) (cl := VL0) (fun f m s h hs => sums5_ok _ f m s h hs) (fun f c h => vc0 f c h _ _)
end Go.Ev
