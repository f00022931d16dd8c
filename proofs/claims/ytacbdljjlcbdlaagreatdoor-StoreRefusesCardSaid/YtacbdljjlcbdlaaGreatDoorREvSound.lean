/- The tables are right: what the evaluator takes of the program is the program's. -/
import Derived.Test.YtacbdljjlcbdlaaGreatDoorREvTab
import Derived.Test.YtacbdljjlcbdlaaGreatDoorEvMemo
import Derived.Test.YtacbdljjlcbdlaaGreatDoorREvK0
import Derived.Test.YtacbdljjlcbdlaaGreatDoorREvK1
import Derived.Test.YtacbdljjlcbdlaaGreatDoorREvK2
import Derived.Test.YtacbdljjlcbdlaaGreatDoorREvK3
import Derived.Test.YtacbdljjlcbdlaaGreatDoorREvK4
import Derived.Test.YtacbdljjlcbdlaaGreatDoorEvCtrAt
set_option linter.unusedVariables false
set_option linter.unusedSimpArgs false
namespace Go.Ev
open Go.Proofs
set_option maxRecDepth 100000
theorem x149_ok (E : Env) : ExtOk Tryz.prog E 149 (.store) := ext_ok Tryz.func149 (by kernel_rfl) (by kernel_rfl) (by kernel_rfl) (show Extern.find Tryz.f149 = some (Extern.Atomic.storeT) by kernel_rfl)
theorem x150_ok (E : Env) : ExtOk Tryz.prog E 150 (.load .i64) := ext_ok Tryz.func150 (by kernel_rfl) (by kernel_rfl) (by kernel_rfl) (show Extern.find Tryz.f150 = some (Extern.Atomic.loadT (.int .i64)) by kernel_rfl)
theorem x169_ok (E : Env) : ExtOk Tryz.prog E 169 (.add .i64) := ext_ok Tryz.func169 (by kernel_rfl) (by kernel_rfl) (by kernel_rfl) (show Extern.find Tryz.f169 = some (Extern.Atomic.update (Op.intArith .add) .i64 true) by kernel_rfl)
theorem x329_ok (E : Env) : ExtOk Tryz.prog E 329 (.count) := ext_ok Tryz.func329 (by kernel_rfl) (by kernel_rfl) (by kernel_rfl) (show Extern.find Tryz.f329 = some (Extern.BytealgCount.count) by kernel_rfl)
theorem x385_ok (E : Env) : ExtOk Tryz.prog E 385 (.same) := ext_ok Tryz.func385 (by kernel_rfl) (by kernel_rfl) (by kernel_rfl) (show Extern.find Tryz.f385 = some (Extern.AbiNoEscape.same) by kernel_rfl)
theorem x435_ok (E : Env) : ExtOk Tryz.prog E 435 (.store) := ext_ok Tryz.func435 (by kernel_rfl) (by kernel_rfl) (by kernel_rfl) (show Extern.find Tryz.f435 = some (Extern.Atomic.storeT) by kernel_rfl)
theorem x443_ok (E : Env) : ExtOk Tryz.prog E 443 (.mknz 5) := ext_ok Tryz.func443 (by kernel_rfl) (by kernel_rfl) (by kernel_rfl) ⟨_, _, (show Extern.find Tryz.f443 = some (Extern.BytealgMakeNoZero.makeNoZero #[3] #[362]) by kernel_rfl), Tryz.underlying362⟩
theorem x448_ok (E : Env) : ExtOk Tryz.prog E 448 (.idxByte) := ext_ok Tryz.func448 (by kernel_rfl) (by kernel_rfl) (by kernel_rfl) (show Extern.find Tryz.f448 = some (Extern.BytealgIndexByte.indexByte) by kernel_rfl)
theorem x481_ok (E : Env) : ExtOk Tryz.prog E 481 (.load .u32) := ext_ok Tryz.func481 (by kernel_rfl) (by kernel_rfl) (by kernel_rfl) (show Extern.find Tryz.f481 = some (Extern.Atomic.loadT (.int .u32)) by kernel_rfl)
theorem x525_ok (E : Env) : ExtOk Tryz.prog E 525 (.store) := ext_ok Tryz.func525 (by kernel_rfl) (by kernel_rfl) (by kernel_rfl) (show Extern.find Tryz.f525 = some (Extern.Atomic.storeT) by kernel_rfl)
theorem x553_ok (E : Env) : ExtOk Tryz.prog E 553 (.nop0) := ext_ok Tryz.func553 (by kernel_rfl) (by kernel_rfl) (by kernel_rfl) ⟨.disable, by kernel_rfl⟩
theorem x554_ok (E : Env) : ExtOk Tryz.prog E 554 (.cas .i32) := ext_ok Tryz.func554 (by kernel_rfl) (by kernel_rfl) (by kernel_rfl) (show Extern.find Tryz.f554 = some (Extern.Atomic.casT (.int .i32)) by kernel_rfl)
theorem x555_ok (E : Env) : ExtOk Tryz.prog E 555 (.nop0) := ext_ok Tryz.func555 (by kernel_rfl) (by kernel_rfl) (by kernel_rfl) ⟨.enable, by kernel_rfl⟩
theorem x556_ok (E : Env) : ExtOk Tryz.prog E 556 (.nop1) := ext_ok Tryz.func556 (by kernel_rfl) (by kernel_rfl) (by kernel_rfl) ⟨.acquire, by kernel_rfl⟩
theorem x558_ok (E : Env) : ExtOk Tryz.prog E 558 (.nop1) := ext_ok Tryz.func558 (by kernel_rfl) (by kernel_rfl) (by kernel_rfl) ⟨.releaseMerge, by kernel_rfl⟩
theorem x559_ok (E : Env) : ExtOk Tryz.prog E 559 (.add .i32) := ext_ok Tryz.func559 (by kernel_rfl) (by kernel_rfl) (by kernel_rfl) (show Extern.find Tryz.f559 = some (Extern.Atomic.update (Op.intArith .add) .i32 true) by kernel_rfl)
theorem names_ok : (Tryz.prog.funcs.toList.all fun f => !(f.name == "runtime.NumGoroutine")) = true := by kernel_rfl
theorem held_ok : (heL.all fun t => !(Tryz.prog.stoodInHeld t.1)) = true := by kernel_rfl
theorem eqg_ok : (heL.all fun t => !(Tryz.prog.eqGuardType Tryz.prog.depth t.1)) = true := by kernel_rfl
theorem mixed_ok : Tryz.prog.follows .mixedOrders = true := by kernel_rfl
theorem envE_ok {l : List (Nat × List Sum)} {cl : List (Nat × Ctr)} (hs : ∀ f m s, (f, m) ∈ l → s ∈ m → SumOk Tryz.prog (envE (trAt l) (trAt cl)) f s) (hc : ∀ f c, (f, c) ∈ cl → CtrOk Tryz.prog (envE (trAt l) (trAt cl)) f c) : EnvOk2 Tryz.prog (envE (trAt l) (trAt cl)) := by
  refine env_ok (tys := Tryz.prog.types.toList) (fns := Tryz.prog.funcs.toList) (exs := exL) (hel := heL) (eqs := heL) (sums := l) (ctrs := cl) rfl rfl rfl rfl rfl rfl rfl rfl rfl names_ok held_ok eqg_ok mixed_ok ?_ hs hc
  intro f x h
  simp only [exL, List.mem_cons, List.not_mem_nil, or_false, Prod.mk.injEq] at h
  rcases h with ⟨rfl, rfl⟩ | ⟨rfl, rfl⟩ | ⟨rfl, rfl⟩ | ⟨rfl, rfl⟩ | ⟨rfl, rfl⟩ | ⟨rfl, rfl⟩ | ⟨rfl, rfl⟩ | ⟨rfl, rfl⟩ | ⟨rfl, rfl⟩ | ⟨rfl, rfl⟩ | ⟨rfl, rfl⟩ | ⟨rfl, rfl⟩ | ⟨rfl, rfl⟩ | ⟨rfl, rfl⟩ | ⟨rfl, rfl⟩ | ⟨rfl, rfl⟩
  · exact x149_ok _
  · exact x150_ok _
  · exact x169_ok _
  · exact x329_ok _
  · exact x385_ok _
  · exact x435_ok _
  · exact x443_ok _
  · exact x448_ok _
  · exact x481_ok _
  · exact x525_ok _
  · exact x553_ok _
  · exact x554_ok _
  · exact x555_ok _
  · exact x556_ok _
  · exact x558_ok _
  · exact x559_ok _
theorem gl_plain : (glL.all fun x => decide (x.1 < 18) && allL (plainAV 6) x.2) = true := by kernel_rfl
theorem low_ok (T : Tr (List Sum)) (C : Tr Ctr) : ∀ g, g < (envE T C).ng → (posOf g).val < nx0.val := by
  intro g hg
  have hg : g < 18 := hg
  rw [posOf_val, nx0, posOf_val]; omega
theorem gl_ok (T : Tr (List Sum)) (C : Tr Ctr) : ∀ b l, Tr.get b (envE T C).gl = some l → b.val < nx0.val ∧ allL (plainAV 6) l = true := by
  intro b l h
  obtain ⟨k, h1, rfl⟩ := trAt_get glL h
  have := List.all_eq_true.1 gl_plain _ h1
  simp only [Bool.and_eq_true, decide_eq_true_eq] at this
  refine ⟨?_, this.2⟩
  rw [posOf_val, nx0, posOf_val]; omega
/-- it holds of every call, whatever else is written down -/
def Holds (f : FuncId) (s : Sum) : Prop := ∀ T C, SumOk Tryz.prog (envE T C) f s
theorem holds_of {T : Tr (List Sum)} {C : Tr Ctr} (h : EnvOk2 Tryz.prog (envE T C)) {f : FuncId} {fn : Func} {s : Sum} (hs : isSum (envE T C) 100000000 nx0 f s = true) (hf : Tryz.prog.funcs[f]? = some fn) (hn : (fn.name == "runtime.NumGoroutine") = false) (hb : fn.body.isSome = true) : Holds f s := by
  intro T' C'
  obtain ⟨c, hc⟩ := Option.isSome_iff_exists.1 hb
  exact sum_ok h (low_ok T C) (gl_ok T C) hs rfl rfl ⟨fn, c, hf, by simpa using hn, hc⟩
theorem memos_ok (T : Tr (List Sum)) (C : Tr Ctr) {f : FuncId} {fn : Func} {l : List MEnt} (hf : Tryz.prog.funcs[f]? = some fn) (hn : (fn.name == "runtime.NumGoroutine") = false) (hb : fn.body.isSome = true) (hl : ∀ e ∈ l, MemoOk Tryz.prog 18 glT f e) : CtrOk Tryz.prog (envE T C) f (.memo l) :=
  let ⟨c, hc⟩ := Option.isSome_iff_exists.1 hb
  memo_ok ⟨fn, c, hf, hn, hc⟩ hl
theorem e0_ok : EnvOk2 Tryz.prog E0 := envE_ok (l := L0) (cl := ctL) (fun f m s h => by cases h) (fun f c h => by
    simp only [ctL, List.mem_cons, List.not_mem_nil, or_false, Prod.mk.injEq] at h
    rcases h with ⟨rfl, rfl⟩ | ⟨rfl, rfl⟩
    · exact keysCtr _
    · exact cutCtr _)
theorem s339_0_holds : Holds 339 s339_0 := holds_of e0_ok s339_0_is Tryz.func339 (by kernel_rfl) (by kernel_rfl)
theorem s339_1_holds : Holds 339 s339_1 := holds_of e0_ok s339_1_is Tryz.func339 (by kernel_rfl) (by kernel_rfl)
theorem s339_2_holds : Holds 339 s339_2 := holds_of e0_ok s339_2_is Tryz.func339 (by kernel_rfl) (by kernel_rfl)
theorem e1_ok : EnvOk2 Tryz.prog E1 := envE_ok (l := L1) (cl := ctL) (fun f m s h hs => by
    simp only [L1, List.mem_cons, List.not_mem_nil, or_false, Prod.mk.injEq] at h
    rcases h with ⟨rfl, rfl⟩
    · simp only [List.mem_cons, List.not_mem_nil, or_false] at hs
      rcases hs with rfl | rfl | rfl
      · exact s339_0_holds _ _
      · exact s339_1_holds _ _
      · exact s339_2_holds _ _) (fun f c h => by
    simp only [ctL, List.mem_cons, List.not_mem_nil, or_false, Prod.mk.injEq] at h
    rcases h with ⟨rfl, rfl⟩ | ⟨rfl, rfl⟩
    · exact keysCtr _
    · exact cutCtr _)
theorem s174_0_holds : Holds 174 s174_0 := holds_of e1_ok s174_0_is Tryz.func174 (by kernel_rfl) (by kernel_rfl)
theorem e2_ok : EnvOk2 Tryz.prog E2 := envE_ok (l := L2) (cl := ctL) (fun f m s h hs => by
    simp only [L2, List.mem_cons, List.not_mem_nil, or_false, Prod.mk.injEq] at h
    rcases h with ⟨rfl, rfl⟩ | ⟨rfl, rfl⟩
    · simp only [List.mem_cons, List.not_mem_nil, or_false] at hs
      rcases hs with rfl | rfl | rfl
      · exact s339_0_holds _ _
      · exact s339_1_holds _ _
      · exact s339_2_holds _ _
    · simp only [List.mem_cons, List.not_mem_nil, or_false] at hs
      rcases hs with rfl
      · exact s174_0_holds _ _) (fun f c h => by
    simp only [ctL, List.mem_cons, List.not_mem_nil, or_false, Prod.mk.injEq] at h
    rcases h with ⟨rfl, rfl⟩ | ⟨rfl, rfl⟩
    · exact keysCtr _
    · exact cutCtr _)
theorem s106_0_holds : Holds 106 s106_0 := holds_of e2_ok s106_0_is Tryz.func106 (by kernel_rfl) (by kernel_rfl)
theorem e3_ok : EnvOk2 Tryz.prog E3 := envE_ok (l := L3) (cl := ctL) (fun f m s h hs => by
    simp only [L3, List.mem_cons, List.not_mem_nil, or_false, Prod.mk.injEq] at h
    rcases h with ⟨rfl, rfl⟩ | ⟨rfl, rfl⟩ | ⟨rfl, rfl⟩
    · simp only [List.mem_cons, List.not_mem_nil, or_false] at hs
      rcases hs with rfl | rfl | rfl
      · exact s339_0_holds _ _
      · exact s339_1_holds _ _
      · exact s339_2_holds _ _
    · simp only [List.mem_cons, List.not_mem_nil, or_false] at hs
      rcases hs with rfl
      · exact s174_0_holds _ _
    · simp only [List.mem_cons, List.not_mem_nil, or_false] at hs
      rcases hs with rfl
      · exact s106_0_holds _ _) (fun f c h => by
    simp only [ctL, List.mem_cons, List.not_mem_nil, or_false, Prod.mk.injEq] at h
    rcases h with ⟨rfl, rfl⟩ | ⟨rfl, rfl⟩
    · exact keysCtr _
    · exact cutCtr _)
theorem m5_ok : MemoOk Tryz.prog 18 glT 423 m5 := ⟨E3, 100000000, e3_ok, rfl, rfl, m5_is⟩
theorem m6_ok : MemoOk Tryz.prog 18 glT 423 m6 := ⟨E3, 100000000, e3_ok, rfl, rfl, m6_is⟩
theorem m7_ok : MemoOk Tryz.prog 18 glT 423 m7 := ⟨E3, 100000000, e3_ok, rfl, rfl, m7_is⟩
theorem m8_ok : MemoOk Tryz.prog 18 glT 423 m8 := ⟨E3, 100000000, e3_ok, rfl, rfl, m8_is⟩
theorem m9_ok : MemoOk Tryz.prog 18 glT 423 m9 := ⟨E3, 100000000, e3_ok, rfl, rfl, m9_is⟩
theorem m10_ok : MemoOk Tryz.prog 18 glT 423 m10 := ⟨E3, 100000000, e3_ok, rfl, rfl, m10_is⟩
theorem m11_ok : MemoOk Tryz.prog 18 glT 423 m11 := ⟨E3, 100000000, e3_ok, rfl, rfl, m11_is⟩
theorem u12_ok : EnvOk2 Tryz.prog U12 := envE_ok (l := L3) (cl := CL12) (fun f m s h hs => by
    simp only [L3, List.mem_cons, List.not_mem_nil, or_false, Prod.mk.injEq] at h
    rcases h with ⟨rfl, rfl⟩ | ⟨rfl, rfl⟩ | ⟨rfl, rfl⟩
    · simp only [List.mem_cons, List.not_mem_nil, or_false] at hs
      rcases hs with rfl | rfl | rfl
      · exact s339_0_holds _ _
      · exact s339_1_holds _ _
      · exact s339_2_holds _ _
    · simp only [List.mem_cons, List.not_mem_nil, or_false] at hs
      rcases hs with rfl
      · exact s174_0_holds _ _
    · simp only [List.mem_cons, List.not_mem_nil, or_false] at hs
      rcases hs with rfl
      · exact s106_0_holds _ _) (fun f c h => by
    simp only [CL12, List.mem_cons, List.not_mem_nil, or_false, Prod.mk.injEq] at h
    rcases h with ⟨rfl, rfl⟩ | ⟨rfl, rfl⟩ | ⟨rfl, rfl⟩
    · exact keysCtr _
    · exact cutCtr _
    · refine memos_ok _ _ Tryz.func423 (by kernel_rfl) (by kernel_rfl) fun e he => ?_
      simp only [List.mem_cons, List.not_mem_nil, or_false] at he
      rcases he with rfl | rfl | rfl | rfl | rfl | rfl | rfl
      · exact m5_ok
      · exact m6_ok
      · exact m7_ok
      · exact m8_ok
      · exact m9_ok
      · exact m10_ok
      · exact m11_ok)
theorem m12_ok : MemoOk Tryz.prog 18 glT 355 m12 := ⟨U12, 100000000, u12_ok, rfl, rfl, m12_is⟩
theorem u13_ok : EnvOk2 Tryz.prog U13 := envE_ok (l := L3) (cl := CL13) (fun f m s h hs => by
    simp only [L3, List.mem_cons, List.not_mem_nil, or_false, Prod.mk.injEq] at h
    rcases h with ⟨rfl, rfl⟩ | ⟨rfl, rfl⟩ | ⟨rfl, rfl⟩
    · simp only [List.mem_cons, List.not_mem_nil, or_false] at hs
      rcases hs with rfl | rfl | rfl
      · exact s339_0_holds _ _
      · exact s339_1_holds _ _
      · exact s339_2_holds _ _
    · simp only [List.mem_cons, List.not_mem_nil, or_false] at hs
      rcases hs with rfl
      · exact s174_0_holds _ _
    · simp only [List.mem_cons, List.not_mem_nil, or_false] at hs
      rcases hs with rfl
      · exact s106_0_holds _ _) (fun f c h => by
    simp only [CL13, List.mem_cons, List.not_mem_nil, or_false, Prod.mk.injEq] at h
    rcases h with ⟨rfl, rfl⟩ | ⟨rfl, rfl⟩ | ⟨rfl, rfl⟩
    · exact keysCtr _
    · exact cutCtr _
    · refine memos_ok _ _ Tryz.func355 (by kernel_rfl) (by kernel_rfl) fun e he => ?_
      simp only [List.mem_cons, List.not_mem_nil, or_false] at he
      subst he
      · exact m12_ok)
theorem s59_0_holds : Holds 59 s59_0 := holds_of u13_ok s59_0_is Tryz.func59 (by kernel_rfl) (by kernel_rfl)
theorem e4_ok : EnvOk2 Tryz.prog E4 := envE_ok (l := L4) (cl := ctL) (fun f m s h hs => by
    simp only [L4, List.mem_cons, List.not_mem_nil, or_false, Prod.mk.injEq] at h
    rcases h with ⟨rfl, rfl⟩ | ⟨rfl, rfl⟩ | ⟨rfl, rfl⟩ | ⟨rfl, rfl⟩
    · simp only [List.mem_cons, List.not_mem_nil, or_false] at hs
      rcases hs with rfl | rfl | rfl
      · exact s339_0_holds _ _
      · exact s339_1_holds _ _
      · exact s339_2_holds _ _
    · simp only [List.mem_cons, List.not_mem_nil, or_false] at hs
      rcases hs with rfl
      · exact s174_0_holds _ _
    · simp only [List.mem_cons, List.not_mem_nil, or_false] at hs
      rcases hs with rfl
      · exact s106_0_holds _ _
    · simp only [List.mem_cons, List.not_mem_nil, or_false] at hs
      rcases hs with rfl
      · exact s59_0_holds _ _) (fun f c h => by
    simp only [ctL, List.mem_cons, List.not_mem_nil, or_false, Prod.mk.injEq] at h
    rcases h with ⟨rfl, rfl⟩ | ⟨rfl, rfl⟩
    · exact keysCtr _
    · exact cutCtr _)
theorem m15_ok : MemoOk Tryz.prog 18 glT 61 m15 := ⟨E4, 100000000, e4_ok, rfl, rfl, m15_is⟩
theorem u16_ok : EnvOk2 Tryz.prog U16 := envE_ok (l := L4) (cl := CL16) (fun f m s h hs => by
    simp only [L4, List.mem_cons, List.not_mem_nil, or_false, Prod.mk.injEq] at h
    rcases h with ⟨rfl, rfl⟩ | ⟨rfl, rfl⟩ | ⟨rfl, rfl⟩ | ⟨rfl, rfl⟩
    · simp only [List.mem_cons, List.not_mem_nil, or_false] at hs
      rcases hs with rfl | rfl | rfl
      · exact s339_0_holds _ _
      · exact s339_1_holds _ _
      · exact s339_2_holds _ _
    · simp only [List.mem_cons, List.not_mem_nil, or_false] at hs
      rcases hs with rfl
      · exact s174_0_holds _ _
    · simp only [List.mem_cons, List.not_mem_nil, or_false] at hs
      rcases hs with rfl
      · exact s106_0_holds _ _
    · simp only [List.mem_cons, List.not_mem_nil, or_false] at hs
      rcases hs with rfl
      · exact s59_0_holds _ _) (fun f c h => by
    simp only [CL16, List.mem_cons, List.not_mem_nil, or_false, Prod.mk.injEq] at h
    rcases h with ⟨rfl, rfl⟩ | ⟨rfl, rfl⟩ | ⟨rfl, rfl⟩
    · exact keysCtr _
    · exact cutCtr _
    · refine memos_ok _ _ Tryz.func61 (by kernel_rfl) (by kernel_rfl) fun e he => ?_
      simp only [List.mem_cons, List.not_mem_nil, or_false] at he
      subst he
      · exact m15_ok)
theorem s10_0_holds : Holds 10 s10_0 := holds_of e4_ok s10_0_is Tryz.func10 (by kernel_rfl) (by kernel_rfl)
theorem s10_1_holds : Holds 10 s10_1 := holds_of u16_ok s10_1_is Tryz.func10 (by kernel_rfl) (by kernel_rfl)
theorem e5_ok : EnvOk2 Tryz.prog E5 := envE_ok (l := L5) (cl := ctL) (fun f m s h hs => by
    simp only [L5, List.mem_cons, List.not_mem_nil, or_false, Prod.mk.injEq] at h
    rcases h with ⟨rfl, rfl⟩ | ⟨rfl, rfl⟩ | ⟨rfl, rfl⟩ | ⟨rfl, rfl⟩ | ⟨rfl, rfl⟩
    · simp only [List.mem_cons, List.not_mem_nil, or_false] at hs
      rcases hs with rfl | rfl | rfl
      · exact s339_0_holds _ _
      · exact s339_1_holds _ _
      · exact s339_2_holds _ _
    · simp only [List.mem_cons, List.not_mem_nil, or_false] at hs
      rcases hs with rfl
      · exact s174_0_holds _ _
    · simp only [List.mem_cons, List.not_mem_nil, or_false] at hs
      rcases hs with rfl
      · exact s106_0_holds _ _
    · simp only [List.mem_cons, List.not_mem_nil, or_false] at hs
      rcases hs with rfl
      · exact s59_0_holds _ _
    · simp only [List.mem_cons, List.not_mem_nil, or_false] at hs
      rcases hs with rfl | rfl
      · exact s10_0_holds _ _
      · exact s10_1_holds _ _) (fun f c h => by
    simp only [ctL, List.mem_cons, List.not_mem_nil, or_false, Prod.mk.injEq] at h
    rcases h with ⟨rfl, rfl⟩ | ⟨rfl, rfl⟩
    · exact keysCtr _
    · exact cutCtr _)
end Go.Ev
