/- The tables are right: what the evaluator takes of the program is the program's. -/
import Derived.Test.YtacbdljjlcbdlaaGreatDoorPEvTab
import Derived.Test.YtacbdljjlcbdlaaGreatDoorEvMemo
import Derived.Test.YtacbdljjlcbdlaaGreatDoorPEvK0
import Derived.Test.YtacbdljjlcbdlaaGreatDoorPEvK1
import Derived.Test.YtacbdljjlcbdlaaGreatDoorPEvK2
import Derived.Test.YtacbdljjlcbdlaaGreatDoorPEvK3
import Derived.Test.YtacbdljjlcbdlaaGreatDoorPEvK4
import Derived.Test.YtacbdljjlcbdlaaGreatDoorPEvK5
import Derived.Test.YtacbdljjlcbdlaaGreatDoorPEvK6
import Derived.Test.YtacbdljjlcbdlaaGreatDoorPEvK7
import Derived.Test.YtacbdljjlcbdlaaGreatDoorPEvK8
import Derived.Test.YtacbdljjlcbdlaaGreatDoorPEvK9
import Derived.Test.YtacbdljjlcbdlaaGreatDoorPEvK10
import Derived.Test.YtacbdljjlcbdlaaGreatDoorPEvK11
import Derived.Test.YtacbdljjlcbdlaaGreatDoorEvCtrAt
set_option linter.unusedVariables false
set_option linter.unusedSimpArgs false
namespace Go.Ev
open Go.Proofs
set_option maxRecDepth 100000
theorem x149_ok (E : Env) : ExtOk Tryz.prog E 149 (.store) := ext_ok Tryz.func149 (by kernel_rfl) (by kernel_rfl) (by kernel_rfl) (show Extern.find Tryz.f149 = some (Extern.Atomic.storeT) by kernel_rfl)
theorem x150_ok (E : Env) : ExtOk Tryz.prog E 150 (.load .i64) := ext_ok Tryz.func150 (by kernel_rfl) (by kernel_rfl) (by kernel_rfl) (show Extern.find Tryz.f150 = some (Extern.Atomic.loadT (.int .i64)) by kernel_rfl)
theorem x169_ok (E : Env) : ExtOk Tryz.prog E 169 (.add .i64) := ext_ok Tryz.func169 (by kernel_rfl) (by kernel_rfl) (by kernel_rfl) (show Extern.find Tryz.f169 = some (Extern.Atomic.update (Op.intArith .add) .i64 true) by kernel_rfl)
theorem x329_ok (E : Env) : ExtOk Tryz.prog E 329 (.count) := ext_ok Tryz.func329 (by kernel_rfl) (by kernel_rfl) (by kernel_rfl) (show Extern.find Tryz.f329 = some (Extern.BytealgCount.count) by kernel_rfl)
theorem x385_ok (E : Env) : ExtOk Tryz.prog E 385 (.same) := ext_ok Tryz.func385 (by kernel_rfl) (by kernel_rfl) (by kernel_rfl) (show Extern.find Tryz.f385 = some (Extern.AbiNoEscape.same) by kernel_rfl)
theorem x435_ok (E : Env) : ExtOk Tryz.prog E 435 (.store) := ext_ok Tryz.func435 (by kernel_rfl) (by kernel_rfl) (by kernel_rfl) (show Extern.find Tryz.f435 = some (Extern.Atomic.storeT) by kernel_rfl)
theorem x443_ok (E : Env) : ExtOk Tryz.prog E 443 (.mknz 5) := ext_ok Tryz.func443 (by kernel_rfl) (by kernel_rfl) (by kernel_rfl) ⟨_, _, (show Extern.find Tryz.f443 = some (Extern.BytealgMakeNoZero.makeNoZero #[3] #[362]) by kernel_rfl), Tryz.underlying362⟩
theorem x448_ok (E : Env) : ExtOk Tryz.prog E 448 (.idxByte) := ext_ok Tryz.func448 (by kernel_rfl) (by kernel_rfl) (by kernel_rfl) (show Extern.find Tryz.f448 = some (Extern.BytealgIndexByte.indexByte) by kernel_rfl)
theorem x481_ok (E : Env) : ExtOk Tryz.prog E 481 (.load .u32) := ext_ok Tryz.func481 (by kernel_rfl) (by kernel_rfl) (by kernel_rfl) (show Extern.find Tryz.f481 = some (Extern.Atomic.loadT (.int .u32)) by kernel_rfl)
theorem x525_ok (E : Env) : ExtOk Tryz.prog E 525 (.store) := ext_ok Tryz.func525 (by kernel_rfl) (by kernel_rfl) (by kernel_rfl) (show Extern.find Tryz.f525 = some (Extern.Atomic.storeT) by kernel_rfl)
theorem x553_ok (E : Env) : ExtOk Tryz.prog E 553 (.nop0) := ext_ok Tryz.func553 (by kernel_rfl) (by kernel_rfl) (by kernel_rfl) ⟨.disable, by kernel_rfl⟩
theorem x554_ok (E : Env) : ExtOk Tryz.prog E 554 (.cas .i32) := ext_ok Tryz.func554 (by kernel_rfl) (by kernel_rfl) (by kernel_rfl) (show Extern.find Tryz.f554 = some (Extern.Atomic.casT (.int .i32)) by kernel_rfl)
theorem x555_ok (E : Env) : ExtOk Tryz.prog E 555 (.nop0) := ext_ok Tryz.func555 (by kernel_rfl) (by kernel_rfl) (by kernel_rfl) ⟨.enable, by kernel_rfl⟩
theorem x556_ok (E : Env) : ExtOk Tryz.prog E 556 (.nop1) := ext_ok Tryz.func556 (by kernel_rfl) (by kernel_rfl) (by kernel_rfl) ⟨.acquire, by kernel_rfl⟩
theorem x558_ok (E : Env) : ExtOk Tryz.prog E 558 (.nop1) := ext_ok Tryz.func558 (by kernel_rfl) (by kernel_rfl) (by kernel_rfl) ⟨.releaseMerge, by kernel_rfl⟩
theorem x559_ok (E : Env) : ExtOk Tryz.prog E 559 (.add .i32) := ext_ok Tryz.func559 (by kernel_rfl) (by kernel_rfl) (by kernel_rfl) (show Extern.find Tryz.f559 = some (Extern.Atomic.update (Op.intArith .add) .i32 true) by kernel_rfl)
theorem names_ok : (Tryz.prog.funcs.toList.all fun f => !(f.name == "runtime.NumGoroutine")) = true := by kernel_rfl
theorem held_ok : (heL.all fun t => !(Tryz.prog.stoodInHeld t.1)) = true := by kernel_rfl
theorem eqg_ok : (heL.all fun t => !(Tryz.prog.eqGuardType Tryz.prog.depth t.1)) = true := by kernel_rfl
theorem mixed_ok : Tryz.prog.follows .mixedOrders = true := by kernel_rfl
theorem envE_ok {l : List (Nat × List Sum)} {cl : List (Nat × Ctr)} (hs : ∀ f m s, (f, m) ∈ l → s ∈ m → SumOk Tryz.prog (envE (trAt l) (trAt cl)) f s) (hc : ∀ f c, (f, c) ∈ cl → CtrOk Tryz.prog (envE (trAt l) (trAt cl)) f c) : EnvOk2 Tryz.prog (envE (trAt l) (trAt cl)) := by
  refine env_ok (tys := Tryz.prog.types.toList) (fns := Tryz.prog.funcs.toList) (exs := exL) (hel := heL) (eqs := heL) (sums := l) (ctrs := cl) rfl rfl rfl rfl rfl rfl rfl rfl rfl names_ok held_ok eqg_ok mixed_ok ?_ hs hc
  intro f x h
  simp only [exL, List.mem_cons, List.not_mem_nil, or_false, Prod.mk.injEq] at h
  rcases h with ⟨rfl, rfl⟩ | ⟨rfl, rfl⟩ | ⟨rfl, rfl⟩ | ⟨rfl, rfl⟩ | ⟨rfl, rfl⟩ | ⟨rfl, rfl⟩ | ⟨rfl, rfl⟩ | ⟨rfl, rfl⟩ | ⟨rfl, rfl⟩ | ⟨rfl, rfl⟩ | ⟨rfl, rfl⟩ | ⟨rfl, rfl⟩ | ⟨rfl, rfl⟩ | ⟨rfl, rfl⟩ | ⟨rfl, rfl⟩ | ⟨rfl, rfl⟩
  · exact x149_ok _
  · exact x150_ok _
  · exact x169_ok _
  · exact x329_ok _
  · exact x385_ok _
  · exact x435_ok _
  · exact x443_ok _
  · exact x448_ok _
  · exact x481_ok _
  · exact x525_ok _
  · exact x553_ok _
  · exact x554_ok _
  · exact x555_ok _
  · exact x556_ok _
  · exact x558_ok _
  · exact x559_ok _
theorem gl_plain : (glL.all fun x => decide (x.1 < 18) && allL (plainAV 6) x.2) = true := by kernel_rfl
theorem low_ok (T : Tr (List Sum)) (C : Tr Ctr) : ∀ g, g < (envE T C).ng → (posOf g).val < nx0.val := by
  intro g hg
  have hg : g < 18 := hg
  rw [posOf_val, nx0, posOf_val]; omega
theorem gl_ok (T : Tr (List Sum)) (C : Tr Ctr) : ∀ b l, Tr.get b (envE T C).gl = some l → b.val < nx0.val ∧ allL (plainAV 6) l = true := by
  intro b l h
  obtain ⟨k, h1, rfl⟩ := trAt_get glL h
  have := List.all_eq_true.1 gl_plain _ h1
  simp only [Bool.and_eq_true, decide_eq_true_eq] at this
  refine ⟨?_, this.2⟩
  rw [posOf_val, nx0, posOf_val]; omega
/-- it holds of every call, whatever else is written down -/
def Holds (f : FuncId) (s : Sum) : Prop := ∀ T C, SumOk Tryz.prog (envE T C) f s
theorem holds_of {T : Tr (List Sum)} {C : Tr Ctr} (h : EnvOk2 Tryz.prog (envE T C)) {f : FuncId} {fn : Func} {s : Sum} (hs : isSum (envE T C) 100000000 nx0 f s = true) (hf : Tryz.prog.funcs[f]? = some fn) (hn : (fn.name == "runtime.NumGoroutine") = false) (hb : fn.body.isSome = true) : Holds f s := by
  intro T' C'
  obtain ⟨c, hc⟩ := Option.isSome_iff_exists.1 hb
  exact sum_ok h (low_ok T C) (gl_ok T C) hs rfl rfl ⟨fn, c, hf, by simpa using hn, hc⟩
theorem memos_ok (T : Tr (List Sum)) (C : Tr Ctr) {f : FuncId} {fn : Func} {l : List MEnt} (hf : Tryz.prog.funcs[f]? = some fn) (hn : (fn.name == "runtime.NumGoroutine") = false) (hb : fn.body.isSome = true) (hl : ∀ e ∈ l, MemoOk Tryz.prog 18 glT f e) : CtrOk Tryz.prog (envE T C) f (.memo l) :=
  let ⟨c, hc⟩ := Option.isSome_iff_exists.1 hb
  memo_ok ⟨fn, c, hf, hn, hc⟩ hl
theorem e0_ok : EnvOk2 Tryz.prog E0 := envE_ok (l := L0) (cl := ctL) (fun f m s h => by cases h) (fun f c h => by
    simp only [ctL, List.mem_cons, List.not_mem_nil, or_false, Prod.mk.injEq] at h
    rcases h with ⟨rfl, rfl⟩ | ⟨rfl, rfl⟩
    · exact keysCtr _
    · exact cutCtr _)
theorem s339_0_holds : Holds 339 s339_0 := holds_of e0_ok s339_0_is Tryz.func339 (by kernel_rfl) (by kernel_rfl)
theorem s339_1_holds : Holds 339 s339_1 := holds_of e0_ok s339_1_is Tryz.func339 (by kernel_rfl) (by kernel_rfl)
theorem s339_2_holds : Holds 339 s339_2 := holds_of e0_ok s339_2_is Tryz.func339 (by kernel_rfl) (by kernel_rfl)
theorem e1_ok : EnvOk2 Tryz.prog E1 := envE_ok (l := L1) (cl := ctL) (fun f m s h hs => by
    simp only [L1, List.mem_cons, List.not_mem_nil, or_false, Prod.mk.injEq] at h
    rcases h with ⟨rfl, rfl⟩
    · simp only [List.mem_cons, List.not_mem_nil, or_false] at hs
      rcases hs with rfl | rfl | rfl
      · exact s339_0_holds _ _
      · exact s339_1_holds _ _
      · exact s339_2_holds _ _) (fun f c h => by
    simp only [ctL, List.mem_cons, List.not_mem_nil, or_false, Prod.mk.injEq] at h
    rcases h with ⟨rfl, rfl⟩ | ⟨rfl, rfl⟩
    · exact keysCtr _
    · exact cutCtr _)
theorem s174_0_holds : Holds 174 s174_0 := holds_of e1_ok s174_0_is Tryz.func174 (by kernel_rfl) (by kernel_rfl)
theorem s174_1_holds : Holds 174 s174_1 := holds_of e1_ok s174_1_is Tryz.func174 (by kernel_rfl) (by kernel_rfl)
theorem e2_ok : EnvOk2 Tryz.prog E2 := envE_ok (l := L2) (cl := ctL) (fun f m s h hs => by
    simp only [L2, List.mem_cons, List.not_mem_nil, or_false, Prod.mk.injEq] at h
    rcases h with ⟨rfl, rfl⟩ | ⟨rfl, rfl⟩
    · simp only [List.mem_cons, List.not_mem_nil, or_false] at hs
      rcases hs with rfl | rfl | rfl
      · exact s339_0_holds _ _
      · exact s339_1_holds _ _
      · exact s339_2_holds _ _
    · simp only [List.mem_cons, List.not_mem_nil, or_false] at hs
      rcases hs with rfl | rfl
      · exact s174_0_holds _ _
      · exact s174_1_holds _ _) (fun f c h => by
    simp only [ctL, List.mem_cons, List.not_mem_nil, or_false, Prod.mk.injEq] at h
    rcases h with ⟨rfl, rfl⟩ | ⟨rfl, rfl⟩
    · exact keysCtr _
    · exact cutCtr _)
theorem s106_0_holds : Holds 106 s106_0 := holds_of e2_ok s106_0_is Tryz.func106 (by kernel_rfl) (by kernel_rfl)
theorem s106_1_holds : Holds 106 s106_1 := holds_of e2_ok s106_1_is Tryz.func106 (by kernel_rfl) (by kernel_rfl)
theorem e3_ok : EnvOk2 Tryz.prog E3 := envE_ok (l := L3) (cl := ctL) (fun f m s h hs => by
    simp only [L3, List.mem_cons, List.not_mem_nil, or_false, Prod.mk.injEq] at h
    rcases h with ⟨rfl, rfl⟩ | ⟨rfl, rfl⟩ | ⟨rfl, rfl⟩
    · simp only [List.mem_cons, List.not_mem_nil, or_false] at hs
      rcases hs with rfl | rfl | rfl
      · exact s339_0_holds _ _
      · exact s339_1_holds _ _
      · exact s339_2_holds _ _
    · simp only [List.mem_cons, List.not_mem_nil, or_false] at hs
      rcases hs with rfl | rfl
      · exact s174_0_holds _ _
      · exact s174_1_holds _ _
    · simp only [List.mem_cons, List.not_mem_nil, or_false] at hs
      rcases hs with rfl | rfl
      · exact s106_0_holds _ _
      · exact s106_1_holds _ _) (fun f c h => by
    simp only [ctL, List.mem_cons, List.not_mem_nil, or_false, Prod.mk.injEq] at h
    rcases h with ⟨rfl, rfl⟩ | ⟨rfl, rfl⟩
    · exact keysCtr _
    · exact cutCtr _)
theorem m8_ok : MemoOk Tryz.prog 18 glT 280 m8 := ⟨E3, 100000000, e3_ok, rfl, rfl, m8_is⟩
theorem u9_ok : EnvOk2 Tryz.prog U9 := envE_ok (l := L3) (cl := CL9) (fun f m s h hs => by
    simp only [L3, List.mem_cons, List.not_mem_nil, or_false, Prod.mk.injEq] at h
    rcases h with ⟨rfl, rfl⟩ | ⟨rfl, rfl⟩ | ⟨rfl, rfl⟩
    · simp only [List.mem_cons, List.not_mem_nil, or_false] at hs
      rcases hs with rfl | rfl | rfl
      · exact s339_0_holds _ _
      · exact s339_1_holds _ _
      · exact s339_2_holds _ _
    · simp only [List.mem_cons, List.not_mem_nil, or_false] at hs
      rcases hs with rfl | rfl
      · exact s174_0_holds _ _
      · exact s174_1_holds _ _
    · simp only [List.mem_cons, List.not_mem_nil, or_false] at hs
      rcases hs with rfl | rfl
      · exact s106_0_holds _ _
      · exact s106_1_holds _ _) (fun f c h => by
    simp only [CL9, List.mem_cons, List.not_mem_nil, or_false, Prod.mk.injEq] at h
    rcases h with ⟨rfl, rfl⟩ | ⟨rfl, rfl⟩ | ⟨rfl, rfl⟩
    · exact keysCtr _
    · exact cutCtr _
    · refine memos_ok _ _ Tryz.func280 (by kernel_rfl) (by kernel_rfl) fun e he => ?_
      simp only [List.mem_cons, List.not_mem_nil, or_false] at he
      subst he
      · exact m8_ok)
theorem s59_0_holds : Holds 59 s59_0 := holds_of e3_ok s59_0_is Tryz.func59 (by kernel_rfl) (by kernel_rfl)
theorem s59_1_holds : Holds 59 s59_1 := holds_of u9_ok s59_1_is Tryz.func59 (by kernel_rfl) (by kernel_rfl)
theorem e4_ok : EnvOk2 Tryz.prog E4 := envE_ok (l := L4) (cl := ctL) (fun f m s h hs => by
    simp only [L4, List.mem_cons, List.not_mem_nil, or_false, Prod.mk.injEq] at h
    rcases h with ⟨rfl, rfl⟩ | ⟨rfl, rfl⟩ | ⟨rfl, rfl⟩ | ⟨rfl, rfl⟩
    · simp only [List.mem_cons, List.not_mem_nil, or_false] at hs
      rcases hs with rfl | rfl | rfl
      · exact s339_0_holds _ _
      · exact s339_1_holds _ _
      · exact s339_2_holds _ _
    · simp only [List.mem_cons, List.not_mem_nil, or_false] at hs
      rcases hs with rfl | rfl
      · exact s174_0_holds _ _
      · exact s174_1_holds _ _
    · simp only [List.mem_cons, List.not_mem_nil, or_false] at hs
      rcases hs with rfl | rfl
      · exact s106_0_holds _ _
      · exact s106_1_holds _ _
    · simp only [List.mem_cons, List.not_mem_nil, or_false] at hs
      rcases hs with rfl | rfl
      · exact s59_0_holds _ _
      · exact s59_1_holds _ _) (fun f c h => by
    simp only [ctL, List.mem_cons, List.not_mem_nil, or_false, Prod.mk.injEq] at h
    rcases h with ⟨rfl, rfl⟩ | ⟨rfl, rfl⟩
    · exact keysCtr _
    · exact cutCtr _)
theorem s46_0_holds : Holds 46 s46_0 := holds_of e4_ok s46_0_is Tryz.func46 (by kernel_rfl) (by kernel_rfl)
theorem s46_1_holds : Holds 46 s46_1 := holds_of e4_ok s46_1_is Tryz.func46 (by kernel_rfl) (by kernel_rfl)
theorem e5_ok : EnvOk2 Tryz.prog E5 := envE_ok (l := L5) (cl := ctL) (fun f m s h hs => by
    simp only [L5, List.mem_cons, List.not_mem_nil, or_false, Prod.mk.injEq] at h
    rcases h with ⟨rfl, rfl⟩ | ⟨rfl, rfl⟩ | ⟨rfl, rfl⟩ | ⟨rfl, rfl⟩ | ⟨rfl, rfl⟩
    · simp only [List.mem_cons, List.not_mem_nil, or_false] at hs
      rcases hs with rfl | rfl | rfl
      · exact s339_0_holds _ _
      · exact s339_1_holds _ _
      · exact s339_2_holds _ _
    · simp only [List.mem_cons, List.not_mem_nil, or_false] at hs
      rcases hs with rfl | rfl
      · exact s174_0_holds _ _
      · exact s174_1_holds _ _
    · simp only [List.mem_cons, List.not_mem_nil, or_false] at hs
      rcases hs with rfl | rfl
      · exact s106_0_holds _ _
      · exact s106_1_holds _ _
    · simp only [List.mem_cons, List.not_mem_nil, or_false] at hs
      rcases hs with rfl | rfl
      · exact s59_0_holds _ _
      · exact s59_1_holds _ _
    · simp only [List.mem_cons, List.not_mem_nil, or_false] at hs
      rcases hs with rfl | rfl
      · exact s46_0_holds _ _
      · exact s46_1_holds _ _) (fun f c h => by
    simp only [ctL, List.mem_cons, List.not_mem_nil, or_false, Prod.mk.injEq] at h
    rcases h with ⟨rfl, rfl⟩ | ⟨rfl, rfl⟩
    · exact keysCtr _
    · exact cutCtr _)
theorem m12_ok : MemoOk Tryz.prog 18 glT 114 m12 := ⟨E5, 100000000, e5_ok, rfl, rfl, m12_is⟩
theorem m13_ok : MemoOk Tryz.prog 18 glT 114 m13 := ⟨E5, 100000000, e5_ok, rfl, rfl, m13_is⟩
theorem m14_ok : MemoOk Tryz.prog 18 glT 114 m14 := ⟨E5, 100000000, e5_ok, rfl, rfl, m14_is⟩
theorem m15_ok : MemoOk Tryz.prog 18 glT 114 m15 := ⟨E5, 100000000, e5_ok, rfl, rfl, m15_is⟩
theorem m16_ok : MemoOk Tryz.prog 18 glT 114 m16 := ⟨E5, 100000000, e5_ok, rfl, rfl, m16_is⟩
theorem m17_ok : MemoOk Tryz.prog 18 glT 114 m17 := ⟨E5, 100000000, e5_ok, rfl, rfl, m17_is⟩
theorem u18_ok : EnvOk2 Tryz.prog U18 := envE_ok (l := L5) (cl := CL18) (fun f m s h hs => by
    simp only [L5, List.mem_cons, List.not_mem_nil, or_false, Prod.mk.injEq] at h
    rcases h with ⟨rfl, rfl⟩ | ⟨rfl, rfl⟩ | ⟨rfl, rfl⟩ | ⟨rfl, rfl⟩ | ⟨rfl, rfl⟩
    · simp only [List.mem_cons, List.not_mem_nil, or_false] at hs
      rcases hs with rfl | rfl | rfl
      · exact s339_0_holds _ _
      · exact s339_1_holds _ _
      · exact s339_2_holds _ _
    · simp only [List.mem_cons, List.not_mem_nil, or_false] at hs
      rcases hs with rfl | rfl
      · exact s174_0_holds _ _
      · exact s174_1_holds _ _
    · simp only [List.mem_cons, List.not_mem_nil, or_false] at hs
      rcases hs with rfl | rfl
      · exact s106_0_holds _ _
      · exact s106_1_holds _ _
    · simp only [List.mem_cons, List.not_mem_nil, or_false] at hs
      rcases hs with rfl | rfl
      · exact s59_0_holds _ _
      · exact s59_1_holds _ _
    · simp only [List.mem_cons, List.not_mem_nil, or_false] at hs
      rcases hs with rfl | rfl
      · exact s46_0_holds _ _
      · exact s46_1_holds _ _) (fun f c h => by
    simp only [CL18, List.mem_cons, List.not_mem_nil, or_false, Prod.mk.injEq] at h
    rcases h with ⟨rfl, rfl⟩ | ⟨rfl, rfl⟩ | ⟨rfl, rfl⟩
    · exact keysCtr _
    · exact cutCtr _
    · refine memos_ok _ _ Tryz.func114 (by kernel_rfl) (by kernel_rfl) fun e he => ?_
      simp only [List.mem_cons, List.not_mem_nil, or_false] at he
      rcases he with rfl | rfl | rfl | rfl | rfl | rfl
      · exact m12_ok
      · exact m13_ok
      · exact m14_ok
      · exact m15_ok
      · exact m16_ok
      · exact m17_ok)
theorem m18_ok : MemoOk Tryz.prog 18 glT 102 m18 := ⟨U18, 100000000, u18_ok, rfl, rfl, m18_is⟩
theorem m19_ok : MemoOk Tryz.prog 18 glT 49 m19 := ⟨E5, 100000000, e5_ok, rfl, rfl, m19_is⟩
theorem m20_ok : MemoOk Tryz.prog 18 glT 49 m20 := ⟨E5, 100000000, e5_ok, rfl, rfl, m20_is⟩
theorem m21_ok : MemoOk Tryz.prog 18 glT 49 m21 := ⟨E5, 100000000, e5_ok, rfl, rfl, m21_is⟩
theorem m22_ok : MemoOk Tryz.prog 18 glT 49 m22 := ⟨E5, 100000000, e5_ok, rfl, rfl, m22_is⟩
theorem m23_ok : MemoOk Tryz.prog 18 glT 49 m23 := ⟨E5, 100000000, e5_ok, rfl, rfl, m23_is⟩
theorem m24_ok : MemoOk Tryz.prog 18 glT 49 m24 := ⟨E5, 100000000, e5_ok, rfl, rfl, m24_is⟩
theorem m25_ok : MemoOk Tryz.prog 18 glT 49 m25 := ⟨E5, 100000000, e5_ok, rfl, rfl, m25_is⟩
theorem m26_ok : MemoOk Tryz.prog 18 glT 49 m26 := ⟨E5, 100000000, e5_ok, rfl, rfl, m26_is⟩
theorem m27_ok : MemoOk Tryz.prog 18 glT 49 m27 := ⟨E5, 100000000, e5_ok, rfl, rfl, m27_is⟩
theorem m28_ok : MemoOk Tryz.prog 18 glT 49 m28 := ⟨E5, 100000000, e5_ok, rfl, rfl, m28_is⟩
theorem m29_ok : MemoOk Tryz.prog 18 glT 49 m29 := ⟨E5, 100000000, e5_ok, rfl, rfl, m29_is⟩
theorem m30_ok : MemoOk Tryz.prog 18 glT 49 m30 := ⟨E5, 100000000, e5_ok, rfl, rfl, m30_is⟩
theorem m31_ok : MemoOk Tryz.prog 18 glT 49 m31 := ⟨E5, 100000000, e5_ok, rfl, rfl, m31_is⟩
theorem m32_ok : MemoOk Tryz.prog 18 glT 49 m32 := ⟨E5, 100000000, e5_ok, rfl, rfl, m32_is⟩
theorem u33_ok : EnvOk2 Tryz.prog U33 := envE_ok (l := L5) (cl := CL33) (fun f m s h hs => by
    simp only [L5, List.mem_cons, List.not_mem_nil, or_false, Prod.mk.injEq] at h
    rcases h with ⟨rfl, rfl⟩ | ⟨rfl, rfl⟩ | ⟨rfl, rfl⟩ | ⟨rfl, rfl⟩ | ⟨rfl, rfl⟩
    · simp only [List.mem_cons, List.not_mem_nil, or_false] at hs
      rcases hs with rfl | rfl | rfl
      · exact s339_0_holds _ _
      · exact s339_1_holds _ _
      · exact s339_2_holds _ _
    · simp only [List.mem_cons, List.not_mem_nil, or_false] at hs
      rcases hs with rfl | rfl
      · exact s174_0_holds _ _
      · exact s174_1_holds _ _
    · simp only [List.mem_cons, List.not_mem_nil, or_false] at hs
      rcases hs with rfl | rfl
      · exact s106_0_holds _ _
      · exact s106_1_holds _ _
    · simp only [List.mem_cons, List.not_mem_nil, or_false] at hs
      rcases hs with rfl | rfl
      · exact s59_0_holds _ _
      · exact s59_1_holds _ _
    · simp only [List.mem_cons, List.not_mem_nil, or_false] at hs
      rcases hs with rfl | rfl
      · exact s46_0_holds _ _
      · exact s46_1_holds _ _) (fun f c h => by
    simp only [CL33, List.mem_cons, List.not_mem_nil, or_false, Prod.mk.injEq] at h
    rcases h with ⟨rfl, rfl⟩ | ⟨rfl, rfl⟩ | ⟨rfl, rfl⟩ | ⟨rfl, rfl⟩
    · exact keysCtr _
    · exact cutCtr _
    · refine memos_ok _ _ Tryz.func102 (by kernel_rfl) (by kernel_rfl) fun e he => ?_
      simp only [List.mem_cons, List.not_mem_nil, or_false] at he
      subst he
      · exact m18_ok
    · refine memos_ok _ _ Tryz.func49 (by kernel_rfl) (by kernel_rfl) fun e he => ?_
      simp only [List.mem_cons, List.not_mem_nil, or_false] at he
      rcases he with rfl | rfl | rfl | rfl | rfl | rfl | rfl | rfl | rfl | rfl | rfl | rfl | rfl | rfl
      · exact m19_ok
      · exact m20_ok
      · exact m21_ok
      · exact m22_ok
      · exact m23_ok
      · exact m24_ok
      · exact m25_ok
      · exact m26_ok
      · exact m27_ok
      · exact m28_ok
      · exact m29_ok
      · exact m30_ok
      · exact m31_ok
      · exact m32_ok)
theorem m33_ok : MemoOk Tryz.prog 18 glT 47 m33 := ⟨U33, 100000000, u33_ok, rfl, rfl, m33_is⟩
theorem m34_ok : MemoOk Tryz.prog 18 glT 22 m34 := ⟨E5, 100000000, e5_ok, rfl, rfl, m34_is⟩
theorem m35_ok : MemoOk Tryz.prog 18 glT 49 m35 := ⟨E5, 100000000, e5_ok, rfl, rfl, m35_is⟩
theorem m36_ok : MemoOk Tryz.prog 18 glT 49 m36 := ⟨E5, 100000000, e5_ok, rfl, rfl, m36_is⟩
theorem m37_ok : MemoOk Tryz.prog 18 glT 49 m37 := ⟨E5, 100000000, e5_ok, rfl, rfl, m37_is⟩
theorem m38_ok : MemoOk Tryz.prog 18 glT 49 m38 := ⟨E5, 100000000, e5_ok, rfl, rfl, m38_is⟩
theorem m39_ok : MemoOk Tryz.prog 18 glT 49 m39 := ⟨E5, 100000000, e5_ok, rfl, rfl, m39_is⟩
theorem m40_ok : MemoOk Tryz.prog 18 glT 49 m40 := ⟨E5, 100000000, e5_ok, rfl, rfl, m40_is⟩
theorem m41_ok : MemoOk Tryz.prog 18 glT 49 m41 := ⟨E5, 100000000, e5_ok, rfl, rfl, m41_is⟩
theorem m42_ok : MemoOk Tryz.prog 18 glT 49 m42 := ⟨E5, 100000000, e5_ok, rfl, rfl, m42_is⟩
theorem u43_ok : EnvOk2 Tryz.prog U43 := envE_ok (l := L5) (cl := CL43) (fun f m s h hs => by
    simp only [L5, List.mem_cons, List.not_mem_nil, or_false, Prod.mk.injEq] at h
    rcases h with ⟨rfl, rfl⟩ | ⟨rfl, rfl⟩ | ⟨rfl, rfl⟩ | ⟨rfl, rfl⟩ | ⟨rfl, rfl⟩
    · simp only [List.mem_cons, List.not_mem_nil, or_false] at hs
      rcases hs with rfl | rfl | rfl
      · exact s339_0_holds _ _
      · exact s339_1_holds _ _
      · exact s339_2_holds _ _
    · simp only [List.mem_cons, List.not_mem_nil, or_false] at hs
      rcases hs with rfl | rfl
      · exact s174_0_holds _ _
      · exact s174_1_holds _ _
    · simp only [List.mem_cons, List.not_mem_nil, or_false] at hs
      rcases hs with rfl | rfl
      · exact s106_0_holds _ _
      · exact s106_1_holds _ _
    · simp only [List.mem_cons, List.not_mem_nil, or_false] at hs
      rcases hs with rfl | rfl
      · exact s59_0_holds _ _
      · exact s59_1_holds _ _
    · simp only [List.mem_cons, List.not_mem_nil, or_false] at hs
      rcases hs with rfl | rfl
      · exact s46_0_holds _ _
      · exact s46_1_holds _ _) (fun f c h => by
    simp only [CL43, List.mem_cons, List.not_mem_nil, or_false, Prod.mk.injEq] at h
    rcases h with ⟨rfl, rfl⟩ | ⟨rfl, rfl⟩ | ⟨rfl, rfl⟩ | ⟨rfl, rfl⟩
    · exact keysCtr _
    · exact cutCtr _
    · refine memos_ok _ _ Tryz.func22 (by kernel_rfl) (by kernel_rfl) fun e he => ?_
      simp only [List.mem_cons, List.not_mem_nil, or_false] at he
      subst he
      · exact m34_ok
    · refine memos_ok _ _ Tryz.func49 (by kernel_rfl) (by kernel_rfl) fun e he => ?_
      simp only [List.mem_cons, List.not_mem_nil, or_false] at he
      rcases he with rfl | rfl | rfl | rfl | rfl | rfl | rfl | rfl
      · exact m35_ok
      · exact m36_ok
      · exact m37_ok
      · exact m38_ok
      · exact m39_ok
      · exact m40_ok
      · exact m41_ok
      · exact m42_ok)
theorem m43_ok : MemoOk Tryz.prog 18 glT 50 m43 := ⟨U43, 100000000, u43_ok, rfl, rfl, m43_is⟩
theorem m44_ok : MemoOk Tryz.prog 18 glT 22 m44 := ⟨E5, 100000000, e5_ok, rfl, rfl, m44_is⟩
theorem m45_ok : MemoOk Tryz.prog 18 glT 49 m45 := ⟨E5, 100000000, e5_ok, rfl, rfl, m45_is⟩
theorem m46_ok : MemoOk Tryz.prog 18 glT 49 m46 := ⟨E5, 100000000, e5_ok, rfl, rfl, m46_is⟩
theorem m47_ok : MemoOk Tryz.prog 18 glT 49 m47 := ⟨E5, 100000000, e5_ok, rfl, rfl, m47_is⟩
theorem m48_ok : MemoOk Tryz.prog 18 glT 49 m48 := ⟨E5, 100000000, e5_ok, rfl, rfl, m48_is⟩
theorem m49_ok : MemoOk Tryz.prog 18 glT 49 m49 := ⟨E5, 100000000, e5_ok, rfl, rfl, m49_is⟩
theorem m50_ok : MemoOk Tryz.prog 18 glT 49 m50 := ⟨E5, 100000000, e5_ok, rfl, rfl, m50_is⟩
theorem m51_ok : MemoOk Tryz.prog 18 glT 49 m51 := ⟨E5, 100000000, e5_ok, rfl, rfl, m51_is⟩
theorem u52_ok : EnvOk2 Tryz.prog U52 := envE_ok (l := L5) (cl := CL52) (fun f m s h hs => by
    simp only [L5, List.mem_cons, List.not_mem_nil, or_false, Prod.mk.injEq] at h
    rcases h with ⟨rfl, rfl⟩ | ⟨rfl, rfl⟩ | ⟨rfl, rfl⟩ | ⟨rfl, rfl⟩ | ⟨rfl, rfl⟩
    · simp only [List.mem_cons, List.not_mem_nil, or_false] at hs
      rcases hs with rfl | rfl | rfl
      · exact s339_0_holds _ _
      · exact s339_1_holds _ _
      · exact s339_2_holds _ _
    · simp only [List.mem_cons, List.not_mem_nil, or_false] at hs
      rcases hs with rfl | rfl
      · exact s174_0_holds _ _
      · exact s174_1_holds _ _
    · simp only [List.mem_cons, List.not_mem_nil, or_false] at hs
      rcases hs with rfl | rfl
      · exact s106_0_holds _ _
      · exact s106_1_holds _ _
    · simp only [List.mem_cons, List.not_mem_nil, or_false] at hs
      rcases hs with rfl | rfl
      · exact s59_0_holds _ _
      · exact s59_1_holds _ _
    · simp only [List.mem_cons, List.not_mem_nil, or_false] at hs
      rcases hs with rfl | rfl
      · exact s46_0_holds _ _
      · exact s46_1_holds _ _) (fun f c h => by
    simp only [CL52, List.mem_cons, List.not_mem_nil, or_false, Prod.mk.injEq] at h
    rcases h with ⟨rfl, rfl⟩ | ⟨rfl, rfl⟩ | ⟨rfl, rfl⟩ | ⟨rfl, rfl⟩
    · exact keysCtr _
    · exact cutCtr _
    · refine memos_ok _ _ Tryz.func22 (by kernel_rfl) (by kernel_rfl) fun e he => ?_
      simp only [List.mem_cons, List.not_mem_nil, or_false] at he
      subst he
      · exact m44_ok
    · refine memos_ok _ _ Tryz.func49 (by kernel_rfl) (by kernel_rfl) fun e he => ?_
      simp only [List.mem_cons, List.not_mem_nil, or_false] at he
      rcases he with rfl | rfl | rfl | rfl | rfl | rfl | rfl
      · exact m45_ok
      · exact m46_ok
      · exact m47_ok
      · exact m48_ok
      · exact m49_ok
      · exact m50_ok
      · exact m51_ok)
theorem m52_ok : MemoOk Tryz.prog 18 glT 50 m52 := ⟨U52, 100000000, u52_ok, rfl, rfl, m52_is⟩
theorem m53_ok : MemoOk Tryz.prog 18 glT 22 m53 := ⟨E5, 100000000, e5_ok, rfl, rfl, m53_is⟩
theorem m54_ok : MemoOk Tryz.prog 18 glT 62 m54 := ⟨E5, 100000000, e5_ok, rfl, rfl, m54_is⟩
theorem m55_ok : MemoOk Tryz.prog 18 glT 62 m55 := ⟨E5, 100000000, e5_ok, rfl, rfl, m55_is⟩
theorem u56_ok : EnvOk2 Tryz.prog U56 := envE_ok (l := L5) (cl := CL56) (fun f m s h hs => by
    simp only [L5, List.mem_cons, List.not_mem_nil, or_false, Prod.mk.injEq] at h
    rcases h with ⟨rfl, rfl⟩ | ⟨rfl, rfl⟩ | ⟨rfl, rfl⟩ | ⟨rfl, rfl⟩ | ⟨rfl, rfl⟩
    · simp only [List.mem_cons, List.not_mem_nil, or_false] at hs
      rcases hs with rfl | rfl | rfl
      · exact s339_0_holds _ _
      · exact s339_1_holds _ _
      · exact s339_2_holds _ _
    · simp only [List.mem_cons, List.not_mem_nil, or_false] at hs
      rcases hs with rfl | rfl
      · exact s174_0_holds _ _
      · exact s174_1_holds _ _
    · simp only [List.mem_cons, List.not_mem_nil, or_false] at hs
      rcases hs with rfl | rfl
      · exact s106_0_holds _ _
      · exact s106_1_holds _ _
    · simp only [List.mem_cons, List.not_mem_nil, or_false] at hs
      rcases hs with rfl | rfl
      · exact s59_0_holds _ _
      · exact s59_1_holds _ _
    · simp only [List.mem_cons, List.not_mem_nil, or_false] at hs
      rcases hs with rfl | rfl
      · exact s46_0_holds _ _
      · exact s46_1_holds _ _) (fun f c h => by
    simp only [CL56, List.mem_cons, List.not_mem_nil, or_false, Prod.mk.injEq] at h
    rcases h with ⟨rfl, rfl⟩ | ⟨rfl, rfl⟩ | ⟨rfl, rfl⟩ | ⟨rfl, rfl⟩
    · exact keysCtr _
    · exact cutCtr _
    · refine memos_ok _ _ Tryz.func22 (by kernel_rfl) (by kernel_rfl) fun e he => ?_
      simp only [List.mem_cons, List.not_mem_nil, or_false] at he
      subst he
      · exact m53_ok
    · refine memos_ok _ _ Tryz.func62 (by kernel_rfl) (by kernel_rfl) fun e he => ?_
      simp only [List.mem_cons, List.not_mem_nil, or_false] at he
      rcases he with rfl | rfl
      · exact m54_ok
      · exact m55_ok)
theorem m56_ok : MemoOk Tryz.prog 18 glT 48 m56 := ⟨U56, 100000000, u56_ok, rfl, rfl, m56_is⟩
theorem m57_ok : MemoOk Tryz.prog 18 glT 22 m57 := ⟨E5, 100000000, e5_ok, rfl, rfl, m57_is⟩
theorem m58_ok : MemoOk Tryz.prog 18 glT 62 m58 := ⟨E5, 100000000, e5_ok, rfl, rfl, m58_is⟩
theorem m59_ok : MemoOk Tryz.prog 18 glT 62 m59 := ⟨E5, 100000000, e5_ok, rfl, rfl, m59_is⟩
theorem u60_ok : EnvOk2 Tryz.prog U60 := envE_ok (l := L5) (cl := CL60) (fun f m s h hs => by
    simp only [L5, List.mem_cons, List.not_mem_nil, or_false, Prod.mk.injEq] at h
    rcases h with ⟨rfl, rfl⟩ | ⟨rfl, rfl⟩ | ⟨rfl, rfl⟩ | ⟨rfl, rfl⟩ | ⟨rfl, rfl⟩
    · simp only [List.mem_cons, List.not_mem_nil, or_false] at hs
      rcases hs with rfl | rfl | rfl
      · exact s339_0_holds _ _
      · exact s339_1_holds _ _
      · exact s339_2_holds _ _
    · simp only [List.mem_cons, List.not_mem_nil, or_false] at hs
      rcases hs with rfl | rfl
      · exact s174_0_holds _ _
      · exact s174_1_holds _ _
    · simp only [List.mem_cons, List.not_mem_nil, or_false] at hs
      rcases hs with rfl | rfl
      · exact s106_0_holds _ _
      · exact s106_1_holds _ _
    · simp only [List.mem_cons, List.not_mem_nil, or_false] at hs
      rcases hs with rfl | rfl
      · exact s59_0_holds _ _
      · exact s59_1_holds _ _
    · simp only [List.mem_cons, List.not_mem_nil, or_false] at hs
      rcases hs with rfl | rfl
      · exact s46_0_holds _ _
      · exact s46_1_holds _ _) (fun f c h => by
    simp only [CL60, List.mem_cons, List.not_mem_nil, or_false, Prod.mk.injEq] at h
    rcases h with ⟨rfl, rfl⟩ | ⟨rfl, rfl⟩ | ⟨rfl, rfl⟩ | ⟨rfl, rfl⟩
    · exact keysCtr _
    · exact cutCtr _
    · refine memos_ok _ _ Tryz.func22 (by kernel_rfl) (by kernel_rfl) fun e he => ?_
      simp only [List.mem_cons, List.not_mem_nil, or_false] at he
      subst he
      · exact m57_ok
    · refine memos_ok _ _ Tryz.func62 (by kernel_rfl) (by kernel_rfl) fun e he => ?_
      simp only [List.mem_cons, List.not_mem_nil, or_false] at he
      rcases he with rfl | rfl
      · exact m58_ok
      · exact m59_ok)
theorem m60_ok : MemoOk Tryz.prog 18 glT 48 m60 := ⟨U60, 100000000, u60_ok, rfl, rfl, m60_is⟩
theorem m61_ok : MemoOk Tryz.prog 18 glT 22 m61 := ⟨E5, 100000000, e5_ok, rfl, rfl, m61_is⟩
theorem m62_ok : MemoOk Tryz.prog 18 glT 62 m62 := ⟨E5, 100000000, e5_ok, rfl, rfl, m62_is⟩
theorem m63_ok : MemoOk Tryz.prog 18 glT 62 m63 := ⟨E5, 100000000, e5_ok, rfl, rfl, m63_is⟩
theorem u64_ok : EnvOk2 Tryz.prog U64 := envE_ok (l := L5) (cl := CL64) (fun f m s h hs => by
    simp only [L5, List.mem_cons, List.not_mem_nil, or_false, Prod.mk.injEq] at h
    rcases h with ⟨rfl, rfl⟩ | ⟨rfl, rfl⟩ | ⟨rfl, rfl⟩ | ⟨rfl, rfl⟩ | ⟨rfl, rfl⟩
    · simp only [List.mem_cons, List.not_mem_nil, or_false] at hs
      rcases hs with rfl | rfl | rfl
      · exact s339_0_holds _ _
      · exact s339_1_holds _ _
      · exact s339_2_holds _ _
    · simp only [List.mem_cons, List.not_mem_nil, or_false] at hs
      rcases hs with rfl | rfl
      · exact s174_0_holds _ _
      · exact s174_1_holds _ _
    · simp only [List.mem_cons, List.not_mem_nil, or_false] at hs
      rcases hs with rfl | rfl
      · exact s106_0_holds _ _
      · exact s106_1_holds _ _
    · simp only [List.mem_cons, List.not_mem_nil, or_false] at hs
      rcases hs with rfl | rfl
      · exact s59_0_holds _ _
      · exact s59_1_holds _ _
    · simp only [List.mem_cons, List.not_mem_nil, or_false] at hs
      rcases hs with rfl | rfl
      · exact s46_0_holds _ _
      · exact s46_1_holds _ _) (fun f c h => by
    simp only [CL64, List.mem_cons, List.not_mem_nil, or_false, Prod.mk.injEq] at h
    rcases h with ⟨rfl, rfl⟩ | ⟨rfl, rfl⟩ | ⟨rfl, rfl⟩ | ⟨rfl, rfl⟩
    · exact keysCtr _
    · exact cutCtr _
    · refine memos_ok _ _ Tryz.func22 (by kernel_rfl) (by kernel_rfl) fun e he => ?_
      simp only [List.mem_cons, List.not_mem_nil, or_false] at he
      subst he
      · exact m61_ok
    · refine memos_ok _ _ Tryz.func62 (by kernel_rfl) (by kernel_rfl) fun e he => ?_
      simp only [List.mem_cons, List.not_mem_nil, or_false] at he
      rcases he with rfl | rfl
      · exact m62_ok
      · exact m63_ok)
theorem m64_ok : MemoOk Tryz.prog 18 glT 48 m64 := ⟨U64, 100000000, u64_ok, rfl, rfl, m64_is⟩
theorem u65_ok : EnvOk2 Tryz.prog U65 := envE_ok (l := L5) (cl := CL65) (fun f m s h hs => by
    simp only [L5, List.mem_cons, List.not_mem_nil, or_false, Prod.mk.injEq] at h
    rcases h with ⟨rfl, rfl⟩ | ⟨rfl, rfl⟩ | ⟨rfl, rfl⟩ | ⟨rfl, rfl⟩ | ⟨rfl, rfl⟩
    · simp only [List.mem_cons, List.not_mem_nil, or_false] at hs
      rcases hs with rfl | rfl | rfl
      · exact s339_0_holds _ _
      · exact s339_1_holds _ _
      · exact s339_2_holds _ _
    · simp only [List.mem_cons, List.not_mem_nil, or_false] at hs
      rcases hs with rfl | rfl
      · exact s174_0_holds _ _
      · exact s174_1_holds _ _
    · simp only [List.mem_cons, List.not_mem_nil, or_false] at hs
      rcases hs with rfl | rfl
      · exact s106_0_holds _ _
      · exact s106_1_holds _ _
    · simp only [List.mem_cons, List.not_mem_nil, or_false] at hs
      rcases hs with rfl | rfl
      · exact s59_0_holds _ _
      · exact s59_1_holds _ _
    · simp only [List.mem_cons, List.not_mem_nil, or_false] at hs
      rcases hs with rfl | rfl
      · exact s46_0_holds _ _
      · exact s46_1_holds _ _) (fun f c h => by
    simp only [CL65, List.mem_cons, List.not_mem_nil, or_false, Prod.mk.injEq] at h
    rcases h with ⟨rfl, rfl⟩ | ⟨rfl, rfl⟩ | ⟨rfl, rfl⟩ | ⟨rfl, rfl⟩ | ⟨rfl, rfl⟩
    · exact keysCtr _
    · exact cutCtr _
    · refine memos_ok _ _ Tryz.func47 (by kernel_rfl) (by kernel_rfl) fun e he => ?_
      simp only [List.mem_cons, List.not_mem_nil, or_false] at he
      subst he
      · exact m33_ok
    · refine memos_ok _ _ Tryz.func50 (by kernel_rfl) (by kernel_rfl) fun e he => ?_
      simp only [List.mem_cons, List.not_mem_nil, or_false] at he
      rcases he with rfl | rfl
      · exact m43_ok
      · exact m52_ok
    · refine memos_ok _ _ Tryz.func48 (by kernel_rfl) (by kernel_rfl) fun e he => ?_
      simp only [List.mem_cons, List.not_mem_nil, or_false] at he
      rcases he with rfl | rfl | rfl
      · exact m56_ok
      · exact m60_ok
      · exact m64_ok)
end Go.Ev
