/- The tables are right: what the evaluator takes of the program is the program's. -/
import Derived.Test.YtacbdljjlcbdlaaGreatDoorVEvTab
import Derived.Test.YtacbdljjlcbdlaaGreatDoorEvMemo
import Derived.Test.YtacbdljjlcbdlaaGreatDoorVEvK0
import Derived.Test.YtacbdljjlcbdlaaGreatDoorVEvK1
import Derived.Test.YtacbdljjlcbdlaaGreatDoorVEvK2
import Derived.Test.YtacbdljjlcbdlaaGreatDoorVEvK3
import Derived.Test.YtacbdljjlcbdlaaGreatDoorVEvK4
set_option linter.unusedVariables false
set_option linter.unusedSimpArgs false
namespace Go.Ev
open Go.Proofs
set_option maxRecDepth 100000
theorem x149_ok (E : Env) : ExtOk Tryz.prog E 149 (.store) := ext_ok Tryz.func149 (by kernel_rfl) (by kernel_rfl) (by kernel_rfl) (show Extern.find Tryz.f149 = some (Extern.Atomic.storeT) by kernel_rfl)
theorem x150_ok (E : Env) : ExtOk Tryz.prog E 150 (.load .i64) := ext_ok Tryz.func150 (by kernel_rfl) (by kernel_rfl) (by kernel_rfl) (show Extern.find Tryz.f150 = some (Extern.Atomic.loadT (.int .i64)) by kernel_rfl)
theorem x169_ok (E : Env) : ExtOk Tryz.prog E 169 (.add .i64) := ext_ok Tryz.func169 (by kernel_rfl) (by kernel_rfl) (by kernel_rfl) (show Extern.find Tryz.f169 = some (Extern.Atomic.update (Op.intArith .add) .i64 true) by kernel_rfl)
theorem x329_ok (E : Env) : ExtOk Tryz.prog E 329 (.count) := ext_ok Tryz.func329 (by kernel_rfl) (by kernel_rfl) (by kernel_rfl) (show Extern.find Tryz.f329 = some (Extern.BytealgCount.count) by kernel_rfl)
theorem x385_ok (E : Env) : ExtOk Tryz.prog E 385 (.same) := ext_ok Tryz.func385 (by kernel_rfl) (by kernel_rfl) (by kernel_rfl) (show Extern.find Tryz.f385 = some (Extern.AbiNoEscape.same) by kernel_rfl)
theorem x435_ok (E : Env) : ExtOk Tryz.prog E 435 (.store) := ext_ok Tryz.func435 (by kernel_rfl) (by kernel_rfl) (by kernel_rfl) (show Extern.find Tryz.f435 = some (Extern.Atomic.storeT) by kernel_rfl)
theorem x443_ok (E : Env) : ExtOk Tryz.prog E 443 (.mknz 5) := ext_ok Tryz.func443 (by kernel_rfl) (by kernel_rfl) (by kernel_rfl) ⟨_, _, (show Extern.find Tryz.f443 = some (Extern.BytealgMakeNoZero.makeNoZero #[3] #[362]) by kernel_rfl), Tryz.underlying362⟩
theorem x448_ok (E : Env) : ExtOk Tryz.prog E 448 (.idxByte) := ext_ok Tryz.func448 (by kernel_rfl) (by kernel_rfl) (by kernel_rfl) (show Extern.find Tryz.f448 = some (Extern.BytealgIndexByte.indexByte) by kernel_rfl)
theorem x481_ok (E : Env) : ExtOk Tryz.prog E 481 (.load .u32) := ext_ok Tryz.func481 (by kernel_rfl) (by kernel_rfl) (by kernel_rfl) (show Extern.find Tryz.f481 = some (Extern.Atomic.loadT (.int .u32)) by kernel_rfl)
theorem x525_ok (E : Env) : ExtOk Tryz.prog E 525 (.store) := ext_ok Tryz.func525 (by kernel_rfl) (by kernel_rfl) (by kernel_rfl) (show Extern.find Tryz.f525 = some (Extern.Atomic.storeT) by kernel_rfl)
theorem x553_ok (E : Env) : ExtOk Tryz.prog E 553 (.nop0) := ext_ok Tryz.func553 (by kernel_rfl) (by kernel_rfl) (by kernel_rfl) ⟨.disable, by kernel_rfl⟩
theorem x554_ok (E : Env) : ExtOk Tryz.prog E 554 (.cas .i32) := ext_ok Tryz.func554 (by kernel_rfl) (by kernel_rfl) (by kernel_rfl) (show Extern.find Tryz.f554 = some (Extern.Atomic.casT (.int .i32)) by kernel_rfl)
theorem x555_ok (E : Env) : ExtOk Tryz.prog E 555 (.nop0) := ext_ok Tryz.func555 (by kernel_rfl) (by kernel_rfl) (by kernel_rfl) ⟨.enable, by kernel_rfl⟩
theorem x556_ok (E : Env) : ExtOk Tryz.prog E 556 (.nop1) := ext_ok Tryz.func556 (by kernel_rfl) (by kernel_rfl) (by kernel_rfl) ⟨.acquire, by kernel_rfl⟩
theorem x558_ok (E : Env) : ExtOk Tryz.prog E 558 (.nop1) := ext_ok Tryz.func558 (by kernel_rfl) (by kernel_rfl) (by kernel_rfl) ⟨.releaseMerge, by kernel_rfl⟩
theorem x559_ok (E : Env) : ExtOk Tryz.prog E 559 (.add .i32) := ext_ok Tryz.func559 (by kernel_rfl) (by kernel_rfl) (by kernel_rfl) (show Extern.find Tryz.f559 = some (Extern.Atomic.update (Op.intArith .add) .i32 true) by kernel_rfl)
theorem names_ok : (Tryz.prog.funcs.toList.all fun f => !(f.name == "runtime.NumGoroutine")) = true := by kernel_rfl
theorem held_ok : (heL.all fun t => !(Tryz.prog.stoodInHeld t.1)) = true := by kernel_rfl
theorem eqg_ok : (heL.all fun t => !(Tryz.prog.eqGuardType Tryz.prog.depth t.1)) = true := by kernel_rfl
theorem mixed_ok : Tryz.prog.follows .mixedOrders = true := by kernel_rfl
theorem envE_ok {l : List (Nat × List Sum)} {cl : List (Nat × Ctr)} (hs : ∀ f m s, (f, m) ∈ l → s ∈ m → SumOk Tryz.prog (envE (trAt l) (trAt cl)) f s) (hc : ∀ f c, (f, c) ∈ cl → CtrOk Tryz.prog (envE (trAt l) (trAt cl)) f c) : EnvOk2 Tryz.prog (envE (trAt l) (trAt cl)) := by
  refine env_ok (tys := Tryz.prog.types.toList) (fns := Tryz.prog.funcs.toList) (exs := exL) (hel := heL) (eqs := heL) (sums := l) (ctrs := cl) rfl rfl rfl rfl rfl rfl rfl rfl rfl names_ok held_ok eqg_ok mixed_ok ?_ hs hc
  intro f x h
  simp only [exL, List.mem_cons, List.not_mem_nil, or_false, Prod.mk.injEq] at h
  rcases h with ⟨rfl, rfl⟩ | ⟨rfl, rfl⟩ | ⟨rfl, rfl⟩ | ⟨rfl, rfl⟩ | ⟨rfl, rfl⟩ | ⟨rfl, rfl⟩ | ⟨rfl, rfl⟩ | ⟨rfl, rfl⟩ | ⟨rfl, rfl⟩ | ⟨rfl, rfl⟩ | ⟨rfl, rfl⟩ | ⟨rfl, rfl⟩ | ⟨rfl, rfl⟩ | ⟨rfl, rfl⟩ | ⟨rfl, rfl⟩ | ⟨rfl, rfl⟩
  · exact x149_ok _
  · exact x150_ok _
  · exact x169_ok _
  · exact x329_ok _
  · exact x385_ok _
  · exact x435_ok _
  · exact x443_ok _
  · exact x448_ok _
  · exact x481_ok _
  · exact x525_ok _
  · exact x553_ok _
  · exact x554_ok _
  · exact x555_ok _
  · exact x556_ok _
  · exact x558_ok _
  · exact x559_ok _
theorem gl_plain : (glL.all fun x => decide (x.1 < 18) && allL (plainAV 6) x.2) = true := by kernel_rfl
theorem low_ok (T : Tr (List Sum)) (C : Tr Ctr) : ∀ g, g < (envE T C).ng → (posOf g).val < nx0.val := by
  intro g hg
  have hg : g < 18 := hg
  rw [posOf_val, nx0, posOf_val]; omega
theorem gl_ok (T : Tr (List Sum)) (C : Tr Ctr) : ∀ b l, Tr.get b (envE T C).gl = some l → b.val < nx0.val ∧ allL (plainAV 6) l = true := by
  intro b l h
  obtain ⟨k, h1, rfl⟩ := trAt_get glL h
  have := List.all_eq_true.1 gl_plain _ h1
  simp only [Bool.and_eq_true, decide_eq_true_eq] at this
  refine ⟨?_, this.2⟩
  rw [posOf_val, nx0, posOf_val]; omega
/-- it holds of every call, whatever else is written down -/
def Holds (f : FuncId) (s : Sum) : Prop := ∀ T C, SumOk Tryz.prog (envE T C) f s
theorem holds_of {T : Tr (List Sum)} {C : Tr Ctr} (h : EnvOk2 Tryz.prog (envE T C)) {f : FuncId} {fn : Func} {s : Sum} (hs : isSum (envE T C) 100000000 nx0 f s = true) (hf : Tryz.prog.funcs[f]? = some fn) (hn : (fn.name == "runtime.NumGoroutine") = false) (hb : fn.body.isSome = true) : Holds f s := by
  intro T' C'
  obtain ⟨c, hc⟩ := Option.isSome_iff_exists.1 hb
  exact sum_ok h (low_ok T C) (gl_ok T C) hs rfl rfl ⟨fn, c, hf, by simpa using hn, hc⟩
theorem memos_ok (T : Tr (List Sum)) (C : Tr Ctr) {f : FuncId} {fn : Func} {l : List MEnt} (hf : Tryz.prog.funcs[f]? = some fn) (hn : (fn.name == "runtime.NumGoroutine") = false) (hb : fn.body.isSome = true) (hl : ∀ e ∈ l, MemoOk Tryz.prog 18 glT f e) : CtrOk Tryz.prog (envE T C) f (.memo l) :=
  let ⟨c, hc⟩ := Option.isSome_iff_exists.1 hb
  memo_ok ⟨fn, c, hf, hn, hc⟩ hl
theorem e0_ok : EnvOk2 Tryz.prog E0 := envE_ok (l := L0) (cl := ctL) (fun f m s h => by cases h) (fun f c h => by simp [ctL] at h)
theorem s339_0_holds : Holds 339 s339_0 := holds_of e0_ok s339_0_is Tryz.func339 (by kernel_rfl) (by kernel_rfl)
theorem s339_1_holds : Holds 339 s339_1 := holds_of e0_ok s339_1_is Tryz.func339 (by kernel_rfl) (by kernel_rfl)
theorem s339_2_holds : Holds 339 s339_2 := holds_of e0_ok s339_2_is Tryz.func339 (by kernel_rfl) (by kernel_rfl)
theorem s339_3_holds : Holds 339 s339_3 := holds_of e0_ok s339_3_is Tryz.func339 (by kernel_rfl) (by kernel_rfl)
theorem s339_4_holds : Holds 339 s339_4 := holds_of e0_ok s339_4_is Tryz.func339 (by kernel_rfl) (by kernel_rfl)
theorem e1_ok : EnvOk2 Tryz.prog E1 := envE_ok (l := L1) (cl := ctL) (fun f m s h hs => by
    simp only [L1, List.mem_cons, List.not_mem_nil, or_false, Prod.mk.injEq] at h
    rcases h with ⟨rfl, rfl⟩
    · simp only [List.mem_cons, List.not_mem_nil, or_false] at hs
      rcases hs with rfl | rfl | rfl | rfl | rfl
      · exact s339_0_holds _ _
      · exact s339_1_holds _ _
      · exact s339_2_holds _ _
      · exact s339_3_holds _ _
      · exact s339_4_holds _ _) (fun f c h => by simp [ctL] at h)
theorem s174_0_holds : Holds 174 s174_0 := holds_of e1_ok s174_0_is Tryz.func174 (by kernel_rfl) (by kernel_rfl)
theorem e2_ok : EnvOk2 Tryz.prog E2 := envE_ok (l := L2) (cl := ctL) (fun f m s h hs => by
    simp only [L2, List.mem_cons, List.not_mem_nil, or_false, Prod.mk.injEq] at h
    rcases h with ⟨rfl, rfl⟩ | ⟨rfl, rfl⟩
    · simp only [List.mem_cons, List.not_mem_nil, or_false] at hs
      rcases hs with rfl | rfl | rfl | rfl | rfl
      · exact s339_0_holds _ _
      · exact s339_1_holds _ _
      · exact s339_2_holds _ _
      · exact s339_3_holds _ _
      · exact s339_4_holds _ _
    · simp only [List.mem_cons, List.not_mem_nil, or_false] at hs
      rcases hs with rfl
      · exact s174_0_holds _ _) (fun f c h => by simp [ctL] at h)
theorem s106_0_holds : Holds 106 s106_0 := holds_of e2_ok s106_0_is Tryz.func106 (by kernel_rfl) (by kernel_rfl)
theorem e3_ok : EnvOk2 Tryz.prog E3 := envE_ok (l := L3) (cl := ctL) (fun f m s h hs => by
    simp only [L3, List.mem_cons, List.not_mem_nil, or_false, Prod.mk.injEq] at h
    rcases h with ⟨rfl, rfl⟩ | ⟨rfl, rfl⟩ | ⟨rfl, rfl⟩
    · simp only [List.mem_cons, List.not_mem_nil, or_false] at hs
      rcases hs with rfl | rfl | rfl | rfl | rfl
      · exact s339_0_holds _ _
      · exact s339_1_holds _ _
      · exact s339_2_holds _ _
      · exact s339_3_holds _ _
      · exact s339_4_holds _ _
    · simp only [List.mem_cons, List.not_mem_nil, or_false] at hs
      rcases hs with rfl
      · exact s174_0_holds _ _
    · simp only [List.mem_cons, List.not_mem_nil, or_false] at hs
      rcases hs with rfl
      · exact s106_0_holds _ _) (fun f c h => by simp [ctL] at h)
theorem s59_0_holds : Holds 59 s59_0 := holds_of e3_ok s59_0_is Tryz.func59 (by kernel_rfl) (by kernel_rfl)
theorem e4_ok : EnvOk2 Tryz.prog E4 := envE_ok (l := L4) (cl := ctL) (fun f m s h hs => by
    simp only [L4, List.mem_cons, List.not_mem_nil, or_false, Prod.mk.injEq] at h
    rcases h with ⟨rfl, rfl⟩ | ⟨rfl, rfl⟩ | ⟨rfl, rfl⟩ | ⟨rfl, rfl⟩
    · simp only [List.mem_cons, List.not_mem_nil, or_false] at hs
      rcases hs with rfl | rfl | rfl | rfl | rfl
      · exact s339_0_holds _ _
      · exact s339_1_holds _ _
      · exact s339_2_holds _ _
      · exact s339_3_holds _ _
      · exact s339_4_holds _ _
    · simp only [List.mem_cons, List.not_mem_nil, or_false] at hs
      rcases hs with rfl
      · exact s174_0_holds _ _
    · simp only [List.mem_cons, List.not_mem_nil, or_false] at hs
      rcases hs with rfl
      · exact s106_0_holds _ _
    · simp only [List.mem_cons, List.not_mem_nil, or_false] at hs
      rcases hs with rfl
      · exact s59_0_holds _ _) (fun f c h => by simp [ctL] at h)
theorem s27_0_holds : Holds 27 s27_0 := holds_of e4_ok s27_0_is Tryz.func27 (by kernel_rfl) (by kernel_rfl)
theorem e5_ok : EnvOk2 Tryz.prog E5 := envE_ok (l := L5) (cl := ctL) (fun f m s h hs => by
    simp only [L5, List.mem_cons, List.not_mem_nil, or_false, Prod.mk.injEq] at h
    rcases h with ⟨rfl, rfl⟩ | ⟨rfl, rfl⟩ | ⟨rfl, rfl⟩ | ⟨rfl, rfl⟩ | ⟨rfl, rfl⟩
    · simp only [List.mem_cons, List.not_mem_nil, or_false] at hs
      rcases hs with rfl | rfl | rfl | rfl | rfl
      · exact s339_0_holds _ _
      · exact s339_1_holds _ _
      · exact s339_2_holds _ _
      · exact s339_3_holds _ _
      · exact s339_4_holds _ _
    · simp only [List.mem_cons, List.not_mem_nil, or_false] at hs
      rcases hs with rfl
      · exact s174_0_holds _ _
    · simp only [List.mem_cons, List.not_mem_nil, or_false] at hs
      rcases hs with rfl
      · exact s106_0_holds _ _
    · simp only [List.mem_cons, List.not_mem_nil, or_false] at hs
      rcases hs with rfl
      · exact s59_0_holds _ _
    · simp only [List.mem_cons, List.not_mem_nil, or_false] at hs
      rcases hs with rfl
      · exact s27_0_holds _ _) (fun f c h => by simp [ctL] at h)
theorem m9_ok : MemoOk Tryz.prog 18 glT 29 m9 := ⟨E5, 100000000, e5_ok, rfl, rfl, m9_is⟩
theorem m10_ok : MemoOk Tryz.prog 18 glT 87 m10 := ⟨E5, 100000000, e5_ok, rfl, rfl, m10_is⟩
theorem m11_ok : MemoOk Tryz.prog 18 glT 29 m11 := ⟨E5, 100000000, e5_ok, rfl, rfl, m11_is⟩
theorem u12_ok : EnvOk2 Tryz.prog U12 := envE_ok (l := L5) (cl := CL12) (fun f m s h hs => by
    simp only [L5, List.mem_cons, List.not_mem_nil, or_false, Prod.mk.injEq] at h
    rcases h with ⟨rfl, rfl⟩ | ⟨rfl, rfl⟩ | ⟨rfl, rfl⟩ | ⟨rfl, rfl⟩ | ⟨rfl, rfl⟩
    · simp only [List.mem_cons, List.not_mem_nil, or_false] at hs
      rcases hs with rfl | rfl | rfl | rfl | rfl
      · exact s339_0_holds _ _
      · exact s339_1_holds _ _
      · exact s339_2_holds _ _
      · exact s339_3_holds _ _
      · exact s339_4_holds _ _
    · simp only [List.mem_cons, List.not_mem_nil, or_false] at hs
      rcases hs with rfl
      · exact s174_0_holds _ _
    · simp only [List.mem_cons, List.not_mem_nil, or_false] at hs
      rcases hs with rfl
      · exact s106_0_holds _ _
    · simp only [List.mem_cons, List.not_mem_nil, or_false] at hs
      rcases hs with rfl
      · exact s59_0_holds _ _
    · simp only [List.mem_cons, List.not_mem_nil, or_false] at hs
      rcases hs with rfl
      · exact s27_0_holds _ _) (fun f c h => by
    simp only [CL12, List.mem_cons, List.not_mem_nil, or_false, Prod.mk.injEq] at h
    obtain ⟨rfl, rfl⟩ := h
    · refine memos_ok _ _ Tryz.func29 (by kernel_rfl) (by kernel_rfl) fun e he => ?_
      simp only [List.mem_cons, List.not_mem_nil, or_false] at he
      subst he
      · exact m11_ok)
theorem m12_ok : MemoOk Tryz.prog 18 glT 87 m12 := ⟨U12, 100000000, u12_ok, rfl, rfl, m12_is⟩
theorem m13_ok : MemoOk Tryz.prog 18 glT 29 m13 := ⟨E5, 100000000, e5_ok, rfl, rfl, m13_is⟩
theorem u14_ok : EnvOk2 Tryz.prog U14 := envE_ok (l := L5) (cl := CL14) (fun f m s h hs => by
    simp only [L5, List.mem_cons, List.not_mem_nil, or_false, Prod.mk.injEq] at h
    rcases h with ⟨rfl, rfl⟩ | ⟨rfl, rfl⟩ | ⟨rfl, rfl⟩ | ⟨rfl, rfl⟩ | ⟨rfl, rfl⟩
    · simp only [List.mem_cons, List.not_mem_nil, or_false] at hs
      rcases hs with rfl | rfl | rfl | rfl | rfl
      · exact s339_0_holds _ _
      · exact s339_1_holds _ _
      · exact s339_2_holds _ _
      · exact s339_3_holds _ _
      · exact s339_4_holds _ _
    · simp only [List.mem_cons, List.not_mem_nil, or_false] at hs
      rcases hs with rfl
      · exact s174_0_holds _ _
    · simp only [List.mem_cons, List.not_mem_nil, or_false] at hs
      rcases hs with rfl
      · exact s106_0_holds _ _
    · simp only [List.mem_cons, List.not_mem_nil, or_false] at hs
      rcases hs with rfl
      · exact s59_0_holds _ _
    · simp only [List.mem_cons, List.not_mem_nil, or_false] at hs
      rcases hs with rfl
      · exact s27_0_holds _ _) (fun f c h => by
    simp only [CL14, List.mem_cons, List.not_mem_nil, or_false, Prod.mk.injEq] at h
    rcases h with ⟨rfl, rfl⟩ | ⟨rfl, rfl⟩
    · refine memos_ok _ _ Tryz.func87 (by kernel_rfl) (by kernel_rfl) fun e he => ?_
      simp only [List.mem_cons, List.not_mem_nil, or_false] at he
      rcases he with rfl | rfl
      · exact m10_ok
      · exact m12_ok
    · refine memos_ok _ _ Tryz.func29 (by kernel_rfl) (by kernel_rfl) fun e he => ?_
      simp only [List.mem_cons, List.not_mem_nil, or_false] at he
      subst he
      · exact m13_ok)
theorem m14_ok : MemoOk Tryz.prog 18 glT 31 m14 := ⟨U14, 100000000, u14_ok, rfl, rfl, m14_is⟩
theorem u15_ok : EnvOk2 Tryz.prog U15 := envE_ok (l := L5) (cl := CL15) (fun f m s h hs => by
    simp only [L5, List.mem_cons, List.not_mem_nil, or_false, Prod.mk.injEq] at h
    rcases h with ⟨rfl, rfl⟩ | ⟨rfl, rfl⟩ | ⟨rfl, rfl⟩ | ⟨rfl, rfl⟩ | ⟨rfl, rfl⟩
    · simp only [List.mem_cons, List.not_mem_nil, or_false] at hs
      rcases hs with rfl | rfl | rfl | rfl | rfl
      · exact s339_0_holds _ _
      · exact s339_1_holds _ _
      · exact s339_2_holds _ _
      · exact s339_3_holds _ _
      · exact s339_4_holds _ _
    · simp only [List.mem_cons, List.not_mem_nil, or_false] at hs
      rcases hs with rfl
      · exact s174_0_holds _ _
    · simp only [List.mem_cons, List.not_mem_nil, or_false] at hs
      rcases hs with rfl
      · exact s106_0_holds _ _
    · simp only [List.mem_cons, List.not_mem_nil, or_false] at hs
      rcases hs with rfl
      · exact s59_0_holds _ _
    · simp only [List.mem_cons, List.not_mem_nil, or_false] at hs
      rcases hs with rfl
      · exact s27_0_holds _ _) (fun f c h => by
    simp only [CL15, List.mem_cons, List.not_mem_nil, or_false, Prod.mk.injEq] at h
    rcases h with ⟨rfl, rfl⟩ | ⟨rfl, rfl⟩
    · refine memos_ok _ _ Tryz.func29 (by kernel_rfl) (by kernel_rfl) fun e he => ?_
      simp only [List.mem_cons, List.not_mem_nil, or_false] at he
      subst he
      · exact m9_ok
    · refine memos_ok _ _ Tryz.func31 (by kernel_rfl) (by kernel_rfl) fun e he => ?_
      simp only [List.mem_cons, List.not_mem_nil, or_false] at he
      subst he
      · exact m14_ok)
end Go.Ev
