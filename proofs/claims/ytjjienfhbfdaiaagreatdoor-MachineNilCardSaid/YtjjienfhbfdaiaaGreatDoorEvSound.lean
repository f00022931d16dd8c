/- The tables are right: what the evaluator takes of the program is the program's. -/
import Derived.Test.YtjjienfhbfdaiaaGreatDoorEvTab
import Derived.Test.YtjjienfhbfdaiaaGreatDoorEvS188
import Derived.Test.YtjjienfhbfdaiaaGreatDoorEvS88
import Derived.Test.YtjjienfhbfdaiaaGreatDoorEvS45
import Derived.Test.YtjjienfhbfdaiaaGreatDoorEvS19
import Derived.Test.YtjjienfhbfdaiaaGreatDoorEvS5
set_option linter.unusedVariables false
set_option linter.unusedSimpArgs false
namespace Go.Ev
open Go.Proofs
set_option maxRecDepth 100000
theorem x70_ok (E : Env) : ExtOk Tryz.prog E 70 (.add .i64) := ext_ok Tryz.func70 (by kernel_rfl) (by kernel_rfl) (by kernel_rfl) (show Extern.find Tryz.f70 = some (Extern.Atomic.update (Op.intArith .add) .i64 true) by kernel_rfl)
theorem x71_ok (E : Env) : ExtOk Tryz.prog E 71 (.load .i64) := ext_ok Tryz.func71 (by kernel_rfl) (by kernel_rfl) (by kernel_rfl) (show Extern.find Tryz.f71 = some (Extern.Atomic.loadT (.int .i64)) by kernel_rfl)
theorem x74_ok (E : Env) : ExtOk Tryz.prog E 74 (.store) := ext_ok Tryz.func74 (by kernel_rfl) (by kernel_rfl) (by kernel_rfl) (show Extern.find Tryz.f74 = some (Extern.Atomic.storeT) by kernel_rfl)
theorem x178_ok (E : Env) : ExtOk Tryz.prog E 178 (.count) := ext_ok Tryz.func178 (by kernel_rfl) (by kernel_rfl) (by kernel_rfl) (show Extern.find Tryz.f178 = some (Extern.BytealgCount.count) by kernel_rfl)
theorem x220_ok (E : Env) : ExtOk Tryz.prog E 220 (.store) := ext_ok Tryz.func220 (by kernel_rfl) (by kernel_rfl) (by kernel_rfl) (show Extern.find Tryz.f220 = some (Extern.Atomic.storeT) by kernel_rfl)
theorem x262_ok (E : Env) : ExtOk Tryz.prog E 262 (.load .u32) := ext_ok Tryz.func262 (by kernel_rfl) (by kernel_rfl) (by kernel_rfl) (show Extern.find Tryz.f262 = some (Extern.Atomic.loadT (.int .u32)) by kernel_rfl)
theorem x269_ok (E : Env) : ExtOk Tryz.prog E 269 (.idxByte) := ext_ok Tryz.func269 (by kernel_rfl) (by kernel_rfl) (by kernel_rfl) (show Extern.find Tryz.f269 = some (Extern.BytealgIndexByte.indexByte) by kernel_rfl)
theorem x307_ok (E : Env) : ExtOk Tryz.prog E 307 (.store) := ext_ok Tryz.func307 (by kernel_rfl) (by kernel_rfl) (by kernel_rfl) (show Extern.find Tryz.f307 = some (Extern.Atomic.storeT) by kernel_rfl)
theorem x364_ok (E : Env) : ExtOk Tryz.prog E 364 (.nop0) := ext_ok Tryz.func364 (by kernel_rfl) (by kernel_rfl) (by kernel_rfl) ⟨.disable, by kernel_rfl⟩
theorem x365_ok (E : Env) : ExtOk Tryz.prog E 365 (.cas .i32) := ext_ok Tryz.func365 (by kernel_rfl) (by kernel_rfl) (by kernel_rfl) (show Extern.find Tryz.f365 = some (Extern.Atomic.casT (.int .i32)) by kernel_rfl)
theorem x366_ok (E : Env) : ExtOk Tryz.prog E 366 (.nop0) := ext_ok Tryz.func366 (by kernel_rfl) (by kernel_rfl) (by kernel_rfl) ⟨.enable, by kernel_rfl⟩
theorem x367_ok (E : Env) : ExtOk Tryz.prog E 367 (.nop1) := ext_ok Tryz.func367 (by kernel_rfl) (by kernel_rfl) (by kernel_rfl) ⟨.acquire, by kernel_rfl⟩
theorem x369_ok (E : Env) : ExtOk Tryz.prog E 369 (.nop1) := ext_ok Tryz.func369 (by kernel_rfl) (by kernel_rfl) (by kernel_rfl) ⟨.releaseMerge, by kernel_rfl⟩
theorem x370_ok (E : Env) : ExtOk Tryz.prog E 370 (.add .i32) := ext_ok Tryz.func370 (by kernel_rfl) (by kernel_rfl) (by kernel_rfl) (show Extern.find Tryz.f370 = some (Extern.Atomic.update (Op.intArith .add) .i32 true) by kernel_rfl)
theorem names_ok : (Tryz.prog.funcs.toList.all fun f => !(f.name == "runtime.NumGoroutine")) = true := by kernel_rfl
theorem held_ok : (heL.all fun t => !(Tryz.prog.stoodInHeld t.1)) = true := by kernel_rfl
theorem eqg_ok : (heL.all fun t => !(Tryz.prog.eqGuardType Tryz.prog.depth t.1)) = true := by kernel_rfl
theorem mixed_ok : Tryz.prog.follows .mixedOrders = true := by kernel_rfl
theorem envE_ok {l : List (Nat × List Sum)} (hs : ∀ f m s, (f, m) ∈ l → s ∈ m → SumOk Tryz.prog (envE (trAt l)) f s) : EnvOk2 Tryz.prog (envE (trAt l)) := by
  refine env_ok (tys := Tryz.prog.types.toList) (fns := Tryz.prog.funcs.toList) (exs := exL) (hel := heL) (eqs := heL) (sums := l) (ctrs := ctL) rfl rfl rfl rfl rfl rfl rfl rfl rfl names_ok held_ok eqg_ok mixed_ok ?_ hs ?_
  rotate_left
  · intro f c h
    simp [ctL] at h
  intro f x h
  simp only [exL, List.mem_cons, List.not_mem_nil, or_false, Prod.mk.injEq] at h
  rcases h with ⟨rfl, rfl⟩ | ⟨rfl, rfl⟩ | ⟨rfl, rfl⟩ | ⟨rfl, rfl⟩ | ⟨rfl, rfl⟩ | ⟨rfl, rfl⟩ | ⟨rfl, rfl⟩ | ⟨rfl, rfl⟩ | ⟨rfl, rfl⟩ | ⟨rfl, rfl⟩ | ⟨rfl, rfl⟩ | ⟨rfl, rfl⟩ | ⟨rfl, rfl⟩ | ⟨rfl, rfl⟩
  · exact x70_ok _
  · exact x71_ok _
  · exact x74_ok _
  · exact x178_ok _
  · exact x220_ok _
  · exact x262_ok _
  · exact x269_ok _
  · exact x307_ok _
  · exact x364_ok _
  · exact x365_ok _
  · exact x366_ok _
  · exact x367_ok _
  · exact x369_ok _
  · exact x370_ok _
theorem gl_plain : (glL.all fun x => decide (x.1 < 16) && allL (plainAV 6) x.2) = true := by kernel_rfl
theorem low_ok (T : Tr (List Sum)) : ∀ g, g < (envE T).ng → (posOf g).val < nx0.val := by
  intro g hg
  have hg : g < 16 := hg
  rw [posOf_val, nx0, posOf_val]; omega
theorem gl_ok (T : Tr (List Sum)) : ∀ b l, Tr.get b (envE T).gl = some l → b.val < nx0.val ∧ allL (plainAV 6) l = true := by
  intro b l h
  obtain ⟨k, h1, rfl⟩ := trAt_get glL h
  have := List.all_eq_true.1 gl_plain _ h1
  simp only [Bool.and_eq_true, decide_eq_true_eq] at this
  refine ⟨?_, this.2⟩
  rw [posOf_val, nx0, posOf_val]; omega
/-- it holds of every call, whatever else is written down -/
def Holds (f : FuncId) (s : Sum) : Prop := ∀ T, SumOk Tryz.prog (envE T) f s
theorem holds_of {T : Tr (List Sum)} (h : EnvOk2 Tryz.prog (envE T)) {f : FuncId} {fn : Func} {s : Sum} (hs : isSum (envE T) 100000000 nx0 f s = true) (hf : Tryz.prog.funcs[f]? = some fn) (hn : (fn.name == "runtime.NumGoroutine") = false) (hb : fn.body.isSome = true) : Holds f s := by
  intro T'
  obtain ⟨c, hc⟩ := Option.isSome_iff_exists.1 hb
  exact sum_ok h (low_ok T) (gl_ok T) hs rfl rfl ⟨fn, c, hf, by simpa using hn, hc⟩
theorem e0_ok : EnvOk2 Tryz.prog E0 := envE_ok (fun f m s h => by cases h)
theorem s188_0_holds : Holds 188 s188_0 := holds_of e0_ok s188_0_is Tryz.func188 (by kernel_rfl) (by kernel_rfl)
theorem s188_1_holds : Holds 188 s188_1 := holds_of e0_ok s188_1_is Tryz.func188 (by kernel_rfl) (by kernel_rfl)
theorem s188_2_holds : Holds 188 s188_2 := holds_of e0_ok s188_2_is Tryz.func188 (by kernel_rfl) (by kernel_rfl)
theorem s188_3_holds : Holds 188 s188_3 := holds_of e0_ok s188_3_is Tryz.func188 (by kernel_rfl) (by kernel_rfl)
theorem s188_4_holds : Holds 188 s188_4 := holds_of e0_ok s188_4_is Tryz.func188 (by kernel_rfl) (by kernel_rfl)
theorem e1_ok : EnvOk2 Tryz.prog E1 := by
  refine envE_ok (l := L1) fun f m s h hs => ?_
  simp only [L1, List.mem_cons, List.not_mem_nil, or_false, Prod.mk.injEq] at h
  rcases h with ⟨rfl, rfl⟩
  · simp only [List.mem_cons, List.not_mem_nil, or_false] at hs
    rcases hs with rfl | rfl | rfl | rfl | rfl
    · exact s188_0_holds _
    · exact s188_1_holds _
    · exact s188_2_holds _
    · exact s188_3_holds _
    · exact s188_4_holds _
theorem s88_0_holds : Holds 88 s88_0 := holds_of e1_ok s88_0_is Tryz.func88 (by kernel_rfl) (by kernel_rfl)
theorem e2_ok : EnvOk2 Tryz.prog E2 := by
  refine envE_ok (l := L2) fun f m s h hs => ?_
  simp only [L2, List.mem_cons, List.not_mem_nil, or_false, Prod.mk.injEq] at h
  rcases h with ⟨rfl, rfl⟩ | ⟨rfl, rfl⟩
  · simp only [List.mem_cons, List.not_mem_nil, or_false] at hs
    rcases hs with rfl | rfl | rfl | rfl | rfl
    · exact s188_0_holds _
    · exact s188_1_holds _
    · exact s188_2_holds _
    · exact s188_3_holds _
    · exact s188_4_holds _
  · simp only [List.mem_cons, List.not_mem_nil, or_false] at hs
    rcases hs with rfl
    · exact s88_0_holds _
theorem s45_0_holds : Holds 45 s45_0 := holds_of e2_ok s45_0_is Tryz.func45 (by kernel_rfl) (by kernel_rfl)
theorem e3_ok : EnvOk2 Tryz.prog E3 := by
  refine envE_ok (l := L3) fun f m s h hs => ?_
  simp only [L3, List.mem_cons, List.not_mem_nil, or_false, Prod.mk.injEq] at h
  rcases h with ⟨rfl, rfl⟩ | ⟨rfl, rfl⟩ | ⟨rfl, rfl⟩
  · simp only [List.mem_cons, List.not_mem_nil, or_false] at hs
    rcases hs with rfl | rfl | rfl | rfl | rfl
    · exact s188_0_holds _
    · exact s188_1_holds _
    · exact s188_2_holds _
    · exact s188_3_holds _
    · exact s188_4_holds _
  · simp only [List.mem_cons, List.not_mem_nil, or_false] at hs
    rcases hs with rfl
    · exact s88_0_holds _
  · simp only [List.mem_cons, List.not_mem_nil, or_false] at hs
    rcases hs with rfl
    · exact s45_0_holds _
theorem s19_0_holds : Holds 19 s19_0 := holds_of e3_ok s19_0_is Tryz.func19 (by kernel_rfl) (by kernel_rfl)
theorem e4_ok : EnvOk2 Tryz.prog E4 := by
  refine envE_ok (l := L4) fun f m s h hs => ?_
  simp only [L4, List.mem_cons, List.not_mem_nil, or_false, Prod.mk.injEq] at h
  rcases h with ⟨rfl, rfl⟩ | ⟨rfl, rfl⟩ | ⟨rfl, rfl⟩ | ⟨rfl, rfl⟩
  · simp only [List.mem_cons, List.not_mem_nil, or_false] at hs
    rcases hs with rfl | rfl | rfl | rfl | rfl
    · exact s188_0_holds _
    · exact s188_1_holds _
    · exact s188_2_holds _
    · exact s188_3_holds _
    · exact s188_4_holds _
  · simp only [List.mem_cons, List.not_mem_nil, or_false] at hs
    rcases hs with rfl
    · exact s88_0_holds _
  · simp only [List.mem_cons, List.not_mem_nil, or_false] at hs
    rcases hs with rfl
    · exact s45_0_holds _
  · simp only [List.mem_cons, List.not_mem_nil, or_false] at hs
    rcases hs with rfl
    · exact s19_0_holds _
theorem s5_0_holds : Holds 5 s5_0 := holds_of e4_ok s5_0_is Tryz.func5 (by kernel_rfl) (by kernel_rfl)
theorem s5_1_holds : Holds 5 s5_1 := holds_of e4_ok s5_1_is Tryz.func5 (by kernel_rfl) (by kernel_rfl)
theorem e5_ok : EnvOk2 Tryz.prog E5 := by
  refine envE_ok (l := L5) fun f m s h hs => ?_
  simp only [L5, List.mem_cons, List.not_mem_nil, or_false, Prod.mk.injEq] at h
  rcases h with ⟨rfl, rfl⟩ | ⟨rfl, rfl⟩ | ⟨rfl, rfl⟩ | ⟨rfl, rfl⟩ | ⟨rfl, rfl⟩
  · simp only [List.mem_cons, List.not_mem_nil, or_false] at hs
    rcases hs with rfl | rfl | rfl | rfl | rfl
    · exact s188_0_holds _
    · exact s188_1_holds _
    · exact s188_2_holds _
    · exact s188_3_holds _
    · exact s188_4_holds _
  · simp only [List.mem_cons, List.not_mem_nil, or_false] at hs
    rcases hs with rfl
    · exact s88_0_holds _
  · simp only [List.mem_cons, List.not_mem_nil, or_false] at hs
    rcases hs with rfl
    · exact s45_0_holds _
  · simp only [List.mem_cons, List.not_mem_nil, or_false] at hs
    rcases hs with rfl
    · exact s19_0_holds _
  · simp only [List.mem_cons, List.not_mem_nil, or_false] at hs
    rcases hs with rfl | rfl
    · exact s5_0_holds _
    · exact s5_1_holds _
end Go.Ev
