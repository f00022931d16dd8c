/- The tables are right: what the evaluator takes of the program is the program's. -/
import Derived.Test.YthpjnjmlbeglnaaGreatDoorEvTab
import Derived.Test.YthpjnjmlbeglnaaGreatDoorEvS174
import Derived.Test.YthpjnjmlbeglnaaGreatDoorEvS81
import Derived.Test.YthpjnjmlbeglnaaGreatDoorEvS47
import Derived.Test.YthpjnjmlbeglnaaGreatDoorEvS32
import Derived.Test.YthpjnjmlbeglnaaGreatDoorEvS19
set_option linter.unusedVariables false
set_option linter.unusedSimpArgs false
namespace Go.Ev
open Go.Proofs
set_option maxRecDepth 100000
theorem x74_ok (E : Env) : ExtOk Tryz.prog E 74 (.add .i64) := ext_ok Tryz.func74 (by kernel_rfl) (by kernel_rfl) (by kernel_rfl) (show Extern.find Tryz.f74 = some (Extern.Atomic.update (Op.intArith .add) .i64 true) by kernel_rfl)
theorem x154_ok (E : Env) : ExtOk Tryz.prog E 154 (.store) := ext_ok Tryz.func154 (by kernel_rfl) (by kernel_rfl) (by kernel_rfl) (show Extern.find Tryz.f154 = some (Extern.Atomic.storeT) by kernel_rfl)
theorem x164_ok (E : Env) : ExtOk Tryz.prog E 164 (.count) := ext_ok Tryz.func164 (by kernel_rfl) (by kernel_rfl) (by kernel_rfl) (show Extern.find Tryz.f164 = some (Extern.BytealgCount.count) by kernel_rfl)
theorem x194_ok (E : Env) : ExtOk Tryz.prog E 194 (.load .u32) := ext_ok Tryz.func194 (by kernel_rfl) (by kernel_rfl) (by kernel_rfl) (show Extern.find Tryz.f194 = some (Extern.Atomic.loadT (.int .u32)) by kernel_rfl)
theorem x244_ok (E : Env) : ExtOk Tryz.prog E 244 (.store) := ext_ok Tryz.func244 (by kernel_rfl) (by kernel_rfl) (by kernel_rfl) (show Extern.find Tryz.f244 = some (Extern.Atomic.storeT) by kernel_rfl)
theorem x257_ok (E : Env) : ExtOk Tryz.prog E 257 (.idxByte) := ext_ok Tryz.func257 (by kernel_rfl) (by kernel_rfl) (by kernel_rfl) (show Extern.find Tryz.f257 = some (Extern.BytealgIndexByte.indexByte) by kernel_rfl)
theorem x294_ok (E : Env) : ExtOk Tryz.prog E 294 (.nop0) := ext_ok Tryz.func294 (by kernel_rfl) (by kernel_rfl) (by kernel_rfl) ⟨.disable, by kernel_rfl⟩
theorem x295_ok (E : Env) : ExtOk Tryz.prog E 295 (.cas .i32) := ext_ok Tryz.func295 (by kernel_rfl) (by kernel_rfl) (by kernel_rfl) (show Extern.find Tryz.f295 = some (Extern.Atomic.casT (.int .i32)) by kernel_rfl)
theorem x296_ok (E : Env) : ExtOk Tryz.prog E 296 (.nop0) := ext_ok Tryz.func296 (by kernel_rfl) (by kernel_rfl) (by kernel_rfl) ⟨.enable, by kernel_rfl⟩
theorem x297_ok (E : Env) : ExtOk Tryz.prog E 297 (.nop1) := ext_ok Tryz.func297 (by kernel_rfl) (by kernel_rfl) (by kernel_rfl) ⟨.acquire, by kernel_rfl⟩
theorem x299_ok (E : Env) : ExtOk Tryz.prog E 299 (.nop1) := ext_ok Tryz.func299 (by kernel_rfl) (by kernel_rfl) (by kernel_rfl) ⟨.releaseMerge, by kernel_rfl⟩
theorem x300_ok (E : Env) : ExtOk Tryz.prog E 300 (.add .i32) := ext_ok Tryz.func300 (by kernel_rfl) (by kernel_rfl) (by kernel_rfl) (show Extern.find Tryz.f300 = some (Extern.Atomic.update (Op.intArith .add) .i32 true) by kernel_rfl)
theorem names_ok : (Tryz.prog.funcs.toList.all fun f => !(f.name == "runtime.NumGoroutine")) = true := by kernel_rfl
theorem held_ok : (heL.all fun t => !(Tryz.prog.stoodInHeld t.1)) = true := by kernel_rfl
theorem eqg_ok : (heL.all fun t => !(Tryz.prog.eqGuardType Tryz.prog.depth t.1)) = true := by kernel_rfl
theorem mixed_ok : Tryz.prog.follows .mixedOrders = true := by kernel_rfl
theorem envE_ok {l : List (Nat × List Sum)} (hs : ∀ f m s, (f, m) ∈ l → s ∈ m → SumOk Tryz.prog (envE (trAt l)) f s) : EnvOk2 Tryz.prog (envE (trAt l)) := by
  refine env_ok (tys := Tryz.prog.types.toList) (fns := Tryz.prog.funcs.toList) (exs := exL) (hel := heL) (eqs := heL) (sums := l) rfl rfl rfl rfl rfl rfl rfl rfl names_ok held_ok eqg_ok mixed_ok ?_ hs
  intro f x h
  simp only [exL, List.mem_cons, List.not_mem_nil, or_false, Prod.mk.injEq] at h
  rcases h with ⟨rfl, rfl⟩ | ⟨rfl, rfl⟩ | ⟨rfl, rfl⟩ | ⟨rfl, rfl⟩ | ⟨rfl, rfl⟩ | ⟨rfl, rfl⟩ | ⟨rfl, rfl⟩ | ⟨rfl, rfl⟩ | ⟨rfl, rfl⟩ | ⟨rfl, rfl⟩ | ⟨rfl, rfl⟩ | ⟨rfl, rfl⟩
  · exact x74_ok _
  · exact x154_ok _
  · exact x164_ok _
  · exact x194_ok _
  · exact x244_ok _
  · exact x257_ok _
  · exact x294_ok _
  · exact x295_ok _
  · exact x296_ok _
  · exact x297_ok _
  · exact x299_ok _
  · exact x300_ok _
theorem gl_plain : (glL.all fun x => decide (x.1 < 16) && allL (plainAV 6) x.2) = true := by kernel_rfl
theorem low_ok (T : Tr (List Sum)) : ∀ g, g < (envE T).ng → (posOf g).val < nx0.val := by
  intro g hg
  have hg : g < 16 := hg
  rw [posOf_val, nx0, posOf_val]; omega
theorem gl_ok (T : Tr (List Sum)) : ∀ b l, Tr.get b (envE T).gl = some l → b.val < nx0.val ∧ allL (plainAV 6) l = true := by
  intro b l h
  obtain ⟨k, h1, rfl⟩ := trAt_get glL h
  have := List.all_eq_true.1 gl_plain _ h1
  simp only [Bool.and_eq_true, decide_eq_true_eq] at this
  refine ⟨?_, this.2⟩
  rw [posOf_val, nx0, posOf_val]; omega
/-- it holds of every call, whatever else is written down -/
def Holds (f : FuncId) (s : Sum) : Prop := ∀ T, SumOk Tryz.prog (envE T) f s
theorem holds_of {T : Tr (List Sum)} (h : EnvOk2 Tryz.prog (envE T)) {f : FuncId} {fn : Func} {s : Sum} (hs : isSum (envE T) 100000000 nx0 f s = true) (hf : Tryz.prog.funcs[f]? = some fn) (hn : (fn.name == "runtime.NumGoroutine") = false) (hb : fn.body.isSome = true) : Holds f s := by
  intro T'
  obtain ⟨c, hc⟩ := Option.isSome_iff_exists.1 hb
  exact sum_ok h (low_ok T) (gl_ok T) hs rfl rfl ⟨fn, c, hf, by simpa using hn, hc⟩
theorem e0_ok : EnvOk2 Tryz.prog E0 := envE_ok (fun f m s h => by cases h)
theorem s174_0_holds : Holds 174 s174_0 := holds_of e0_ok s174_0_is Tryz.func174 (by kernel_rfl) (by kernel_rfl)
theorem s174_1_holds : Holds 174 s174_1 := holds_of e0_ok s174_1_is Tryz.func174 (by kernel_rfl) (by kernel_rfl)
theorem s174_2_holds : Holds 174 s174_2 := holds_of e0_ok s174_2_is Tryz.func174 (by kernel_rfl) (by kernel_rfl)
theorem s174_3_holds : Holds 174 s174_3 := holds_of e0_ok s174_3_is Tryz.func174 (by kernel_rfl) (by kernel_rfl)
theorem s174_4_holds : Holds 174 s174_4 := holds_of e0_ok s174_4_is Tryz.func174 (by kernel_rfl) (by kernel_rfl)
theorem e1_ok : EnvOk2 Tryz.prog E1 := by
  refine envE_ok (l := L1) fun f m s h hs => ?_
  simp only [L1, List.mem_cons, List.not_mem_nil, or_false, Prod.mk.injEq] at h
  rcases h with ⟨rfl, rfl⟩
  · simp only [List.mem_cons, List.not_mem_nil, or_false] at hs
    rcases hs with rfl | rfl | rfl | rfl | rfl
    · exact s174_0_holds _
    · exact s174_1_holds _
    · exact s174_2_holds _
    · exact s174_3_holds _
    · exact s174_4_holds _
theorem s81_0_holds : Holds 81 s81_0 := holds_of e1_ok s81_0_is Tryz.func81 (by kernel_rfl) (by kernel_rfl)
theorem e2_ok : EnvOk2 Tryz.prog E2 := by
  refine envE_ok (l := L2) fun f m s h hs => ?_
  simp only [L2, List.mem_cons, List.not_mem_nil, or_false, Prod.mk.injEq] at h
  rcases h with ⟨rfl, rfl⟩ | ⟨rfl, rfl⟩
  · simp only [List.mem_cons, List.not_mem_nil, or_false] at hs
    rcases hs with rfl | rfl | rfl | rfl | rfl
    · exact s174_0_holds _
    · exact s174_1_holds _
    · exact s174_2_holds _
    · exact s174_3_holds _
    · exact s174_4_holds _
  · simp only [List.mem_cons, List.not_mem_nil, or_false] at hs
    rcases hs with rfl
    · exact s81_0_holds _
theorem s47_0_holds : Holds 47 s47_0 := holds_of e2_ok s47_0_is Tryz.func47 (by kernel_rfl) (by kernel_rfl)
theorem e3_ok : EnvOk2 Tryz.prog E3 := by
  refine envE_ok (l := L3) fun f m s h hs => ?_
  simp only [L3, List.mem_cons, List.not_mem_nil, or_false, Prod.mk.injEq] at h
  rcases h with ⟨rfl, rfl⟩ | ⟨rfl, rfl⟩ | ⟨rfl, rfl⟩
  · simp only [List.mem_cons, List.not_mem_nil, or_false] at hs
    rcases hs with rfl | rfl | rfl | rfl | rfl
    · exact s174_0_holds _
    · exact s174_1_holds _
    · exact s174_2_holds _
    · exact s174_3_holds _
    · exact s174_4_holds _
  · simp only [List.mem_cons, List.not_mem_nil, or_false] at hs
    rcases hs with rfl
    · exact s81_0_holds _
  · simp only [List.mem_cons, List.not_mem_nil, or_false] at hs
    rcases hs with rfl
    · exact s47_0_holds _
theorem s32_0_holds : Holds 32 s32_0 := holds_of e3_ok s32_0_is Tryz.func32 (by kernel_rfl) (by kernel_rfl)
theorem e4_ok : EnvOk2 Tryz.prog E4 := by
  refine envE_ok (l := L4) fun f m s h hs => ?_
  simp only [L4, List.mem_cons, List.not_mem_nil, or_false, Prod.mk.injEq] at h
  rcases h with ⟨rfl, rfl⟩ | ⟨rfl, rfl⟩ | ⟨rfl, rfl⟩ | ⟨rfl, rfl⟩
  · simp only [List.mem_cons, List.not_mem_nil, or_false] at hs
    rcases hs with rfl | rfl | rfl | rfl | rfl
    · exact s174_0_holds _
    · exact s174_1_holds _
    · exact s174_2_holds _
    · exact s174_3_holds _
    · exact s174_4_holds _
  · simp only [List.mem_cons, List.not_mem_nil, or_false] at hs
    rcases hs with rfl
    · exact s81_0_holds _
  · simp only [List.mem_cons, List.not_mem_nil, or_false] at hs
    rcases hs with rfl
    · exact s47_0_holds _
  · simp only [List.mem_cons, List.not_mem_nil, or_false] at hs
    rcases hs with rfl
    · exact s32_0_holds _
theorem s19_0_holds : Holds 19 s19_0 := holds_of e4_ok s19_0_is Tryz.func19 (by kernel_rfl) (by kernel_rfl)
theorem e5_ok : EnvOk2 Tryz.prog E5 := by
  refine envE_ok (l := L5) fun f m s h hs => ?_
  simp only [L5, List.mem_cons, List.not_mem_nil, or_false, Prod.mk.injEq] at h
  rcases h with ⟨rfl, rfl⟩ | ⟨rfl, rfl⟩ | ⟨rfl, rfl⟩ | ⟨rfl, rfl⟩ | ⟨rfl, rfl⟩
  · simp only [List.mem_cons, List.not_mem_nil, or_false] at hs
    rcases hs with rfl | rfl | rfl | rfl | rfl
    · exact s174_0_holds _
    · exact s174_1_holds _
    · exact s174_2_holds _
    · exact s174_3_holds _
    · exact s174_4_holds _
  · simp only [List.mem_cons, List.not_mem_nil, or_false] at hs
    rcases hs with rfl
    · exact s81_0_holds _
  · simp only [List.mem_cons, List.not_mem_nil, or_false] at hs
    rcases hs with rfl
    · exact s47_0_holds _
  · simp only [List.mem_cons, List.not_mem_nil, or_false] at hs
    rcases hs with rfl
    · exact s32_0_holds _
  · simp only [List.mem_cons, List.not_mem_nil, or_false] at hs
    rcases hs with rfl
    · exact s19_0_holds _
end Go.Ev
