/- The tables are right: what the evaluator takes of the program is the program's. -/
import Derived.Test.YtpiopkgjbnlhcaaGreatDoorEEvTab
import Derived.Test.YtpiopkgjbnlhcaaGreatDoorEvRen
import Derived.Test.YtpiopkgjbnlhcaaGreatDoorEEvK0
import Derived.Test.YtpiopkgjbnlhcaaGreatDoorEEvK1
import Derived.Test.YtpiopkgjbnlhcaaGreatDoorEEvK2
import Derived.Test.YtpiopkgjbnlhcaaGreatDoorEEvK3
import Derived.Test.YtpiopkgjbnlhcaaGreatDoorEEvK4
import Derived.Test.YtpiopkgjbnlhcaaGreatDoorEEvK5
import Derived.Test.YtpiopkgjbnlhcaaGreatDoorEEvK6
import Derived.Test.YtpiopkgjbnlhcaaGreatDoorEEvK7
import Derived.Test.YtpiopkgjbnlhcaaGreatDoorEEvK8
import Derived.Test.YtpiopkgjbnlhcaaGreatDoorEEvK9
import Derived.Test.YtpiopkgjbnlhcaaGreatDoorEEvK10
import Derived.Test.YtpiopkgjbnlhcaaGreatDoorEEvK11
import Derived.Test.YtpiopkgjbnlhcaaGreatDoorEEvK12
set_option linter.unusedVariables false
set_option linter.unusedSimpArgs false
namespace Go.Ev
open Go.Proofs
set_option maxRecDepth 100000
theorem x158_ok (E : Env) : ExtOk Tryz.prog E 158 (.count) := ext_ok Tryz.func158 (by kernel_rfl) (by kernel_rfl) (by kernel_rfl) (show Extern.find Tryz.f158 = some (Extern.BytealgCount.count) by kernel_rfl)
theorem x207_ok (E : Env) : ExtOk Tryz.prog E 207 (.add .i64) := ext_ok Tryz.func207 (by kernel_rfl) (by kernel_rfl) (by kernel_rfl) (show Extern.find Tryz.f207 = some (Extern.Atomic.update (Op.intArith .add) .i64 true) by kernel_rfl)
theorem x264_ok (E : Env) : ExtOk Tryz.prog E 264 (.store) := ext_ok Tryz.func264 (by kernel_rfl) (by kernel_rfl) (by kernel_rfl) (show Extern.find Tryz.f264 = some (Extern.Atomic.storeT) by kernel_rfl)
theorem x287_ok (E : Env) : ExtOk Tryz.prog E 287 (.idxByte) := ext_ok Tryz.func287 (by kernel_rfl) (by kernel_rfl) (by kernel_rfl) (show Extern.find Tryz.f287 = some (Extern.BytealgIndexByte.indexByte) by kernel_rfl)
theorem x318_ok (E : Env) : ExtOk Tryz.prog E 318 (.load .u32) := ext_ok Tryz.func318 (by kernel_rfl) (by kernel_rfl) (by kernel_rfl) (show Extern.find Tryz.f318 = some (Extern.Atomic.loadT (.int .u32)) by kernel_rfl)
theorem x386_ok (E : Env) : ExtOk Tryz.prog E 386 (.store) := ext_ok Tryz.func386 (by kernel_rfl) (by kernel_rfl) (by kernel_rfl) (show Extern.find Tryz.f386 = some (Extern.Atomic.storeT) by kernel_rfl)
theorem x430_ok (E : Env) : ExtOk Tryz.prog E 430 (.nop0) := ext_ok Tryz.func430 (by kernel_rfl) (by kernel_rfl) (by kernel_rfl) ⟨.disable, by kernel_rfl⟩
theorem x431_ok (E : Env) : ExtOk Tryz.prog E 431 (.cas .i32) := ext_ok Tryz.func431 (by kernel_rfl) (by kernel_rfl) (by kernel_rfl) (show Extern.find Tryz.f431 = some (Extern.Atomic.casT (.int .i32)) by kernel_rfl)
theorem x432_ok (E : Env) : ExtOk Tryz.prog E 432 (.nop0) := ext_ok Tryz.func432 (by kernel_rfl) (by kernel_rfl) (by kernel_rfl) ⟨.enable, by kernel_rfl⟩
theorem x433_ok (E : Env) : ExtOk Tryz.prog E 433 (.nop1) := ext_ok Tryz.func433 (by kernel_rfl) (by kernel_rfl) (by kernel_rfl) ⟨.acquire, by kernel_rfl⟩
theorem x435_ok (E : Env) : ExtOk Tryz.prog E 435 (.nop1) := ext_ok Tryz.func435 (by kernel_rfl) (by kernel_rfl) (by kernel_rfl) ⟨.releaseMerge, by kernel_rfl⟩
theorem x436_ok (E : Env) : ExtOk Tryz.prog E 436 (.add .i32) := ext_ok Tryz.func436 (by kernel_rfl) (by kernel_rfl) (by kernel_rfl) (show Extern.find Tryz.f436 = some (Extern.Atomic.update (Op.intArith .add) .i32 true) by kernel_rfl)
theorem x449_ok (E : Env) : ExtOk Tryz.prog E 449 (.same) := ext_ok Tryz.func449 (by kernel_rfl) (by kernel_rfl) (by kernel_rfl) (show Extern.find Tryz.f449 = some (Extern.AbiNoEscape.same) by kernel_rfl)
theorem x450_ok (E : Env) : ExtOk Tryz.prog E 450 (.mknz 5) := ext_ok Tryz.func450 (by kernel_rfl) (by kernel_rfl) (by kernel_rfl) ⟨_, _, (show Extern.find Tryz.f450 = some (Extern.BytealgMakeNoZero.makeNoZero #[3] #[499]) by kernel_rfl), Tryz.underlying499⟩
theorem names_ok : (Tryz.prog.funcs.toList.all fun f => !(f.name == "runtime.NumGoroutine")) = true := by kernel_rfl
theorem held_ok : (heL.all fun t => !(Tryz.prog.stoodInHeld t.1)) = true := by kernel_rfl
theorem eqg_ok : (heL.all fun t => !(Tryz.prog.eqGuardType Tryz.prog.depth t.1)) = true := by kernel_rfl
theorem mixed_ok : Tryz.prog.follows .mixedOrders = true := by kernel_rfl
theorem envE_ok {l : List (Nat × List Sum)} {cl : List (Nat × Ctr)} (hs : ∀ f m s, (f, m) ∈ l → s ∈ m → SumOk Tryz.prog (envE (trAt l) (trAt cl)) f s) (hc : ∀ f c, (f, c) ∈ cl → CtrOk Tryz.prog (envE (trAt l) (trAt cl)) f c) : EnvOk2 Tryz.prog (envE (trAt l) (trAt cl)) := by
  refine env_ok (tys := Tryz.prog.types.toList) (fns := Tryz.prog.funcs.toList) (exs := exL) (hel := heL) (eqs := heL) (sums := l) (ctrs := cl) rfl rfl rfl rfl rfl rfl rfl rfl rfl names_ok held_ok eqg_ok mixed_ok ?_ hs hc
  intro f x h
  simp only [exL, List.mem_cons, List.not_mem_nil, or_false, Prod.mk.injEq] at h
  rcases h with ⟨rfl, rfl⟩ | ⟨rfl, rfl⟩ | ⟨rfl, rfl⟩ | ⟨rfl, rfl⟩ | ⟨rfl, rfl⟩ | ⟨rfl, rfl⟩ | ⟨rfl, rfl⟩ | ⟨rfl, rfl⟩ | ⟨rfl, rfl⟩ | ⟨rfl, rfl⟩ | ⟨rfl, rfl⟩ | ⟨rfl, rfl⟩ | ⟨rfl, rfl⟩ | ⟨rfl, rfl⟩
  · exact x158_ok _
  · exact x207_ok _
  · exact x264_ok _
  · exact x287_ok _
  · exact x318_ok _
  · exact x386_ok _
  · exact x430_ok _
  · exact x431_ok _
  · exact x432_ok _
  · exact x433_ok _
  · exact x435_ok _
  · exact x436_ok _
  · exact x449_ok _
  · exact x450_ok _
theorem gl_plain : (glL.all fun x => decide (x.1 < 18) && allL (plainAV 6) x.2) = true := by kernel_rfl
theorem low_ok (T : Tr (List Sum)) (C : Tr Ctr) : ∀ g, g < (envE T C).ng → (posOf g).val < nx0.val := by
  intro g hg
  have hg : g < 18 := hg
  rw [posOf_val, nx0, posOf_val]; omega
theorem gl_ok (T : Tr (List Sum)) (C : Tr Ctr) : ∀ b l, Tr.get b (envE T C).gl = some l → b.val < nx0.val ∧ allL (plainAV 6) l = true := by
  intro b l h
  obtain ⟨k, h1, rfl⟩ := trAt_get glL h
  have := List.all_eq_true.1 gl_plain _ h1
  simp only [Bool.and_eq_true, decide_eq_true_eq] at this
  refine ⟨?_, this.2⟩
  rw [posOf_val, nx0, posOf_val]; omega
/-- it holds of every call, whatever else is written down -/
def Holds (f : FuncId) (s : Sum) : Prop := ∀ T C, SumOk Tryz.prog (envE T C) f s
theorem holds_of {T : Tr (List Sum)} {C : Tr Ctr} (h : EnvOk2 Tryz.prog (envE T C)) {f : FuncId} {fn : Func} {s : Sum} (hs : isSum (envE T C) 100000000 nx0 f s = true) (hf : Tryz.prog.funcs[f]? = some fn) (hn : (fn.name == "runtime.NumGoroutine") = false) (hb : fn.body.isSome = true) : Holds f s := by
  intro T' C'
  obtain ⟨c, hc⟩ := Option.isSome_iff_exists.1 hb
  exact sum_ok h (low_ok T C) (gl_ok T C) hs rfl rfl ⟨fn, c, hf, by simpa using hn, hc⟩
theorem memos_ok (T : Tr (List Sum)) (C : Tr Ctr) {f : FuncId} {fn : Func} {l : List MEnt} (hf : Tryz.prog.funcs[f]? = some fn) (hn : (fn.name == "runtime.NumGoroutine") = false) (hb : fn.body.isSome = true) (hl : ∀ e ∈ l, MemoOk Tryz.prog 18 glT f e) : CtrOk Tryz.prog (envE T C) f (.memo l) :=
  let ⟨c, hc⟩ := Option.isSome_iff_exists.1 hb
  memo_ok ⟨fn, c, hf, hn, hc⟩ hl
theorem gl_glob (T : Tr (List Sum)) (C : Tr Ctr) : ∀ b l, Tr.get b (envE T C).gl = some l → (∃ g, g < (envE T C).ng ∧ b = posOf g) ∧ allL (plainAV 6) l = true := by
  intro b l h
  obtain ⟨k, h1, rfl⟩ := trAt_get glL h
  have := List.all_eq_true.1 gl_plain _ h1
  simp only [Bool.and_eq_true, decide_eq_true_eq] at this
  exact ⟨⟨k, this.1, rfl⟩, this.2⟩
theorem rmemos_ok (T : Tr (List Sum)) (C : Tr Ctr) {f : FuncId} {fn : Func} {l : List REnt} (hf : Tryz.prog.funcs[f]? = some fn) (hn : (fn.name == "runtime.NumGoroutine") = false) (hb : fn.body.isSome = true) (hl : ∀ e ∈ l, RenOk Tryz.prog 18 glT f e) : CtrOk Tryz.prog (envE T C) f (.rmemo 18 l) :=
  let ⟨c, hc⟩ := Option.isSome_iff_exists.1 hb
  rmemo_ok (E := envE T C) (gl_glob T C) ⟨fn, c, hf, hn, hc⟩ hl
def AllC (l : List (Nat × Ctr)) : Prop := ∀ f c, (f, c) ∈ l → ∀ T C, CtrOk Tryz.prog (envE T C) f c
theorem allC_app {l m : List (Nat × Ctr)} (h : AllC l) (h' : AllC m) : AllC (l ++ m) := fun f c hm => (List.mem_append.1 hm).elim (h f c) (h' f c)
theorem allC_one {f : Nat} {c : Ctr} (h : ∀ T C, CtrOk Tryz.prog (envE T C) f c) : AllC [(f, c)] := fun g d hm => by
  simp only [List.mem_cons, List.not_mem_nil, or_false, Prod.mk.injEq] at hm
  obtain ⟨rfl, rfl⟩ := hm
  exact h
def AllR (f : FuncId) (l : List REnt) : Prop := ∀ e ∈ l, RenOk Tryz.prog 18 glT f e
theorem allR_one {f : FuncId} {e : REnt} (h : RenOk Tryz.prog 18 glT f e) : AllR f [e] := fun x hx => by rw [List.mem_singleton.1 hx]; exact h
theorem allR_snoc {f : FuncId} {l : List REnt} {e : REnt} (hl : AllR f l) (h : RenOk Tryz.prog 18 glT f e) : AllR f (l ++ [e]) := fun x hx => (List.mem_append.1 hx).elim (hl x) (allR_one h x)
theorem vc0 : AllC VL0 := fun f c h => by simp [VL0] at h
theorem rf59 {l : List REnt} (hl : AllR 59 l) : AllC [(59, .rmemo 18 l)] := allC_one fun T C => rmemos_ok T C Tryz.func59 (by kernel_rfl) (by kernel_rfl) hl
theorem rf100 {l : List REnt} (hl : AllR 100 l) : AllC [(100, .rmemo 18 l)] := allC_one fun T C => rmemos_ok T C Tryz.func100 (by kernel_rfl) (by kernel_rfl) hl
theorem rf57 {l : List REnt} (hl : AllR 57 l) : AllC [(57, .rmemo 18 l)] := allC_one fun T C => rmemos_ok T C Tryz.func57 (by kernel_rfl) (by kernel_rfl) hl
theorem rf142 {l : List REnt} (hl : AllR 142 l) : AllC [(142, .rmemo 18 l)] := allC_one fun T C => rmemos_ok T C Tryz.func142 (by kernel_rfl) (by kernel_rfl) hl
theorem rf223 {l : List REnt} (hl : AllR 223 l) : AllC [(223, .rmemo 18 l)] := allC_one fun T C => rmemos_ok T C Tryz.func223 (by kernel_rfl) (by kernel_rfl) hl
theorem rf276 {l : List REnt} (hl : AllR 276 l) : AllC [(276, .rmemo 18 l)] := allC_one fun T C => rmemos_ok T C Tryz.func276 (by kernel_rfl) (by kernel_rfl) hl
theorem rf210 {l : List REnt} (hl : AllR 210 l) : AllC [(210, .rmemo 18 l)] := allC_one fun T C => rmemos_ok T C Tryz.func210 (by kernel_rfl) (by kernel_rfl) hl
theorem rf277 {l : List REnt} (hl : AllR 277 l) : AllC [(277, .rmemo 18 l)] := allC_one fun T C => rmemos_ok T C Tryz.func277 (by kernel_rfl) (by kernel_rfl) hl
theorem rf71 {l : List REnt} (hl : AllR 71 l) : AllC [(71, .rmemo 18 l)] := allC_one fun T C => rmemos_ok T C Tryz.func71 (by kernel_rfl) (by kernel_rfl) hl
theorem rf252 {l : List REnt} (hl : AllR 252 l) : AllC [(252, .rmemo 18 l)] := allC_one fun T C => rmemos_ok T C Tryz.func252 (by kernel_rfl) (by kernel_rfl) hl
theorem rf181 {l : List REnt} (hl : AllR 181 l) : AllC [(181, .rmemo 18 l)] := allC_one fun T C => rmemos_ok T C Tryz.func181 (by kernel_rfl) (by kernel_rfl) hl
theorem rf60 {l : List REnt} (hl : AllR 60 l) : AllC [(60, .rmemo 18 l)] := allC_one fun T C => rmemos_ok T C Tryz.func60 (by kernel_rfl) (by kernel_rfl) hl
theorem rf145 {l : List REnt} (hl : AllR 145 l) : AllC [(145, .rmemo 18 l)] := allC_one fun T C => rmemos_ok T C Tryz.func145 (by kernel_rfl) (by kernel_rfl) hl
theorem rf81 {l : List REnt} (hl : AllR 81 l) : AllC [(81, .rmemo 18 l)] := allC_one fun T C => rmemos_ok T C Tryz.func81 (by kernel_rfl) (by kernel_rfl) hl
theorem rf41 {l : List REnt} (hl : AllR 41 l) : AllC [(41, .rmemo 18 l)] := allC_one fun T C => rmemos_ok T C Tryz.func41 (by kernel_rfl) (by kernel_rfl) hl
theorem sums0_ok (C : Tr Ctr) : ∀ f m s, (f, m) ∈ L0 → s ∈ m → SumOk Tryz.prog (envE (trAt L0) C) f s := (fun f m s h => by cases h)
theorem e0_ok : EnvOk2 Tryz.prog E0 := envE_ok (l := L0) (cl := VL0) (fun f m s h hs => sums0_ok _ f m s h hs) (fun f c h => vc0 f c h _ _)
theorem s168_0_holds : Holds 168 s168_0 := holds_of e0_ok s168_0_is Tryz.func168 (by kernel_rfl) (by kernel_rfl)
theorem s168_1_holds : Holds 168 s168_1 := holds_of e0_ok s168_1_is Tryz.func168 (by kernel_rfl) (by kernel_rfl)
theorem s168_2_holds : Holds 168 s168_2 := holds_of e0_ok s168_2_is Tryz.func168 (by kernel_rfl) (by kernel_rfl)
theorem s168_3_holds : Holds 168 s168_3 := holds_of e0_ok s168_3_is Tryz.func168 (by kernel_rfl) (by kernel_rfl)
theorem s168_4_holds : Holds 168 s168_4 := holds_of e0_ok s168_4_is Tryz.func168 (by kernel_rfl) (by kernel_rfl)
theorem s168_5_holds : Holds 168 s168_5 := holds_of e0_ok s168_5_is Tryz.func168 (by kernel_rfl) (by kernel_rfl)
theorem s168_6_holds : Holds 168 s168_6 := holds_of e0_ok s168_6_is Tryz.func168 (by kernel_rfl) (by kernel_rfl)
theorem sums1_ok (C : Tr Ctr) : ∀ f m s, (f, m) ∈ L1 → s ∈ m → SumOk Tryz.prog (envE (trAt L1) C) f s := (fun f m s h hs => by
    simp only [L1, List.mem_cons, List.not_mem_nil, or_false, Prod.mk.injEq] at h
    rcases h with ⟨rfl, rfl⟩
    · simp only [List.mem_cons, List.not_mem_nil, or_false] at hs
      rcases hs with rfl | rfl | rfl | rfl | rfl | rfl | rfl
      · exact s168_0_holds _ _
      · exact s168_1_holds _ _
      · exact s168_2_holds _ _
      · exact s168_3_holds _ _
      · exact s168_4_holds _ _
      · exact s168_5_holds _ _
      · exact s168_6_holds _ _)
theorem e1_ok : EnvOk2 Tryz.prog E1 := envE_ok (l := L1) (cl := VL0) (fun f m s h hs => sums1_ok _ f m s h hs) (fun f c h => vc0 f c h _ _)
theorem s145_0_holds : Holds 145 s145_0 := holds_of e1_ok s145_0_is Tryz.func145 (by kernel_rfl) (by kernel_rfl)
theorem s145_1_holds : Holds 145 s145_1 := holds_of e1_ok s145_1_is Tryz.func145 (by kernel_rfl) (by kernel_rfl)
theorem s145_2_holds : Holds 145 s145_2 := holds_of e1_ok s145_2_is Tryz.func145 (by kernel_rfl) (by kernel_rfl)
theorem sums2_ok (C : Tr Ctr) : ∀ f m s, (f, m) ∈ L2 → s ∈ m → SumOk Tryz.prog (envE (trAt L2) C) f s := (fun f m s h hs => by
    simp only [L2, List.mem_cons, List.not_mem_nil, or_false, Prod.mk.injEq] at h
    rcases h with ⟨rfl, rfl⟩ | ⟨rfl, rfl⟩
    · simp only [List.mem_cons, List.not_mem_nil, or_false] at hs
      rcases hs with rfl | rfl | rfl | rfl | rfl | rfl | rfl
      · exact s168_0_holds _ _
      · exact s168_1_holds _ _
      · exact s168_2_holds _ _
      · exact s168_3_holds _ _
      · exact s168_4_holds _ _
      · exact s168_5_holds _ _
      · exact s168_6_holds _ _
    · simp only [List.mem_cons, List.not_mem_nil, or_false] at hs
      rcases hs with rfl | rfl | rfl
      · exact s145_0_holds _ _
      · exact s145_1_holds _ _
      · exact s145_2_holds _ _)
theorem e2_ok : EnvOk2 Tryz.prog E2 := envE_ok (l := L2) (cl := VL0) (fun f m s h hs => sums2_ok _ f m s h hs) (fun f c h => vc0 f c h _ _)
theorem s53_0_holds : Holds 53 s53_0 := holds_of e2_ok s53_0_is Tryz.func53 (by kernel_rfl) (by kernel_rfl)
theorem s53_1_holds : Holds 53 s53_1 := holds_of e2_ok s53_1_is Tryz.func53 (by kernel_rfl) (by kernel_rfl)
theorem s53_2_holds : Holds 53 s53_2 := holds_of e2_ok s53_2_is Tryz.func53 (by kernel_rfl) (by kernel_rfl)
theorem s53_3_holds : Holds 53 s53_3 := holds_of e2_ok s53_3_is Tryz.func53 (by kernel_rfl) (by kernel_rfl)
theorem s53_4_holds : Holds 53 s53_4 := holds_of e2_ok s53_4_is Tryz.func53 (by kernel_rfl) (by kernel_rfl)
theorem s53_5_holds : Holds 53 s53_5 := holds_of e2_ok s53_5_is Tryz.func53 (by kernel_rfl) (by kernel_rfl)
theorem s53_6_holds : Holds 53 s53_6 := holds_of e2_ok s53_6_is Tryz.func53 (by kernel_rfl) (by kernel_rfl)
theorem sums3_ok (C : Tr Ctr) : ∀ f m s, (f, m) ∈ L3 → s ∈ m → SumOk Tryz.prog (envE (trAt L3) C) f s := (fun f m s h hs => by
    simp only [L3, List.mem_cons, List.not_mem_nil, or_false, Prod.mk.injEq] at h
    rcases h with ⟨rfl, rfl⟩ | ⟨rfl, rfl⟩ | ⟨rfl, rfl⟩
    · simp only [List.mem_cons, List.not_mem_nil, or_false] at hs
      rcases hs with rfl | rfl | rfl | rfl | rfl | rfl | rfl
      · exact s168_0_holds _ _
      · exact s168_1_holds _ _
      · exact s168_2_holds _ _
      · exact s168_3_holds _ _
      · exact s168_4_holds _ _
      · exact s168_5_holds _ _
      · exact s168_6_holds _ _
    · simp only [List.mem_cons, List.not_mem_nil, or_false] at hs
      rcases hs with rfl | rfl | rfl
      · exact s145_0_holds _ _
      · exact s145_1_holds _ _
      · exact s145_2_holds _ _
    · simp only [List.mem_cons, List.not_mem_nil, or_false] at hs
      rcases hs with rfl | rfl | rfl | rfl | rfl | rfl | rfl
      · exact s53_0_holds _ _
      · exact s53_1_holds _ _
      · exact s53_2_holds _ _
      · exact s53_3_holds _ _
      · exact s53_4_holds _ _
      · exact s53_5_holds _ _
      · exact s53_6_holds _ _)
theorem v0_ok : EnvOk2 Tryz.prog V0 := envE_ok (l := L3) (cl := VL0) (fun f m s h hs => sums3_ok _ f m s h hs) (fun f c h => vc0 f c h _ _)
theorem r0_ok : RenOk Tryz.prog 18 glT 59 r0 := ⟨V0, 100000000, v0_ok, rfl, rfl, r0_is⟩
theorem R59_1_ok : AllR 59 R59_1 := allR_one r0_ok
theorem vc1 : AllC VL1 := allC_app vc0 (rf59 R59_1_ok)
theorem e3_ok : EnvOk2 Tryz.prog E3 := envE_ok (l := L3) (cl := VL1) (fun f m s h hs => sums3_ok _ f m s h hs) (fun f c h => vc1 f c h _ _)
theorem s23_0_holds : Holds 23 s23_0 := holds_of e3_ok s23_0_is Tryz.func23 (by kernel_rfl) (by kernel_rfl)
theorem s23_1_holds : Holds 23 s23_1 := holds_of e3_ok s23_1_is Tryz.func23 (by kernel_rfl) (by kernel_rfl)
theorem s23_2_holds : Holds 23 s23_2 := holds_of e3_ok s23_2_is Tryz.func23 (by kernel_rfl) (by kernel_rfl)
theorem s23_3_holds : Holds 23 s23_3 := holds_of e3_ok s23_3_is Tryz.func23 (by kernel_rfl) (by kernel_rfl)
theorem s23_4_holds : Holds 23 s23_4 := holds_of e3_ok s23_4_is Tryz.func23 (by kernel_rfl) (by kernel_rfl)
theorem s23_5_holds : Holds 23 s23_5 := holds_of e3_ok s23_5_is Tryz.func23 (by kernel_rfl) (by kernel_rfl)
theorem s23_6_holds : Holds 23 s23_6 := holds_of e3_ok s23_6_is Tryz.func23 (by kernel_rfl) (by kernel_rfl)
theorem sums4_ok (C : Tr Ctr) : ∀ f m s, (f, m) ∈ L4 → s ∈ m → SumOk Tryz.prog (envE (trAt L4) C) f s := (fun f m s h hs => by
    simp only [L4, List.mem_cons, List.not_mem_nil, or_false, Prod.mk.injEq] at h
    rcases h with ⟨rfl, rfl⟩ | ⟨rfl, rfl⟩ | ⟨rfl, rfl⟩ | ⟨rfl, rfl⟩
    · simp only [List.mem_cons, List.not_mem_nil, or_false] at hs
      rcases hs with rfl | rfl | rfl | rfl | rfl | rfl | rfl
      · exact s168_0_holds _ _
      · exact s168_1_holds _ _
      · exact s168_2_holds _ _
      · exact s168_3_holds _ _
      · exact s168_4_holds _ _
      · exact s168_5_holds _ _
      · exact s168_6_holds _ _
    · simp only [List.mem_cons, List.not_mem_nil, or_false] at hs
      rcases hs with rfl | rfl | rfl
      · exact s145_0_holds _ _
      · exact s145_1_holds _ _
      · exact s145_2_holds _ _
    · simp only [List.mem_cons, List.not_mem_nil, or_false] at hs
      rcases hs with rfl | rfl | rfl | rfl | rfl | rfl | rfl
      · exact s53_0_holds _ _
      · exact s53_1_holds _ _
      · exact s53_2_holds _ _
      · exact s53_3_holds _ _
      · exact s53_4_holds _ _
      · exact s53_5_holds _ _
      · exact s53_6_holds _ _
    · simp only [List.mem_cons, List.not_mem_nil, or_false] at hs
      rcases hs with rfl | rfl | rfl | rfl | rfl | rfl | rfl
      · exact s23_0_holds _ _
      · exact s23_1_holds _ _
      · exact s23_2_holds _ _
      · exact s23_3_holds _ _
      · exact s23_4_holds _ _
      · exact s23_5_holds _ _
      · exact s23_6_holds _ _)
theorem v1_ok : EnvOk2 Tryz.prog V1 := envE_ok (l := L4) (cl := VL1) (fun f m s h hs => sums4_ok _ f m s h hs) (fun f c h => vc1 f c h _ _)
theorem r1_ok : RenOk Tryz.prog 18 glT 100 r1 := ⟨V1, 100000000, v1_ok, rfl, rfl, r1_is⟩
theorem R100_1_ok : AllR 100 R100_1 := allR_one r1_ok
theorem vc2 : AllC VL2 := allC_app vc1 (rf100 R100_1_ok)
theorem v2_ok : EnvOk2 Tryz.prog V2 := envE_ok (l := L4) (cl := VL2) (fun f m s h hs => sums4_ok _ f m s h hs) (fun f c h => vc2 f c h _ _)
theorem r2_ok : RenOk Tryz.prog 18 glT 59 r2 := ⟨V2, 100000000, v2_ok, rfl, rfl, r2_is⟩
theorem R59_2_ok : AllR 59 R59_2 := allR_snoc R59_1_ok r2_ok
theorem vc3 : AllC VL3 := allC_app vc2 (rf59 R59_2_ok)
theorem v3_ok : EnvOk2 Tryz.prog V3 := envE_ok (l := L4) (cl := VL3) (fun f m s h hs => sums4_ok _ f m s h hs) (fun f c h => vc3 f c h _ _)
theorem r3_ok : RenOk Tryz.prog 18 glT 57 r3 := ⟨V3, 100000000, v3_ok, rfl, rfl, r3_is⟩
theorem R57_1_ok : AllR 57 R57_1 := allR_one r3_ok
theorem vc4 : AllC VL4 := allC_app vc3 (rf57 R57_1_ok)
theorem v4_ok : EnvOk2 Tryz.prog V4 := envE_ok (l := L4) (cl := VL4) (fun f m s h hs => sums4_ok _ f m s h hs) (fun f c h => vc4 f c h _ _)
theorem r4_ok : RenOk Tryz.prog 18 glT 142 r4 := ⟨V4, 100000000, v4_ok, rfl, rfl, r4_is⟩
theorem R142_1_ok : AllR 142 R142_1 := allR_one r4_ok
theorem vc5 : AllC VL5 := allC_app vc4 (rf142 R142_1_ok)
theorem v5_ok : EnvOk2 Tryz.prog V5 := envE_ok (l := L4) (cl := VL5) (fun f m s h hs => sums4_ok _ f m s h hs) (fun f c h => vc5 f c h _ _)
theorem r5_ok : RenOk Tryz.prog 18 glT 223 r5 := ⟨V5, 100000000, v5_ok, rfl, rfl, r5_is⟩
theorem R223_1_ok : AllR 223 R223_1 := allR_one r5_ok
theorem vc6 : AllC VL6 := allC_app vc5 (rf223 R223_1_ok)
theorem v6_ok : EnvOk2 Tryz.prog V6 := envE_ok (l := L4) (cl := VL6) (fun f m s h hs => sums4_ok _ f m s h hs) (fun f c h => vc6 f c h _ _)
theorem r6_ok : RenOk Tryz.prog 18 glT 223 r6 := ⟨V6, 100000000, v6_ok, rfl, rfl, r6_is⟩
theorem R223_2_ok : AllR 223 R223_2 := allR_snoc R223_1_ok r6_ok
theorem vc7 : AllC VL7 := allC_app vc6 (rf223 R223_2_ok)
theorem v7_ok : EnvOk2 Tryz.prog V7 := envE_ok (l := L4) (cl := VL7) (fun f m s h hs => sums4_ok _ f m s h hs) (fun f c h => vc7 f c h _ _)
theorem r7_ok : RenOk Tryz.prog 18 glT 276 r7 := ⟨V7, 100000000, v7_ok, rfl, rfl, r7_is⟩
theorem R276_1_ok : AllR 276 R276_1 := allR_one r7_ok
theorem vc8 : AllC VL8 := allC_app vc7 (rf276 R276_1_ok)
theorem v8_ok : EnvOk2 Tryz.prog V8 := envE_ok (l := L4) (cl := VL8) (fun f m s h hs => sums4_ok _ f m s h hs) (fun f c h => vc8 f c h _ _)
theorem r8_ok : RenOk Tryz.prog 18 glT 276 r8 := ⟨V8, 100000000, v8_ok, rfl, rfl, r8_is⟩
theorem R276_2_ok : AllR 276 R276_2 := allR_snoc R276_1_ok r8_ok
theorem vc9 : AllC VL9 := allC_app vc8 (rf276 R276_2_ok)
theorem v9_ok : EnvOk2 Tryz.prog V9 := envE_ok (l := L4) (cl := VL9) (fun f m s h hs => sums4_ok _ f m s h hs) (fun f c h => vc9 f c h _ _)
theorem r9_ok : RenOk Tryz.prog 18 glT 210 r9 := ⟨V9, 100000000, v9_ok, rfl, rfl, r9_is⟩
theorem R210_1_ok : AllR 210 R210_1 := allR_one r9_ok
theorem vc10 : AllC VL10 := allC_app vc9 (rf210 R210_1_ok)
theorem v10_ok : EnvOk2 Tryz.prog V10 := envE_ok (l := L4) (cl := VL10) (fun f m s h hs => sums4_ok _ f m s h hs) (fun f c h => vc10 f c h _ _)
theorem r10_ok : RenOk Tryz.prog 18 glT 277 r10 := ⟨V10, 100000000, v10_ok, rfl, rfl, r10_is⟩
theorem R277_1_ok : AllR 277 R277_1 := allR_one r10_ok
theorem vc11 : AllC VL11 := allC_app vc10 (rf277 R277_1_ok)
theorem v11_ok : EnvOk2 Tryz.prog V11 := envE_ok (l := L4) (cl := VL11) (fun f m s h hs => sums4_ok _ f m s h hs) (fun f c h => vc11 f c h _ _)
theorem r11_ok : RenOk Tryz.prog 18 glT 210 r11 := ⟨V11, 100000000, v11_ok, rfl, rfl, r11_is⟩
theorem R210_2_ok : AllR 210 R210_2 := allR_snoc R210_1_ok r11_ok
theorem vc12 : AllC VL12 := allC_app vc11 (rf210 R210_2_ok)
theorem v12_ok : EnvOk2 Tryz.prog V12 := envE_ok (l := L4) (cl := VL12) (fun f m s h hs => sums4_ok _ f m s h hs) (fun f c h => vc12 f c h _ _)
theorem r12_ok : RenOk Tryz.prog 18 glT 223 r12 := ⟨V12, 100000000, v12_ok, rfl, rfl, r12_is⟩
theorem R223_3_ok : AllR 223 R223_3 := allR_snoc R223_2_ok r12_ok
theorem vc13 : AllC VL13 := allC_app vc12 (rf223 R223_3_ok)
theorem v13_ok : EnvOk2 Tryz.prog V13 := envE_ok (l := L4) (cl := VL13) (fun f m s h hs => sums4_ok _ f m s h hs) (fun f c h => vc13 f c h _ _)
theorem r13_ok : RenOk Tryz.prog 18 glT 277 r13 := ⟨V13, 100000000, v13_ok, rfl, rfl, r13_is⟩
theorem R277_2_ok : AllR 277 R277_2 := allR_snoc R277_1_ok r13_ok
theorem vc14 : AllC VL14 := allC_app vc13 (rf277 R277_2_ok)
theorem v14_ok : EnvOk2 Tryz.prog V14 := envE_ok (l := L4) (cl := VL14) (fun f m s h hs => sums4_ok _ f m s h hs) (fun f c h => vc14 f c h _ _)
theorem r14_ok : RenOk Tryz.prog 18 glT 210 r14 := ⟨V14, 100000000, v14_ok, rfl, rfl, r14_is⟩
theorem R210_3_ok : AllR 210 R210_3 := allR_snoc R210_2_ok r14_ok
theorem vc15 : AllC VL15 := allC_app vc14 (rf210 R210_3_ok)
theorem v15_ok : EnvOk2 Tryz.prog V15 := envE_ok (l := L4) (cl := VL15) (fun f m s h hs => sums4_ok _ f m s h hs) (fun f c h => vc15 f c h _ _)
theorem r15_ok : RenOk Tryz.prog 18 glT 71 r15 := ⟨V15, 100000000, v15_ok, rfl, rfl, r15_is⟩
theorem R71_1_ok : AllR 71 R71_1 := allR_one r15_ok
theorem vc16 : AllC VL16 := allC_app vc15 (rf71 R71_1_ok)
theorem v16_ok : EnvOk2 Tryz.prog V16 := envE_ok (l := L4) (cl := VL16) (fun f m s h hs => sums4_ok _ f m s h hs) (fun f c h => vc16 f c h _ _)
theorem r16_ok : RenOk Tryz.prog 18 glT 252 r16 := ⟨V16, 100000000, v16_ok, rfl, rfl, r16_is⟩
theorem R252_1_ok : AllR 252 R252_1 := allR_one r16_ok
theorem vc17 : AllC VL17 := allC_app vc16 (rf252 R252_1_ok)
theorem v17_ok : EnvOk2 Tryz.prog V17 := envE_ok (l := L4) (cl := VL17) (fun f m s h hs => sums4_ok _ f m s h hs) (fun f c h => vc17 f c h _ _)
theorem r17_ok : RenOk Tryz.prog 18 glT 252 r17 := ⟨V17, 100000000, v17_ok, rfl, rfl, r17_is⟩
theorem R252_2_ok : AllR 252 R252_2 := allR_snoc R252_1_ok r17_ok
theorem vc18 : AllC VL18 := allC_app vc17 (rf252 R252_2_ok)
theorem v18_ok : EnvOk2 Tryz.prog V18 := envE_ok (l := L4) (cl := VL18) (fun f m s h hs => sums4_ok _ f m s h hs) (fun f c h => vc18 f c h _ _)
theorem r18_ok : RenOk Tryz.prog 18 glT 252 r18 := ⟨V18, 100000000, v18_ok, rfl, rfl, r18_is⟩
theorem R252_3_ok : AllR 252 R252_3 := allR_snoc R252_2_ok r18_ok
theorem vc19 : AllC VL19 := allC_app vc18 (rf252 R252_3_ok)
theorem v19_ok : EnvOk2 Tryz.prog V19 := envE_ok (l := L4) (cl := VL19) (fun f m s h hs => sums4_ok _ f m s h hs) (fun f c h => vc19 f c h _ _)
theorem r19_ok : RenOk Tryz.prog 18 glT 252 r19 := ⟨V19, 100000000, v19_ok, rfl, rfl, r19_is⟩
theorem R252_4_ok : AllR 252 R252_4 := allR_snoc R252_3_ok r19_ok
theorem vc20 : AllC VL20 := allC_app vc19 (rf252 R252_4_ok)
theorem v20_ok : EnvOk2 Tryz.prog V20 := envE_ok (l := L4) (cl := VL20) (fun f m s h hs => sums4_ok _ f m s h hs) (fun f c h => vc20 f c h _ _)
theorem r20_ok : RenOk Tryz.prog 18 glT 181 r20 := ⟨V20, 100000000, v20_ok, rfl, rfl, r20_is⟩
theorem R181_1_ok : AllR 181 R181_1 := allR_one r20_ok
theorem vc21 : AllC VL21 := allC_app vc20 (rf181 R181_1_ok)
theorem v21_ok : EnvOk2 Tryz.prog V21 := envE_ok (l := L4) (cl := VL21) (fun f m s h hs => sums4_ok _ f m s h hs) (fun f c h => vc21 f c h _ _)
theorem r21_ok : RenOk Tryz.prog 18 glT 60 r21 := ⟨V21, 100000000, v21_ok, rfl, rfl, r21_is⟩
theorem R60_1_ok : AllR 60 R60_1 := allR_one r21_ok
theorem vc22 : AllC VL22 := allC_app vc21 (rf60 R60_1_ok)
theorem v22_ok : EnvOk2 Tryz.prog V22 := envE_ok (l := L4) (cl := VL22) (fun f m s h hs => sums4_ok _ f m s h hs) (fun f c h => vc22 f c h _ _)
theorem r22_ok : RenOk Tryz.prog 18 glT 100 r22 := ⟨V22, 100000000, v22_ok, rfl, rfl, r22_is⟩
theorem R100_2_ok : AllR 100 R100_2 := allR_snoc R100_1_ok r22_ok
theorem vc23 : AllC VL23 := allC_app vc22 (rf100 R100_2_ok)
theorem v23_ok : EnvOk2 Tryz.prog V23 := envE_ok (l := L4) (cl := VL23) (fun f m s h hs => sums4_ok _ f m s h hs) (fun f c h => vc23 f c h _ _)
theorem r23_ok : RenOk Tryz.prog 18 glT 59 r23 := ⟨V23, 100000000, v23_ok, rfl, rfl, r23_is⟩
theorem R59_3_ok : AllR 59 R59_3 := allR_snoc R59_2_ok r23_ok
theorem vc24 : AllC VL24 := allC_app vc23 (rf59 R59_3_ok)
theorem v24_ok : EnvOk2 Tryz.prog V24 := envE_ok (l := L4) (cl := VL24) (fun f m s h hs => sums4_ok _ f m s h hs) (fun f c h => vc24 f c h _ _)
theorem r24_ok : RenOk Tryz.prog 18 glT 57 r24 := ⟨V24, 100000000, v24_ok, rfl, rfl, r24_is⟩
theorem R57_2_ok : AllR 57 R57_2 := allR_snoc R57_1_ok r24_ok
theorem vc25 : AllC VL25 := allC_app vc24 (rf57 R57_2_ok)
theorem v25_ok : EnvOk2 Tryz.prog V25 := envE_ok (l := L4) (cl := VL25) (fun f m s h hs => sums4_ok _ f m s h hs) (fun f c h => vc25 f c h _ _)
theorem r25_ok : RenOk Tryz.prog 18 glT 142 r25 := ⟨V25, 100000000, v25_ok, rfl, rfl, r25_is⟩
theorem R142_2_ok : AllR 142 R142_2 := allR_snoc R142_1_ok r25_ok
theorem vc26 : AllC VL26 := allC_app vc25 (rf142 R142_2_ok)
theorem v26_ok : EnvOk2 Tryz.prog V26 := envE_ok (l := L4) (cl := VL26) (fun f m s h hs => sums4_ok _ f m s h hs) (fun f c h => vc26 f c h _ _)
theorem r26_ok : RenOk Tryz.prog 18 glT 223 r26 := ⟨V26, 100000000, v26_ok, rfl, rfl, r26_is⟩
theorem R223_4_ok : AllR 223 R223_4 := allR_snoc R223_3_ok r26_ok
theorem vc27 : AllC VL27 := allC_app vc26 (rf223 R223_4_ok)
theorem v27_ok : EnvOk2 Tryz.prog V27 := envE_ok (l := L4) (cl := VL27) (fun f m s h hs => sums4_ok _ f m s h hs) (fun f c h => vc27 f c h _ _)
theorem r27_ok : RenOk Tryz.prog 18 glT 223 r27 := ⟨V27, 100000000, v27_ok, rfl, rfl, r27_is⟩
theorem R223_5_ok : AllR 223 R223_5 := allR_snoc R223_4_ok r27_ok
theorem vc28 : AllC VL28 := allC_app vc27 (rf223 R223_5_ok)
theorem v28_ok : EnvOk2 Tryz.prog V28 := envE_ok (l := L4) (cl := VL28) (fun f m s h hs => sums4_ok _ f m s h hs) (fun f c h => vc28 f c h _ _)
theorem r28_ok : RenOk Tryz.prog 18 glT 277 r28 := ⟨V28, 100000000, v28_ok, rfl, rfl, r28_is⟩
theorem R277_3_ok : AllR 277 R277_3 := allR_snoc R277_2_ok r28_ok
theorem vc29 : AllC VL29 := allC_app vc28 (rf277 R277_3_ok)
theorem v29_ok : EnvOk2 Tryz.prog V29 := envE_ok (l := L4) (cl := VL29) (fun f m s h hs => sums4_ok _ f m s h hs) (fun f c h => vc29 f c h _ _)
theorem r29_ok : RenOk Tryz.prog 18 glT 210 r29 := ⟨V29, 100000000, v29_ok, rfl, rfl, r29_is⟩
theorem R210_4_ok : AllR 210 R210_4 := allR_snoc R210_3_ok r29_ok
theorem vc30 : AllC VL30 := allC_app vc29 (rf210 R210_4_ok)
theorem v30_ok : EnvOk2 Tryz.prog V30 := envE_ok (l := L4) (cl := VL30) (fun f m s h hs => sums4_ok _ f m s h hs) (fun f c h => vc30 f c h _ _)
theorem r30_ok : RenOk Tryz.prog 18 glT 223 r30 := ⟨V30, 100000000, v30_ok, rfl, rfl, r30_is⟩
theorem R223_6_ok : AllR 223 R223_6 := allR_snoc R223_5_ok r30_ok
theorem vc31 : AllC VL31 := allC_app vc30 (rf223 R223_6_ok)
theorem v31_ok : EnvOk2 Tryz.prog V31 := envE_ok (l := L4) (cl := VL31) (fun f m s h hs => sums4_ok _ f m s h hs) (fun f c h => vc31 f c h _ _)
theorem r31_ok : RenOk Tryz.prog 18 glT 276 r31 := ⟨V31, 100000000, v31_ok, rfl, rfl, r31_is⟩
theorem R276_3_ok : AllR 276 R276_3 := allR_snoc R276_2_ok r31_ok
theorem vc32 : AllC VL32 := allC_app vc31 (rf276 R276_3_ok)
theorem v32_ok : EnvOk2 Tryz.prog V32 := envE_ok (l := L4) (cl := VL32) (fun f m s h hs => sums4_ok _ f m s h hs) (fun f c h => vc32 f c h _ _)
theorem r32_ok : RenOk Tryz.prog 18 glT 276 r32 := ⟨V32, 100000000, v32_ok, rfl, rfl, r32_is⟩
theorem R276_4_ok : AllR 276 R276_4 := allR_snoc R276_3_ok r32_ok
theorem vc33 : AllC VL33 := allC_app vc32 (rf276 R276_4_ok)
theorem v33_ok : EnvOk2 Tryz.prog V33 := envE_ok (l := L4) (cl := VL33) (fun f m s h hs => sums4_ok _ f m s h hs) (fun f c h => vc33 f c h _ _)
theorem r33_ok : RenOk Tryz.prog 18 glT 210 r33 := ⟨V33, 100000000, v33_ok, rfl, rfl, r33_is⟩
theorem R210_5_ok : AllR 210 R210_5 := allR_snoc R210_4_ok r33_ok
theorem vc34 : AllC VL34 := allC_app vc33 (rf210 R210_5_ok)
theorem v34_ok : EnvOk2 Tryz.prog V34 := envE_ok (l := L4) (cl := VL34) (fun f m s h hs => sums4_ok _ f m s h hs) (fun f c h => vc34 f c h _ _)
theorem r34_ok : RenOk Tryz.prog 18 glT 277 r34 := ⟨V34, 100000000, v34_ok, rfl, rfl, r34_is⟩
theorem R277_4_ok : AllR 277 R277_4 := allR_snoc R277_3_ok r34_ok
theorem vc35 : AllC VL35 := allC_app vc34 (rf277 R277_4_ok)
theorem v35_ok : EnvOk2 Tryz.prog V35 := envE_ok (l := L4) (cl := VL35) (fun f m s h hs => sums4_ok _ f m s h hs) (fun f c h => vc35 f c h _ _)
theorem r35_ok : RenOk Tryz.prog 18 glT 210 r35 := ⟨V35, 100000000, v35_ok, rfl, rfl, r35_is⟩
theorem R210_6_ok : AllR 210 R210_6 := allR_snoc R210_5_ok r35_ok
theorem vc36 : AllC VL36 := allC_app vc35 (rf210 R210_6_ok)
theorem v36_ok : EnvOk2 Tryz.prog V36 := envE_ok (l := L4) (cl := VL36) (fun f m s h hs => sums4_ok _ f m s h hs) (fun f c h => vc36 f c h _ _)
theorem r36_ok : RenOk Tryz.prog 18 glT 223 r36 := ⟨V36, 100000000, v36_ok, rfl, rfl, r36_is⟩
theorem R223_7_ok : AllR 223 R223_7 := allR_snoc R223_6_ok r36_ok
theorem vc37 : AllC VL37 := allC_app vc36 (rf223 R223_7_ok)
theorem v37_ok : EnvOk2 Tryz.prog V37 := envE_ok (l := L4) (cl := VL37) (fun f m s h hs => sums4_ok _ f m s h hs) (fun f c h => vc37 f c h _ _)
theorem r37_ok : RenOk Tryz.prog 18 glT 277 r37 := ⟨V37, 100000000, v37_ok, rfl, rfl, r37_is⟩
theorem R277_5_ok : AllR 277 R277_5 := allR_snoc R277_4_ok r37_ok
theorem vc38 : AllC VL38 := allC_app vc37 (rf277 R277_5_ok)
theorem v38_ok : EnvOk2 Tryz.prog V38 := envE_ok (l := L4) (cl := VL38) (fun f m s h hs => sums4_ok _ f m s h hs) (fun f c h => vc38 f c h _ _)
theorem r38_ok : RenOk Tryz.prog 18 glT 210 r38 := ⟨V38, 100000000, v38_ok, rfl, rfl, r38_is⟩
theorem R210_7_ok : AllR 210 R210_7 := allR_snoc R210_6_ok r38_ok
theorem vc39 : AllC VL39 := allC_app vc38 (rf210 R210_7_ok)
theorem v39_ok : EnvOk2 Tryz.prog V39 := envE_ok (l := L4) (cl := VL39) (fun f m s h hs => sums4_ok _ f m s h hs) (fun f c h => vc39 f c h _ _)
theorem r39_ok : RenOk Tryz.prog 18 glT 71 r39 := ⟨V39, 100000000, v39_ok, rfl, rfl, r39_is⟩
theorem R71_2_ok : AllR 71 R71_2 := allR_snoc R71_1_ok r39_ok
theorem vc40 : AllC VL40 := allC_app vc39 (rf71 R71_2_ok)
theorem v40_ok : EnvOk2 Tryz.prog V40 := envE_ok (l := L4) (cl := VL40) (fun f m s h hs => sums4_ok _ f m s h hs) (fun f c h => vc40 f c h _ _)
theorem r40_ok : RenOk Tryz.prog 18 glT 100 r40 := ⟨V40, 100000000, v40_ok, rfl, rfl, r40_is⟩
theorem R100_3_ok : AllR 100 R100_3 := allR_snoc R100_2_ok r40_ok
theorem vc41 : AllC VL41 := allC_app vc40 (rf100 R100_3_ok)
theorem v41_ok : EnvOk2 Tryz.prog V41 := envE_ok (l := L4) (cl := VL41) (fun f m s h hs => sums4_ok _ f m s h hs) (fun f c h => vc41 f c h _ _)
theorem r41_ok : RenOk Tryz.prog 18 glT 59 r41 := ⟨V41, 100000000, v41_ok, rfl, rfl, r41_is⟩
theorem R59_4_ok : AllR 59 R59_4 := allR_snoc R59_3_ok r41_ok
theorem vc42 : AllC VL42 := allC_app vc41 (rf59 R59_4_ok)
theorem v42_ok : EnvOk2 Tryz.prog V42 := envE_ok (l := L4) (cl := VL42) (fun f m s h hs => sums4_ok _ f m s h hs) (fun f c h => vc42 f c h _ _)
theorem r42_ok : RenOk Tryz.prog 18 glT 57 r42 := ⟨V42, 100000000, v42_ok, rfl, rfl, r42_is⟩
theorem R57_3_ok : AllR 57 R57_3 := allR_snoc R57_2_ok r42_ok
theorem vc43 : AllC VL43 := allC_app vc42 (rf57 R57_3_ok)
theorem v43_ok : EnvOk2 Tryz.prog V43 := envE_ok (l := L4) (cl := VL43) (fun f m s h hs => sums4_ok _ f m s h hs) (fun f c h => vc43 f c h _ _)
theorem r43_ok : RenOk Tryz.prog 18 glT 142 r43 := ⟨V43, 100000000, v43_ok, rfl, rfl, r43_is⟩
theorem R142_3_ok : AllR 142 R142_3 := allR_snoc R142_2_ok r43_ok
theorem vc44 : AllC VL44 := allC_app vc43 (rf142 R142_3_ok)
theorem v44_ok : EnvOk2 Tryz.prog V44 := envE_ok (l := L4) (cl := VL44) (fun f m s h hs => sums4_ok _ f m s h hs) (fun f c h => vc44 f c h _ _)
theorem r44_ok : RenOk Tryz.prog 18 glT 223 r44 := ⟨V44, 100000000, v44_ok, rfl, rfl, r44_is⟩
theorem R223_8_ok : AllR 223 R223_8 := allR_snoc R223_7_ok r44_ok
theorem vc45 : AllC VL45 := allC_app vc44 (rf223 R223_8_ok)
theorem v45_ok : EnvOk2 Tryz.prog V45 := envE_ok (l := L4) (cl := VL45) (fun f m s h hs => sums4_ok _ f m s h hs) (fun f c h => vc45 f c h _ _)
theorem r45_ok : RenOk Tryz.prog 18 glT 223 r45 := ⟨V45, 100000000, v45_ok, rfl, rfl, r45_is⟩
theorem R223_9_ok : AllR 223 R223_9 := allR_snoc R223_8_ok r45_ok
theorem vc46 : AllC VL46 := allC_app vc45 (rf223 R223_9_ok)
theorem v46_ok : EnvOk2 Tryz.prog V46 := envE_ok (l := L4) (cl := VL46) (fun f m s h hs => sums4_ok _ f m s h hs) (fun f c h => vc46 f c h _ _)
theorem r46_ok : RenOk Tryz.prog 18 glT 223 r46 := ⟨V46, 100000000, v46_ok, rfl, rfl, r46_is⟩
theorem R223_10_ok : AllR 223 R223_10 := allR_snoc R223_9_ok r46_ok
theorem vc47 : AllC VL47 := allC_app vc46 (rf223 R223_10_ok)
theorem v47_ok : EnvOk2 Tryz.prog V47 := envE_ok (l := L4) (cl := VL47) (fun f m s h hs => sums4_ok _ f m s h hs) (fun f c h => vc47 f c h _ _)
theorem r47_ok : RenOk Tryz.prog 18 glT 276 r47 := ⟨V47, 100000000, v47_ok, rfl, rfl, r47_is⟩
theorem R276_5_ok : AllR 276 R276_5 := allR_snoc R276_4_ok r47_ok
theorem vc48 : AllC VL48 := allC_app vc47 (rf276 R276_5_ok)
theorem v48_ok : EnvOk2 Tryz.prog V48 := envE_ok (l := L4) (cl := VL48) (fun f m s h hs => sums4_ok _ f m s h hs) (fun f c h => vc48 f c h _ _)
theorem r48_ok : RenOk Tryz.prog 18 glT 276 r48 := ⟨V48, 100000000, v48_ok, rfl, rfl, r48_is⟩
theorem R276_6_ok : AllR 276 R276_6 := allR_snoc R276_5_ok r48_ok
theorem vc49 : AllC VL49 := allC_app vc48 (rf276 R276_6_ok)
theorem v49_ok : EnvOk2 Tryz.prog V49 := envE_ok (l := L4) (cl := VL49) (fun f m s h hs => sums4_ok _ f m s h hs) (fun f c h => vc49 f c h _ _)
theorem r49_ok : RenOk Tryz.prog 18 glT 210 r49 := ⟨V49, 100000000, v49_ok, rfl, rfl, r49_is⟩
theorem R210_8_ok : AllR 210 R210_8 := allR_snoc R210_7_ok r49_ok
theorem vc50 : AllC VL50 := allC_app vc49 (rf210 R210_8_ok)
theorem v50_ok : EnvOk2 Tryz.prog V50 := envE_ok (l := L4) (cl := VL50) (fun f m s h hs => sums4_ok _ f m s h hs) (fun f c h => vc50 f c h _ _)
theorem r50_ok : RenOk Tryz.prog 18 glT 277 r50 := ⟨V50, 100000000, v50_ok, rfl, rfl, r50_is⟩
theorem R277_6_ok : AllR 277 R277_6 := allR_snoc R277_5_ok r50_ok
theorem vc51 : AllC VL51 := allC_app vc50 (rf277 R277_6_ok)
theorem v51_ok : EnvOk2 Tryz.prog V51 := envE_ok (l := L4) (cl := VL51) (fun f m s h hs => sums4_ok _ f m s h hs) (fun f c h => vc51 f c h _ _)
theorem r51_ok : RenOk Tryz.prog 18 glT 210 r51 := ⟨V51, 100000000, v51_ok, rfl, rfl, r51_is⟩
theorem R210_9_ok : AllR 210 R210_9 := allR_snoc R210_8_ok r51_ok
theorem vc52 : AllC VL52 := allC_app vc51 (rf210 R210_9_ok)
theorem v52_ok : EnvOk2 Tryz.prog V52 := envE_ok (l := L4) (cl := VL52) (fun f m s h hs => sums4_ok _ f m s h hs) (fun f c h => vc52 f c h _ _)
theorem r52_ok : RenOk Tryz.prog 18 glT 277 r52 := ⟨V52, 100000000, v52_ok, rfl, rfl, r52_is⟩
theorem R277_7_ok : AllR 277 R277_7 := allR_snoc R277_6_ok r52_ok
theorem vc53 : AllC VL53 := allC_app vc52 (rf277 R277_7_ok)
theorem v53_ok : EnvOk2 Tryz.prog V53 := envE_ok (l := L4) (cl := VL53) (fun f m s h hs => sums4_ok _ f m s h hs) (fun f c h => vc53 f c h _ _)
theorem r53_ok : RenOk Tryz.prog 18 glT 210 r53 := ⟨V53, 100000000, v53_ok, rfl, rfl, r53_is⟩
theorem R210_10_ok : AllR 210 R210_10 := allR_snoc R210_9_ok r53_ok
theorem vc54 : AllC VL54 := allC_app vc53 (rf210 R210_10_ok)
theorem v54_ok : EnvOk2 Tryz.prog V54 := envE_ok (l := L4) (cl := VL54) (fun f m s h hs => sums4_ok _ f m s h hs) (fun f c h => vc54 f c h _ _)
theorem r54_ok : RenOk Tryz.prog 18 glT 223 r54 := ⟨V54, 100000000, v54_ok, rfl, rfl, r54_is⟩
theorem R223_11_ok : AllR 223 R223_11 := allR_snoc R223_10_ok r54_ok
theorem vc55 : AllC VL55 := allC_app vc54 (rf223 R223_11_ok)
theorem v55_ok : EnvOk2 Tryz.prog V55 := envE_ok (l := L4) (cl := VL55) (fun f m s h hs => sums4_ok _ f m s h hs) (fun f c h => vc55 f c h _ _)
theorem r55_ok : RenOk Tryz.prog 18 glT 277 r55 := ⟨V55, 100000000, v55_ok, rfl, rfl, r55_is⟩
theorem R277_8_ok : AllR 277 R277_8 := allR_snoc R277_7_ok r55_ok
theorem vc56 : AllC VL56 := allC_app vc55 (rf277 R277_8_ok)
theorem v56_ok : EnvOk2 Tryz.prog V56 := envE_ok (l := L4) (cl := VL56) (fun f m s h hs => sums4_ok _ f m s h hs) (fun f c h => vc56 f c h _ _)
theorem r56_ok : RenOk Tryz.prog 18 glT 210 r56 := ⟨V56, 100000000, v56_ok, rfl, rfl, r56_is⟩
theorem R210_11_ok : AllR 210 R210_11 := allR_snoc R210_10_ok r56_ok
theorem vc57 : AllC VL57 := allC_app vc56 (rf210 R210_11_ok)
theorem v57_ok : EnvOk2 Tryz.prog V57 := envE_ok (l := L4) (cl := VL57) (fun f m s h hs => sums4_ok _ f m s h hs) (fun f c h => vc57 f c h _ _)
theorem r57_ok : RenOk Tryz.prog 18 glT 71 r57 := ⟨V57, 100000000, v57_ok, rfl, rfl, r57_is⟩
theorem R71_3_ok : AllR 71 R71_3 := allR_snoc R71_2_ok r57_ok
theorem vc58 : AllC VL58 := allC_app vc57 (rf71 R71_3_ok)
theorem v58_ok : EnvOk2 Tryz.prog V58 := envE_ok (l := L4) (cl := VL58) (fun f m s h hs => sums4_ok _ f m s h hs) (fun f c h => vc58 f c h _ _)
theorem r58_ok : RenOk Tryz.prog 18 glT 100 r58 := ⟨V58, 100000000, v58_ok, rfl, rfl, r58_is⟩
theorem R100_4_ok : AllR 100 R100_4 := allR_snoc R100_3_ok r58_ok
theorem vc59 : AllC VL59 := allC_app vc58 (rf100 R100_4_ok)
theorem v59_ok : EnvOk2 Tryz.prog V59 := envE_ok (l := L4) (cl := VL59) (fun f m s h hs => sums4_ok _ f m s h hs) (fun f c h => vc59 f c h _ _)
theorem r59_ok : RenOk Tryz.prog 18 glT 59 r59 := ⟨V59, 100000000, v59_ok, rfl, rfl, r59_is⟩
theorem R59_5_ok : AllR 59 R59_5 := allR_snoc R59_4_ok r59_ok
theorem vc60 : AllC VL60 := allC_app vc59 (rf59 R59_5_ok)
theorem v60_ok : EnvOk2 Tryz.prog V60 := envE_ok (l := L4) (cl := VL60) (fun f m s h hs => sums4_ok _ f m s h hs) (fun f c h => vc60 f c h _ _)
theorem r60_ok : RenOk Tryz.prog 18 glT 57 r60 := ⟨V60, 100000000, v60_ok, rfl, rfl, r60_is⟩
theorem R57_4_ok : AllR 57 R57_4 := allR_snoc R57_3_ok r60_ok
theorem vc61 : AllC VL61 := allC_app vc60 (rf57 R57_4_ok)
theorem v61_ok : EnvOk2 Tryz.prog V61 := envE_ok (l := L4) (cl := VL61) (fun f m s h hs => sums4_ok _ f m s h hs) (fun f c h => vc61 f c h _ _)
theorem r61_ok : RenOk Tryz.prog 18 glT 142 r61 := ⟨V61, 100000000, v61_ok, rfl, rfl, r61_is⟩
theorem R142_4_ok : AllR 142 R142_4 := allR_snoc R142_3_ok r61_ok
theorem vc62 : AllC VL62 := allC_app vc61 (rf142 R142_4_ok)
theorem v62_ok : EnvOk2 Tryz.prog V62 := envE_ok (l := L4) (cl := VL62) (fun f m s h hs => sums4_ok _ f m s h hs) (fun f c h => vc62 f c h _ _)
theorem r62_ok : RenOk Tryz.prog 18 glT 223 r62 := ⟨V62, 100000000, v62_ok, rfl, rfl, r62_is⟩
theorem R223_12_ok : AllR 223 R223_12 := allR_snoc R223_11_ok r62_ok
theorem vc63 : AllC VL63 := allC_app vc62 (rf223 R223_12_ok)
theorem v63_ok : EnvOk2 Tryz.prog V63 := envE_ok (l := L4) (cl := VL63) (fun f m s h hs => sums4_ok _ f m s h hs) (fun f c h => vc63 f c h _ _)
theorem r63_ok : RenOk Tryz.prog 18 glT 223 r63 := ⟨V63, 100000000, v63_ok, rfl, rfl, r63_is⟩
theorem R223_13_ok : AllR 223 R223_13 := allR_snoc R223_12_ok r63_ok
theorem vc64 : AllC VL64 := allC_app vc63 (rf223 R223_13_ok)
theorem v64_ok : EnvOk2 Tryz.prog V64 := envE_ok (l := L4) (cl := VL64) (fun f m s h hs => sums4_ok _ f m s h hs) (fun f c h => vc64 f c h _ _)
theorem r64_ok : RenOk Tryz.prog 18 glT 276 r64 := ⟨V64, 100000000, v64_ok, rfl, rfl, r64_is⟩
theorem R276_7_ok : AllR 276 R276_7 := allR_snoc R276_6_ok r64_ok
theorem vc65 : AllC VL65 := allC_app vc64 (rf276 R276_7_ok)
theorem v65_ok : EnvOk2 Tryz.prog V65 := envE_ok (l := L4) (cl := VL65) (fun f m s h hs => sums4_ok _ f m s h hs) (fun f c h => vc65 f c h _ _)
theorem r65_ok : RenOk Tryz.prog 18 glT 276 r65 := ⟨V65, 100000000, v65_ok, rfl, rfl, r65_is⟩
theorem R276_8_ok : AllR 276 R276_8 := allR_snoc R276_7_ok r65_ok
theorem vc66 : AllC VL66 := allC_app vc65 (rf276 R276_8_ok)
theorem v66_ok : EnvOk2 Tryz.prog V66 := envE_ok (l := L4) (cl := VL66) (fun f m s h hs => sums4_ok _ f m s h hs) (fun f c h => vc66 f c h _ _)
theorem r66_ok : RenOk Tryz.prog 18 glT 210 r66 := ⟨V66, 100000000, v66_ok, rfl, rfl, r66_is⟩
theorem R210_12_ok : AllR 210 R210_12 := allR_snoc R210_11_ok r66_ok
theorem vc67 : AllC VL67 := allC_app vc66 (rf210 R210_12_ok)
theorem v67_ok : EnvOk2 Tryz.prog V67 := envE_ok (l := L4) (cl := VL67) (fun f m s h hs => sums4_ok _ f m s h hs) (fun f c h => vc67 f c h _ _)
theorem r67_ok : RenOk Tryz.prog 18 glT 277 r67 := ⟨V67, 100000000, v67_ok, rfl, rfl, r67_is⟩
theorem R277_9_ok : AllR 277 R277_9 := allR_snoc R277_8_ok r67_ok
theorem vc68 : AllC VL68 := allC_app vc67 (rf277 R277_9_ok)
theorem v68_ok : EnvOk2 Tryz.prog V68 := envE_ok (l := L4) (cl := VL68) (fun f m s h hs => sums4_ok _ f m s h hs) (fun f c h => vc68 f c h _ _)
theorem r68_ok : RenOk Tryz.prog 18 glT 210 r68 := ⟨V68, 100000000, v68_ok, rfl, rfl, r68_is⟩
theorem R210_13_ok : AllR 210 R210_13 := allR_snoc R210_12_ok r68_ok
theorem vc69 : AllC VL69 := allC_app vc68 (rf210 R210_13_ok)
theorem v69_ok : EnvOk2 Tryz.prog V69 := envE_ok (l := L4) (cl := VL69) (fun f m s h hs => sums4_ok _ f m s h hs) (fun f c h => vc69 f c h _ _)
theorem r69_ok : RenOk Tryz.prog 18 glT 223 r69 := ⟨V69, 100000000, v69_ok, rfl, rfl, r69_is⟩
theorem R223_14_ok : AllR 223 R223_14 := allR_snoc R223_13_ok r69_ok
theorem vc70 : AllC VL70 := allC_app vc69 (rf223 R223_14_ok)
theorem v70_ok : EnvOk2 Tryz.prog V70 := envE_ok (l := L4) (cl := VL70) (fun f m s h hs => sums4_ok _ f m s h hs) (fun f c h => vc70 f c h _ _)
theorem r70_ok : RenOk Tryz.prog 18 glT 277 r70 := ⟨V70, 100000000, v70_ok, rfl, rfl, r70_is⟩
theorem R277_10_ok : AllR 277 R277_10 := allR_snoc R277_9_ok r70_ok
theorem vc71 : AllC VL71 := allC_app vc70 (rf277 R277_10_ok)
theorem v71_ok : EnvOk2 Tryz.prog V71 := envE_ok (l := L4) (cl := VL71) (fun f m s h hs => sums4_ok _ f m s h hs) (fun f c h => vc71 f c h _ _)
theorem r71_ok : RenOk Tryz.prog 18 glT 210 r71 := ⟨V71, 100000000, v71_ok, rfl, rfl, r71_is⟩
theorem R210_14_ok : AllR 210 R210_14 := allR_snoc R210_13_ok r71_ok
theorem vc72 : AllC VL72 := allC_app vc71 (rf210 R210_14_ok)
theorem v72_ok : EnvOk2 Tryz.prog V72 := envE_ok (l := L4) (cl := VL72) (fun f m s h hs => sums4_ok _ f m s h hs) (fun f c h => vc72 f c h _ _)
theorem r72_ok : RenOk Tryz.prog 18 glT 71 r72 := ⟨V72, 100000000, v72_ok, rfl, rfl, r72_is⟩
theorem R71_4_ok : AllR 71 R71_4 := allR_snoc R71_3_ok r72_ok
theorem vc73 : AllC VL73 := allC_app vc72 (rf71 R71_4_ok)
theorem v73_ok : EnvOk2 Tryz.prog V73 := envE_ok (l := L4) (cl := VL73) (fun f m s h hs => sums4_ok _ f m s h hs) (fun f c h => vc73 f c h _ _)
theorem r73_ok : RenOk Tryz.prog 18 glT 100 r73 := ⟨V73, 100000000, v73_ok, rfl, rfl, r73_is⟩
theorem R100_5_ok : AllR 100 R100_5 := allR_snoc R100_4_ok r73_ok
theorem vc74 : AllC VL74 := allC_app vc73 (rf100 R100_5_ok)
theorem v74_ok : EnvOk2 Tryz.prog V74 := envE_ok (l := L4) (cl := VL74) (fun f m s h hs => sums4_ok _ f m s h hs) (fun f c h => vc74 f c h _ _)
theorem r74_ok : RenOk Tryz.prog 18 glT 59 r74 := ⟨V74, 100000000, v74_ok, rfl, rfl, r74_is⟩
theorem R59_6_ok : AllR 59 R59_6 := allR_snoc R59_5_ok r74_ok
theorem vc75 : AllC VL75 := allC_app vc74 (rf59 R59_6_ok)
theorem v75_ok : EnvOk2 Tryz.prog V75 := envE_ok (l := L4) (cl := VL75) (fun f m s h hs => sums4_ok _ f m s h hs) (fun f c h => vc75 f c h _ _)
theorem r75_ok : RenOk Tryz.prog 18 glT 57 r75 := ⟨V75, 100000000, v75_ok, rfl, rfl, r75_is⟩
theorem R57_5_ok : AllR 57 R57_5 := allR_snoc R57_4_ok r75_ok
theorem vc76 : AllC VL76 := allC_app vc75 (rf57 R57_5_ok)
theorem v76_ok : EnvOk2 Tryz.prog V76 := envE_ok (l := L4) (cl := VL76) (fun f m s h hs => sums4_ok _ f m s h hs) (fun f c h => vc76 f c h _ _)
theorem r76_ok : RenOk Tryz.prog 18 glT 142 r76 := ⟨V76, 100000000, v76_ok, rfl, rfl, r76_is⟩
theorem R142_5_ok : AllR 142 R142_5 := allR_snoc R142_4_ok r76_ok
theorem vc77 : AllC VL77 := allC_app vc76 (rf142 R142_5_ok)
theorem v77_ok : EnvOk2 Tryz.prog V77 := envE_ok (l := L4) (cl := VL77) (fun f m s h hs => sums4_ok _ f m s h hs) (fun f c h => vc77 f c h _ _)
theorem r77_ok : RenOk Tryz.prog 18 glT 223 r77 := ⟨V77, 100000000, v77_ok, rfl, rfl, r77_is⟩
theorem R223_15_ok : AllR 223 R223_15 := allR_snoc R223_14_ok r77_ok
theorem vc78 : AllC VL78 := allC_app vc77 (rf223 R223_15_ok)
theorem v78_ok : EnvOk2 Tryz.prog V78 := envE_ok (l := L4) (cl := VL78) (fun f m s h hs => sums4_ok _ f m s h hs) (fun f c h => vc78 f c h _ _)
theorem r78_ok : RenOk Tryz.prog 18 glT 223 r78 := ⟨V78, 100000000, v78_ok, rfl, rfl, r78_is⟩
theorem R223_16_ok : AllR 223 R223_16 := allR_snoc R223_15_ok r78_ok
theorem vc79 : AllC VL79 := allC_app vc78 (rf223 R223_16_ok)
theorem v79_ok : EnvOk2 Tryz.prog V79 := envE_ok (l := L4) (cl := VL79) (fun f m s h hs => sums4_ok _ f m s h hs) (fun f c h => vc79 f c h _ _)
theorem r79_ok : RenOk Tryz.prog 18 glT 276 r79 := ⟨V79, 100000000, v79_ok, rfl, rfl, r79_is⟩
theorem R276_9_ok : AllR 276 R276_9 := allR_snoc R276_8_ok r79_ok
theorem vc80 : AllC VL80 := allC_app vc79 (rf276 R276_9_ok)
theorem v80_ok : EnvOk2 Tryz.prog V80 := envE_ok (l := L4) (cl := VL80) (fun f m s h hs => sums4_ok _ f m s h hs) (fun f c h => vc80 f c h _ _)
theorem r80_ok : RenOk Tryz.prog 18 glT 276 r80 := ⟨V80, 100000000, v80_ok, rfl, rfl, r80_is⟩
theorem R276_10_ok : AllR 276 R276_10 := allR_snoc R276_9_ok r80_ok
theorem vc81 : AllC VL81 := allC_app vc80 (rf276 R276_10_ok)
theorem v81_ok : EnvOk2 Tryz.prog V81 := envE_ok (l := L4) (cl := VL81) (fun f m s h hs => sums4_ok _ f m s h hs) (fun f c h => vc81 f c h _ _)
theorem r81_ok : RenOk Tryz.prog 18 glT 210 r81 := ⟨V81, 100000000, v81_ok, rfl, rfl, r81_is⟩
theorem R210_15_ok : AllR 210 R210_15 := allR_snoc R210_14_ok r81_ok
theorem vc82 : AllC VL82 := allC_app vc81 (rf210 R210_15_ok)
theorem v82_ok : EnvOk2 Tryz.prog V82 := envE_ok (l := L4) (cl := VL82) (fun f m s h hs => sums4_ok _ f m s h hs) (fun f c h => vc82 f c h _ _)
theorem r82_ok : RenOk Tryz.prog 18 glT 277 r82 := ⟨V82, 100000000, v82_ok, rfl, rfl, r82_is⟩
theorem R277_11_ok : AllR 277 R277_11 := allR_snoc R277_10_ok r82_ok
theorem vc83 : AllC VL83 := allC_app vc82 (rf277 R277_11_ok)
theorem v83_ok : EnvOk2 Tryz.prog V83 := envE_ok (l := L4) (cl := VL83) (fun f m s h hs => sums4_ok _ f m s h hs) (fun f c h => vc83 f c h _ _)
theorem r83_ok : RenOk Tryz.prog 18 glT 210 r83 := ⟨V83, 100000000, v83_ok, rfl, rfl, r83_is⟩
theorem R210_16_ok : AllR 210 R210_16 := allR_snoc R210_15_ok r83_ok
theorem vc84 : AllC VL84 := allC_app vc83 (rf210 R210_16_ok)
theorem v84_ok : EnvOk2 Tryz.prog V84 := envE_ok (l := L4) (cl := VL84) (fun f m s h hs => sums4_ok _ f m s h hs) (fun f c h => vc84 f c h _ _)
theorem r84_ok : RenOk Tryz.prog 18 glT 223 r84 := ⟨V84, 100000000, v84_ok, rfl, rfl, r84_is⟩
theorem R223_17_ok : AllR 223 R223_17 := allR_snoc R223_16_ok r84_ok
theorem vc85 : AllC VL85 := allC_app vc84 (rf223 R223_17_ok)
theorem v85_ok : EnvOk2 Tryz.prog V85 := envE_ok (l := L4) (cl := VL85) (fun f m s h hs => sums4_ok _ f m s h hs) (fun f c h => vc85 f c h _ _)
theorem r85_ok : RenOk Tryz.prog 18 glT 277 r85 := ⟨V85, 100000000, v85_ok, rfl, rfl, r85_is⟩
theorem R277_12_ok : AllR 277 R277_12 := allR_snoc R277_11_ok r85_ok
theorem vc86 : AllC VL86 := allC_app vc85 (rf277 R277_12_ok)
theorem v86_ok : EnvOk2 Tryz.prog V86 := envE_ok (l := L4) (cl := VL86) (fun f m s h hs => sums4_ok _ f m s h hs) (fun f c h => vc86 f c h _ _)
theorem r86_ok : RenOk Tryz.prog 18 glT 210 r86 := ⟨V86, 100000000, v86_ok, rfl, rfl, r86_is⟩
theorem R210_17_ok : AllR 210 R210_17 := allR_snoc R210_16_ok r86_ok
theorem vc87 : AllC VL87 := allC_app vc86 (rf210 R210_17_ok)
theorem v87_ok : EnvOk2 Tryz.prog V87 := envE_ok (l := L4) (cl := VL87) (fun f m s h hs => sums4_ok _ f m s h hs) (fun f c h => vc87 f c h _ _)
theorem r87_ok : RenOk Tryz.prog 18 glT 71 r87 := ⟨V87, 100000000, v87_ok, rfl, rfl, r87_is⟩
theorem R71_5_ok : AllR 71 R71_5 := allR_snoc R71_4_ok r87_ok
theorem vc88 : AllC VL88 := allC_app vc87 (rf71 R71_5_ok)
theorem e4_ok : EnvOk2 Tryz.prog E4 := envE_ok (l := L4) (cl := VL88) (fun f m s h hs => sums4_ok _ f m s h hs) (fun f c h => vc88 f c h _ _)
theorem s11_0_holds : Holds 11 s11_0 := holds_of e4_ok s11_0_is Tryz.func11 (by kernel_rfl) (by kernel_rfl)
theorem s11_1_holds : Holds 11 s11_1 := holds_of e4_ok s11_1_is Tryz.func11 (by kernel_rfl) (by kernel_rfl)
theorem s11_2_holds : Holds 11 s11_2 := holds_of e4_ok s11_2_is Tryz.func11 (by kernel_rfl) (by kernel_rfl)
theorem s11_3_holds : Holds 11 s11_3 := holds_of e4_ok s11_3_is Tryz.func11 (by kernel_rfl) (by kernel_rfl)
theorem s11_4_holds : Holds 11 s11_4 := holds_of e4_ok s11_4_is Tryz.func11 (by kernel_rfl) (by kernel_rfl)
theorem s11_5_holds : Holds 11 s11_5 := holds_of e4_ok s11_5_is Tryz.func11 (by kernel_rfl) (by kernel_rfl)
theorem s11_6_holds : Holds 11 s11_6 := holds_of e4_ok s11_6_is Tryz.func11 (by kernel_rfl) (by kernel_rfl)
theorem sums5_ok (C : Tr Ctr) : ∀ f m s, (f, m) ∈ L5 → s ∈ m → SumOk Tryz.prog (envE (trAt L5) C) f s := (fun f m s h hs => by
    simp only [L5, List.mem_cons, List.not_mem_nil, or_false, Prod.mk.injEq] at h
    rcases h with ⟨rfl, rfl⟩ | ⟨rfl, rfl⟩ | ⟨rfl, rfl⟩ | ⟨rfl, rfl⟩ | ⟨rfl, rfl⟩
    · simp only [List.mem_cons, List.not_mem_nil, or_false] at hs
      rcases hs with rfl | rfl | rfl | rfl | rfl | rfl | rfl
      · exact s168_0_holds _ _
      · exact s168_1_holds _ _
      · exact s168_2_holds _ _
      · exact s168_3_holds _ _
      · exact s168_4_holds _ _
      · exact s168_5_holds _ _
      · exact s168_6_holds _ _
    · simp only [List.mem_cons, List.not_mem_nil, or_false] at hs
      rcases hs with rfl | rfl | rfl
      · exact s145_0_holds _ _
      · exact s145_1_holds _ _
      · exact s145_2_holds _ _
    · simp only [List.mem_cons, List.not_mem_nil, or_false] at hs
      rcases hs with rfl | rfl | rfl | rfl | rfl | rfl | rfl
      · exact s53_0_holds _ _
      · exact s53_1_holds _ _
      · exact s53_2_holds _ _
      · exact s53_3_holds _ _
      · exact s53_4_holds _ _
      · exact s53_5_holds _ _
      · exact s53_6_holds _ _
    · simp only [List.mem_cons, List.not_mem_nil, or_false] at hs
      rcases hs with rfl | rfl | rfl | rfl | rfl | rfl | rfl
      · exact s23_0_holds _ _
      · exact s23_1_holds _ _
      · exact s23_2_holds _ _
      · exact s23_3_holds _ _
      · exact s23_4_holds _ _
      · exact s23_5_holds _ _
      · exact s23_6_holds _ _
    · simp only [List.mem_cons, List.not_mem_nil, or_false] at hs
      rcases hs with rfl | rfl | rfl | rfl | rfl | rfl | rfl
      · exact s11_0_holds _ _
      · exact s11_1_holds _ _
      · exact s11_2_holds _ _
      · exact s11_3_holds _ _
      · exact s11_4_holds _ _
      · exact s11_5_holds _ _
      · exact s11_6_holds _ _)
theorem e5_ok : EnvOk2 Tryz.prog E5 := envE_ok (l := L5) (cl := VL88) (fun f m s h hs => sums5_ok _ f m s h hs) (fun f c h => vc88 f c h _ _)
theorem s4_0_holds : Holds 4 s4_0 := holds_of e5_ok s4_0_is Tryz.func4 (by kernel_rfl) (by kernel_rfl)
theorem s4_1_holds : Holds 4 s4_1 := holds_of e5_ok s4_1_is Tryz.func4 (by kernel_rfl) (by kernel_rfl)
theorem s4_2_holds : Holds 4 s4_2 := holds_of e5_ok s4_2_is Tryz.func4 (by kernel_rfl) (by kernel_rfl)
theorem s4_3_holds : Holds 4 s4_3 := holds_of e5_ok s4_3_is Tryz.func4 (by kernel_rfl) (by kernel_rfl)
theorem s4_4_holds : Holds 4 s4_4 := holds_of e5_ok s4_4_is Tryz.func4 (by kernel_rfl) (by kernel_rfl)
theorem s4_5_holds : Holds 4 s4_5 := holds_of e5_ok s4_5_is Tryz.func4 (by kernel_rfl) (by kernel_rfl)
theorem s4_6_holds : Holds 4 s4_6 := holds_of e5_ok s4_6_is Tryz.func4 (by kernel_rfl) (by kernel_rfl)
theorem sums6_ok (C : Tr Ctr) : ∀ f m s, (f, m) ∈ L6 → s ∈ m → SumOk Tryz.prog (envE (trAt L6) C) f s := (fun f m s h hs => by
    simp only [L6, List.mem_cons, List.not_mem_nil, or_false, Prod.mk.injEq] at h
    rcases h with ⟨rfl, rfl⟩ | ⟨rfl, rfl⟩ | ⟨rfl, rfl⟩ | ⟨rfl, rfl⟩ | ⟨rfl, rfl⟩ | ⟨rfl, rfl⟩
    · simp only [List.mem_cons, List.not_mem_nil, or_false] at hs
      rcases hs with rfl | rfl | rfl | rfl | rfl | rfl | rfl
      · exact s168_0_holds _ _
      · exact s168_1_holds _ _
      · exact s168_2_holds _ _
      · exact s168_3_holds _ _
      · exact s168_4_holds _ _
      · exact s168_5_holds _ _
      · exact s168_6_holds _ _
    · simp only [List.mem_cons, List.not_mem_nil, or_false] at hs
      rcases hs with rfl | rfl | rfl
      · exact s145_0_holds _ _
      · exact s145_1_holds _ _
      · exact s145_2_holds _ _
    · simp only [List.mem_cons, List.not_mem_nil, or_false] at hs
      rcases hs with rfl | rfl | rfl | rfl | rfl | rfl | rfl
      · exact s53_0_holds _ _
      · exact s53_1_holds _ _
      · exact s53_2_holds _ _
      · exact s53_3_holds _ _
      · exact s53_4_holds _ _
      · exact s53_5_holds _ _
      · exact s53_6_holds _ _
    · simp only [List.mem_cons, List.not_mem_nil, or_false] at hs
      rcases hs with rfl | rfl | rfl | rfl | rfl | rfl | rfl
      · exact s23_0_holds _ _
      · exact s23_1_holds _ _
      · exact s23_2_holds _ _
      · exact s23_3_holds _ _
      · exact s23_4_holds _ _
      · exact s23_5_holds _ _
      · exact s23_6_holds _ _
    · simp only [List.mem_cons, List.not_mem_nil, or_false] at hs
      rcases hs with rfl | rfl | rfl | rfl | rfl | rfl | rfl
      · exact s11_0_holds _ _
      · exact s11_1_holds _ _
      · exact s11_2_holds _ _
      · exact s11_3_holds _ _
      · exact s11_4_holds _ _
      · exact s11_5_holds _ _
      · exact s11_6_holds _ _
    · simp only [List.mem_cons, List.not_mem_nil, or_false] at hs
      rcases hs with rfl | rfl | rfl | rfl | rfl | rfl | rfl
      · exact s4_0_holds _ _
      · exact s4_1_holds _ _
      · exact s4_2_holds _ _
      · exact s4_3_holds _ _
      · exact s4_4_holds _ _
      · exact s4_5_holds _ _
      · exact s4_6_holds _ _)
theorem v88_ok : EnvOk2 Tryz.prog V88 := envE_ok (l := L6) (cl := VL88) (fun f m s h hs => sums6_ok _ f m s h hs) (fun f c h => vc88 f c h _ _)
theorem r88_ok : RenOk Tryz.prog 18 glT 59 r88 := ⟨V88, 100000000, v88_ok, rfl, rfl, r88_is⟩
theorem R59_7_ok : AllR 59 R59_7 := allR_snoc R59_6_ok r88_ok
theorem vc89 : AllC VL89 := allC_app vc88 (rf59 R59_7_ok)
theorem v89_ok : EnvOk2 Tryz.prog V89 := envE_ok (l := L6) (cl := VL89) (fun f m s h hs => sums6_ok _ f m s h hs) (fun f c h => vc89 f c h _ _)
theorem r89_ok : RenOk Tryz.prog 18 glT 59 r89 := ⟨V89, 100000000, v89_ok, rfl, rfl, r89_is⟩
theorem R59_8_ok : AllR 59 R59_8 := allR_snoc R59_7_ok r89_ok
theorem vc90 : AllC VL90 := allC_app vc89 (rf59 R59_8_ok)
theorem e6_ok : EnvOk2 Tryz.prog E6 := envE_ok (l := L6) (cl := VL90) (fun f m s h hs => sums6_ok _ f m s h hs) (fun f c h => vc90 f c h _ _)
theorem s5_0_holds : Holds 5 s5_0 := holds_of e6_ok s5_0_is Tryz.func5 (by kernel_rfl) (by kernel_rfl)
theorem s5_1_holds : Holds 5 s5_1 := holds_of e6_ok s5_1_is Tryz.func5 (by kernel_rfl) (by kernel_rfl)
theorem sums7_ok (C : Tr Ctr) : ∀ f m s, (f, m) ∈ L7 → s ∈ m → SumOk Tryz.prog (envE (trAt L7) C) f s := (fun f m s h hs => by
    simp only [L7, List.mem_cons, List.not_mem_nil, or_false, Prod.mk.injEq] at h
    rcases h with ⟨rfl, rfl⟩ | ⟨rfl, rfl⟩ | ⟨rfl, rfl⟩ | ⟨rfl, rfl⟩ | ⟨rfl, rfl⟩ | ⟨rfl, rfl⟩ | ⟨rfl, rfl⟩
    · simp only [List.mem_cons, List.not_mem_nil, or_false] at hs
      rcases hs with rfl | rfl | rfl | rfl | rfl | rfl | rfl
      · exact s168_0_holds _ _
      · exact s168_1_holds _ _
      · exact s168_2_holds _ _
      · exact s168_3_holds _ _
      · exact s168_4_holds _ _
      · exact s168_5_holds _ _
      · exact s168_6_holds _ _
    · simp only [List.mem_cons, List.not_mem_nil, or_false] at hs
      rcases hs with rfl | rfl | rfl
      · exact s145_0_holds _ _
      · exact s145_1_holds _ _
      · exact s145_2_holds _ _
    · simp only [List.mem_cons, List.not_mem_nil, or_false] at hs
      rcases hs with rfl | rfl | rfl | rfl | rfl | rfl | rfl
      · exact s53_0_holds _ _
      · exact s53_1_holds _ _
      · exact s53_2_holds _ _
      · exact s53_3_holds _ _
      · exact s53_4_holds _ _
      · exact s53_5_holds _ _
      · exact s53_6_holds _ _
    · simp only [List.mem_cons, List.not_mem_nil, or_false] at hs
      rcases hs with rfl | rfl | rfl | rfl | rfl | rfl | rfl
      · exact s23_0_holds _ _
      · exact s23_1_holds _ _
      · exact s23_2_holds _ _
      · exact s23_3_holds _ _
      · exact s23_4_holds _ _
      · exact s23_5_holds _ _
      · exact s23_6_holds _ _
    · simp only [List.mem_cons, List.not_mem_nil, or_false] at hs
      rcases hs with rfl | rfl | rfl | rfl | rfl | rfl | rfl
      · exact s11_0_holds _ _
      · exact s11_1_holds _ _
      · exact s11_2_holds _ _
      · exact s11_3_holds _ _
      · exact s11_4_holds _ _
      · exact s11_5_holds _ _
      · exact s11_6_holds _ _
    · simp only [List.mem_cons, List.not_mem_nil, or_false] at hs
      rcases hs with rfl | rfl | rfl | rfl | rfl | rfl | rfl
      · exact s4_0_holds _ _
      · exact s4_1_holds _ _
      · exact s4_2_holds _ _
      · exact s4_3_holds _ _
      · exact s4_4_holds _ _
      · exact s4_5_holds _ _
      · exact s4_6_holds _ _
    · simp only [List.mem_cons, List.not_mem_nil, or_false] at hs
      rcases hs with rfl | rfl
      · exact s5_0_holds _ _
      · exact s5_1_holds _ _)
theorem v90_ok : EnvOk2 Tryz.prog V90 := envE_ok (l := L7) (cl := VL90) (fun f m s h hs => sums7_ok _ f m s h hs) (fun f c h => vc90 f c h _ _)
theorem r90_ok : RenOk Tryz.prog 18 glT 71 r90 := ⟨V90, 100000000, v90_ok, rfl, rfl, r90_is⟩
theorem R71_6_ok : AllR 71 R71_6 := allR_snoc R71_5_ok r90_ok
theorem vc91 : AllC VL91 := allC_app vc90 (rf71 R71_6_ok)
theorem v91_ok : EnvOk2 Tryz.prog V91 := envE_ok (l := L7) (cl := VL91) (fun f m s h hs => sums7_ok _ f m s h hs) (fun f c h => vc91 f c h _ _)
theorem r91_ok : RenOk Tryz.prog 18 glT 145 r91 := ⟨V91, 100000000, v91_ok, rfl, rfl, r91_is⟩
theorem R145_1_ok : AllR 145 R145_1 := allR_one r91_ok
theorem vc92 : AllC VL92 := allC_app vc91 (rf145 R145_1_ok)
theorem v92_ok : EnvOk2 Tryz.prog V92 := envE_ok (l := L7) (cl := VL92) (fun f m s h hs => sums7_ok _ f m s h hs) (fun f c h => vc92 f c h _ _)
theorem r92_ok : RenOk Tryz.prog 18 glT 81 r92 := ⟨V92, 100000000, v92_ok, rfl, rfl, r92_is⟩
theorem R81_1_ok : AllR 81 R81_1 := allR_one r92_ok
theorem vc93 : AllC VL93 := allC_app vc92 (rf81 R81_1_ok)
theorem v93_ok : EnvOk2 Tryz.prog V93 := envE_ok (l := L7) (cl := VL93) (fun f m s h hs => sums7_ok _ f m s h hs) (fun f c h => vc93 f c h _ _)
theorem r93_ok : RenOk Tryz.prog 18 glT 41 r93 := ⟨V93, 100000000, v93_ok, rfl, rfl, r93_is⟩
theorem R41_1_ok : AllR 41 R41_1 := allR_one r93_ok
theorem vc94 : AllC VL94 := allC_app vc93 (rf41 R41_1_ok)
theorem v94_ok : EnvOk2 Tryz.prog V94 := envE_ok (l := L7) (cl := VL94) (fun f m s h hs => sums7_ok _ f m s h hs) (fun f c h => vc94 f c h _ _)
theorem r94_ok : RenOk Tryz.prog 18 glT 145 r94 := ⟨V94, 100000000, v94_ok, rfl, rfl, r94_is⟩
theorem R145_2_ok : AllR 145 R145_2 := allR_snoc R145_1_ok r94_ok
theorem vc95 : AllC VL95 := allC_app vc94 (rf145 R145_2_ok)
theorem v95_ok : EnvOk2 Tryz.prog V95 := envE_ok (l := L7) (cl := VL95) (fun f m s h hs => sums7_ok _ f m s h hs) (fun f c h => vc95 f c h _ _)
theorem r95_ok : RenOk Tryz.prog 18 glT 145 r95 := ⟨V95, 100000000, v95_ok, rfl, rfl, r95_is⟩
theorem R145_3_ok : AllR 145 R145_3 := allR_snoc R145_2_ok r95_ok
theorem vc96 : AllC VL96 := allC_app vc95 (rf145 R145_3_ok)
theorem v96_ok : EnvOk2 Tryz.prog V96 := envE_ok (l := L7) (cl := VL96) (fun f m s h hs => sums7_ok _ f m s h hs) (fun f c h => vc96 f c h _ _)
theorem r96_ok : RenOk Tryz.prog 18 glT 145 r96 := ⟨V96, 100000000, v96_ok, rfl, rfl, r96_is⟩
theorem R145_4_ok : AllR 145 R145_4 := allR_snoc R145_3_ok r96_ok
theorem vc97 : AllC VL97 := allC_app vc96 (rf145 R145_4_ok)
theorem v97_ok : EnvOk2 Tryz.prog V97 := envE_ok (l := L7) (cl := VL97) (fun f m s h hs => sums7_ok _ f m s h hs) (fun f c h => vc97 f c h _ _)
theorem r97_ok : RenOk Tryz.prog 18 glT 81 r97 := ⟨V97, 100000000, v97_ok, rfl, rfl, r97_is⟩
theorem R81_2_ok : AllR 81 R81_2 := allR_snoc R81_1_ok r97_ok
theorem vc98 : AllC VL98 := allC_app vc97 (rf81 R81_2_ok)
theorem v98_ok : EnvOk2 Tryz.prog V98 := envE_ok (l := L7) (cl := VL98) (fun f m s h hs => sums7_ok _ f m s h hs) (fun f c h => vc98 f c h _ _)
theorem r98_ok : RenOk Tryz.prog 18 glT 145 r98 := ⟨V98, 100000000, v98_ok, rfl, rfl, r98_is⟩
theorem R145_5_ok : AllR 145 R145_5 := allR_snoc R145_4_ok r98_ok
theorem vc99 : AllC VL99 := allC_app vc98 (rf145 R145_5_ok)
theorem v99_ok : EnvOk2 Tryz.prog V99 := envE_ok (l := L7) (cl := VL99) (fun f m s h hs => sums7_ok _ f m s h hs) (fun f c h => vc99 f c h _ _)
theorem r99_ok : RenOk Tryz.prog 18 glT 81 r99 := ⟨V99, 100000000, v99_ok, rfl, rfl, r99_is⟩
theorem R81_3_ok : AllR 81 R81_3 := allR_snoc R81_2_ok r99_ok
theorem vc100 : AllC VL100 := allC_app vc99 (rf81 R81_3_ok)
theorem v100_ok : EnvOk2 Tryz.prog V100 := envE_ok (l := L7) (cl := VL100) (fun f m s h hs => sums7_ok _ f m s h hs) (fun f c h => vc100 f c h _ _)
theorem r100_ok : RenOk Tryz.prog 18 glT 41 r100 := ⟨V100, 100000000, v100_ok, rfl, rfl, r100_is⟩
theorem R41_2_ok : AllR 41 R41_2 := allR_snoc R41_1_ok r100_ok
theorem vc101 : AllC VL101 := allC_app vc100 (rf41 R41_2_ok)
theorem v101_ok : EnvOk2 Tryz.prog V101 := envE_ok (l := L7) (cl := VL101) (fun f m s h hs => sums7_ok _ f m s h hs) (fun f c h => vc101 f c h _ _)
theorem r101_ok : RenOk Tryz.prog 18 glT 59 r101 := ⟨V101, 100000000, v101_ok, rfl, rfl, r101_is⟩
theorem R59_9_ok : AllR 59 R59_9 := allR_snoc R59_8_ok r101_ok
theorem vc102 : AllC VL102 := allC_app vc101 (rf59 R59_9_ok)
theorem v102_ok : EnvOk2 Tryz.prog V102 := envE_ok (l := L7) (cl := VL102) (fun f m s h hs => sums7_ok _ f m s h hs) (fun f c h => vc102 f c h _ _)
theorem r102_ok : RenOk Tryz.prog 18 glT 145 r102 := ⟨V102, 100000000, v102_ok, rfl, rfl, r102_is⟩
theorem R145_6_ok : AllR 145 R145_6 := allR_snoc R145_5_ok r102_ok
theorem vc103 : AllC VL103 := allC_app vc102 (rf145 R145_6_ok)
theorem v103_ok : EnvOk2 Tryz.prog V103 := envE_ok (l := L7) (cl := VL103) (fun f m s h hs => sums7_ok _ f m s h hs) (fun f c h => vc103 f c h _ _)
theorem r103_ok : RenOk Tryz.prog 18 glT 145 r103 := ⟨V103, 100000000, v103_ok, rfl, rfl, r103_is⟩
theorem R145_7_ok : AllR 145 R145_7 := allR_snoc R145_6_ok r103_ok
theorem vc104 : AllC VL104 := allC_app vc103 (rf145 R145_7_ok)
theorem v104_ok : EnvOk2 Tryz.prog V104 := envE_ok (l := L7) (cl := VL104) (fun f m s h hs => sums7_ok _ f m s h hs) (fun f c h => vc104 f c h _ _)
theorem r104_ok : RenOk Tryz.prog 18 glT 145 r104 := ⟨V104, 100000000, v104_ok, rfl, rfl, r104_is⟩
theorem R145_8_ok : AllR 145 R145_8 := allR_snoc R145_7_ok r104_ok
theorem vc105 : AllC VL105 := allC_app vc104 (rf145 R145_8_ok)
theorem v105_ok : EnvOk2 Tryz.prog V105 := envE_ok (l := L7) (cl := VL105) (fun f m s h hs => sums7_ok _ f m s h hs) (fun f c h => vc105 f c h _ _)
theorem r105_ok : RenOk Tryz.prog 18 glT 145 r105 := ⟨V105, 100000000, v105_ok, rfl, rfl, r105_is⟩
theorem R145_9_ok : AllR 145 R145_9 := allR_snoc R145_8_ok r105_ok
theorem vc106 : AllC VL106 := allC_app vc105 (rf145 R145_9_ok)
theorem v106_ok : EnvOk2 Tryz.prog V106 := envE_ok (l := L7) (cl := VL106) (fun f m s h hs => sums7_ok _ f m s h hs) (fun f c h => vc106 f c h _ _)
theorem r106_ok : RenOk Tryz.prog 18 glT 81 r106 := ⟨V106, 100000000, v106_ok, rfl, rfl, r106_is⟩
theorem R81_4_ok : AllR 81 R81_4 := allR_snoc R81_3_ok r106_ok
theorem vc107 : AllC VL107 := allC_app vc106 (rf81 R81_4_ok)
theorem v107_ok : EnvOk2 Tryz.prog V107 := envE_ok (l := L7) (cl := VL107) (fun f m s h hs => sums7_ok _ f m s h hs) (fun f c h => vc107 f c h _ _)
theorem r107_ok : RenOk Tryz.prog 18 glT 145 r107 := ⟨V107, 100000000, v107_ok, rfl, rfl, r107_is⟩
theorem R145_10_ok : AllR 145 R145_10 := allR_snoc R145_9_ok r107_ok
theorem vc108 : AllC VL108 := allC_app vc107 (rf145 R145_10_ok)
theorem v108_ok : EnvOk2 Tryz.prog V108 := envE_ok (l := L7) (cl := VL108) (fun f m s h hs => sums7_ok _ f m s h hs) (fun f c h => vc108 f c h _ _)
theorem r108_ok : RenOk Tryz.prog 18 glT 81 r108 := ⟨V108, 100000000, v108_ok, rfl, rfl, r108_is⟩
theorem R81_5_ok : AllR 81 R81_5 := allR_snoc R81_4_ok r108_ok
theorem vc109 : AllC VL109 := allC_app vc108 (rf81 R81_5_ok)
theorem v109_ok : EnvOk2 Tryz.prog V109 := envE_ok (l := L7) (cl := VL109) (fun f m s h hs => sums7_ok _ f m s h hs) (fun f c h => vc109 f c h _ _)
theorem r109_ok : RenOk Tryz.prog 18 glT 41 r109 := ⟨V109, 100000000, v109_ok, rfl, rfl, r109_is⟩
theorem R41_3_ok : AllR 41 R41_3 := allR_snoc R41_2_ok r109_ok
theorem vc110 : AllC VL110 := allC_app vc109 (rf41 R41_3_ok)
theorem v110_ok : EnvOk2 Tryz.prog V110 := envE_ok (l := L7) (cl := VL110) (fun f m s h hs => sums7_ok _ f m s h hs) (fun f c h => vc110 f c h _ _)
theorem r110_ok : RenOk Tryz.prog 18 glT 59 r110 := ⟨V110, 100000000, v110_ok, rfl, rfl, r110_is⟩
theorem R59_10_ok : AllR 59 R59_10 := allR_snoc R59_9_ok r110_ok
theorem vc111 : AllC VL111 := allC_app vc110 (rf59 R59_10_ok)
theorem v111_ok : EnvOk2 Tryz.prog V111 := envE_ok (l := L7) (cl := VL111) (fun f m s h hs => sums7_ok _ f m s h hs) (fun f c h => vc111 f c h _ _)
theorem r111_ok : RenOk Tryz.prog 18 glT 145 r111 := ⟨V111, 100000000, v111_ok, rfl, rfl, r111_is⟩
theorem R145_11_ok : AllR 145 R145_11 := allR_snoc R145_10_ok r111_ok
theorem vc112 : AllC VL112 := allC_app vc111 (rf145 R145_11_ok)
theorem v112_ok : EnvOk2 Tryz.prog V112 := envE_ok (l := L7) (cl := VL112) (fun f m s h hs => sums7_ok _ f m s h hs) (fun f c h => vc112 f c h _ _)
theorem r112_ok : RenOk Tryz.prog 18 glT 81 r112 := ⟨V112, 100000000, v112_ok, rfl, rfl, r112_is⟩
theorem R81_6_ok : AllR 81 R81_6 := allR_snoc R81_5_ok r112_ok
theorem vc113 : AllC VL113 := allC_app vc112 (rf81 R81_6_ok)
theorem v113_ok : EnvOk2 Tryz.prog V113 := envE_ok (l := L7) (cl := VL113) (fun f m s h hs => sums7_ok _ f m s h hs) (fun f c h => vc113 f c h _ _)
theorem r113_ok : RenOk Tryz.prog 18 glT 41 r113 := ⟨V113, 100000000, v113_ok, rfl, rfl, r113_is⟩
theorem R41_4_ok : AllR 41 R41_4 := allR_snoc R41_3_ok r113_ok
theorem vc114 : AllC VL114 := allC_app vc113 (rf41 R41_4_ok)
theorem v114_ok : EnvOk2 Tryz.prog V114 := envE_ok (l := L7) (cl := VL114) (fun f m s h hs => sums7_ok _ f m s h hs) (fun f c h => vc114 f c h _ _)
theorem r114_ok : RenOk Tryz.prog 18 glT 59 r114 := ⟨V114, 100000000, v114_ok, rfl, rfl, r114_is⟩
theorem R59_11_ok : AllR 59 R59_11 := allR_snoc R59_10_ok r114_ok
theorem vc115 : AllC VL115 := allC_app vc114 (rf59 R59_11_ok)
theorem v115_ok : EnvOk2 Tryz.prog V115 := envE_ok (l := L7) (cl := VL115) (fun f m s h hs => sums7_ok _ f m s h hs) (fun f c h => vc115 f c h _ _)
theorem r115_ok : RenOk Tryz.prog 18 glT 145 r115 := ⟨V115, 100000000, v115_ok, rfl, rfl, r115_is⟩
theorem R145_12_ok : AllR 145 R145_12 := allR_snoc R145_11_ok r115_ok
theorem vc116 : AllC VL116 := allC_app vc115 (rf145 R145_12_ok)
theorem v116_ok : EnvOk2 Tryz.prog V116 := envE_ok (l := L7) (cl := VL116) (fun f m s h hs => sums7_ok _ f m s h hs) (fun f c h => vc116 f c h _ _)
theorem r116_ok : RenOk Tryz.prog 18 glT 81 r116 := ⟨V116, 100000000, v116_ok, rfl, rfl, r116_is⟩
theorem R81_7_ok : AllR 81 R81_7 := allR_snoc R81_6_ok r116_ok
theorem vc117 : AllC VL117 := allC_app vc116 (rf81 R81_7_ok)
theorem v117_ok : EnvOk2 Tryz.prog V117 := envE_ok (l := L7) (cl := VL117) (fun f m s h hs => sums7_ok _ f m s h hs) (fun f c h => vc117 f c h _ _)
theorem r117_ok : RenOk Tryz.prog 18 glT 41 r117 := ⟨V117, 100000000, v117_ok, rfl, rfl, r117_is⟩
theorem R41_5_ok : AllR 41 R41_5 := allR_snoc R41_4_ok r117_ok
theorem vc118 : AllC VL118 := allC_app vc117 (rf41 R41_5_ok)
theorem v118_ok : EnvOk2 Tryz.prog V118 := envE_ok (l := L7) (cl := VL118) (fun f m s h hs => sums7_ok _ f m s h hs) (fun f c h => vc118 f c h _ _)
theorem r118_ok : RenOk Tryz.prog 18 glT 59 r118 := ⟨V118, 100000000, v118_ok, rfl, rfl, r118_is⟩
theorem R59_12_ok : AllR 59 R59_12 := allR_snoc R59_11_ok r118_ok
theorem vc119 : AllC VL119 := allC_app vc118 (rf59 R59_12_ok)
theorem v119_ok : EnvOk2 Tryz.prog V119 := envE_ok (l := L7) (cl := VL119) (fun f m s h hs => sums7_ok _ f m s h hs) (fun f c h => vc119 f c h _ _)
theorem r119_ok : RenOk Tryz.prog 18 glT 81 r119 := ⟨V119, 100000000, v119_ok, rfl, rfl, r119_is⟩
theorem R81_8_ok : AllR 81 R81_8 := allR_snoc R81_7_ok r119_ok
theorem vc120 : AllC VL120 := allC_app vc119 (rf81 R81_8_ok)
theorem v120_ok : EnvOk2 Tryz.prog V120 := envE_ok (l := L7) (cl := VL120) (fun f m s h hs => sums7_ok _ f m s h hs) (fun f c h => vc120 f c h _ _)
theorem r120_ok : RenOk Tryz.prog 18 glT 41 r120 := ⟨V120, 100000000, v120_ok, rfl, rfl, r120_is⟩
theorem R41_6_ok : AllR 41 R41_6 := allR_snoc R41_5_ok r120_ok
theorem vc121 : AllC VL121 := allC_app vc120 (rf41 R41_6_ok)
theorem e7_ok : EnvOk2 Tryz.prog E7 := envE_ok (l := L7) (cl := VL121) (fun f m s h hs => sums7_ok _ f m s h hs) (fun f c h => vc121 f c h _ _)
theorem m161_ok : MemoOk Tryz.prog 18 glT 21 m161 := ⟨E7, 100000000, e7_ok, rfl, rfl, m161_is⟩
theorem m162_ok : MemoOk Tryz.prog 18 glT 21 m162 := ⟨E7, 100000000, e7_ok, rfl, rfl, m162_is⟩
theorem m163_ok : MemoOk Tryz.prog 18 glT 21 m163 := ⟨E7, 100000000, e7_ok, rfl, rfl, m163_is⟩
theorem m164_ok : MemoOk Tryz.prog 18 glT 21 m164 := ⟨E7, 100000000, e7_ok, rfl, rfl, m164_is⟩
theorem m165_ok : MemoOk Tryz.prog 18 glT 21 m165 := ⟨E7, 100000000, e7_ok, rfl, rfl, m165_is⟩
theorem uc166 : AllC CL166 := allC_app vc121 (fun f c h T C => by
    simp only [List.mem_cons, List.not_mem_nil, or_false, Prod.mk.injEq] at h
    obtain ⟨rfl, rfl⟩ := h
    · refine memos_ok _ _ Tryz.func21 (by kernel_rfl) (by kernel_rfl) fun e he => ?_
      simp only [List.mem_cons, List.not_mem_nil, or_false] at he
      rcases he with rfl | rfl | rfl | rfl | rfl
      · exact m161_ok
      · exact m162_ok
      · exact m163_ok
      · exact m164_ok
      · exact m165_ok)
theorem u166_ok : EnvOk2 Tryz.prog U166 := envE_ok (l := L7) (cl := CL166) (fun f m s h hs => sums7_ok _ f m s h hs) (fun f c h => uc166 f c h _ _)
theorem s10_0_holds : Holds 10 s10_0 := holds_of u166_ok s10_0_is Tryz.func10 (by kernel_rfl) (by kernel_rfl)
theorem sums8_ok (C : Tr Ctr) : ∀ f m s, (f, m) ∈ L8 → s ∈ m → SumOk Tryz.prog (envE (trAt L8) C) f s := (fun f m s h hs => by
    simp only [L8, List.mem_cons, List.not_mem_nil, or_false, Prod.mk.injEq] at h
    rcases h with ⟨rfl, rfl⟩ | ⟨rfl, rfl⟩ | ⟨rfl, rfl⟩ | ⟨rfl, rfl⟩ | ⟨rfl, rfl⟩ | ⟨rfl, rfl⟩ | ⟨rfl, rfl⟩ | ⟨rfl, rfl⟩
    · simp only [List.mem_cons, List.not_mem_nil, or_false] at hs
      rcases hs with rfl | rfl | rfl | rfl | rfl | rfl | rfl
      · exact s168_0_holds _ _
      · exact s168_1_holds _ _
      · exact s168_2_holds _ _
      · exact s168_3_holds _ _
      · exact s168_4_holds _ _
      · exact s168_5_holds _ _
      · exact s168_6_holds _ _
    · simp only [List.mem_cons, List.not_mem_nil, or_false] at hs
      rcases hs with rfl | rfl | rfl
      · exact s145_0_holds _ _
      · exact s145_1_holds _ _
      · exact s145_2_holds _ _
    · simp only [List.mem_cons, List.not_mem_nil, or_false] at hs
      rcases hs with rfl | rfl | rfl | rfl | rfl | rfl | rfl
      · exact s53_0_holds _ _
      · exact s53_1_holds _ _
      · exact s53_2_holds _ _
      · exact s53_3_holds _ _
      · exact s53_4_holds _ _
      · exact s53_5_holds _ _
      · exact s53_6_holds _ _
    · simp only [List.mem_cons, List.not_mem_nil, or_false] at hs
      rcases hs with rfl | rfl | rfl | rfl | rfl | rfl | rfl
      · exact s23_0_holds _ _
      · exact s23_1_holds _ _
      · exact s23_2_holds _ _
      · exact s23_3_holds _ _
      · exact s23_4_holds _ _
      · exact s23_5_holds _ _
      · exact s23_6_holds _ _
    · simp only [List.mem_cons, List.not_mem_nil, or_false] at hs
      rcases hs with rfl | rfl | rfl | rfl | rfl | rfl | rfl
      · exact s11_0_holds _ _
      · exact s11_1_holds _ _
      · exact s11_2_holds _ _
      · exact s11_3_holds _ _
      · exact s11_4_holds _ _
      · exact s11_5_holds _ _
      · exact s11_6_holds _ _
    · simp only [List.mem_cons, List.not_mem_nil, or_false] at hs
      rcases hs with rfl | rfl | rfl | rfl | rfl | rfl | rfl
      · exact s4_0_holds _ _
      · exact s4_1_holds _ _
      · exact s4_2_holds _ _
      · exact s4_3_holds _ _
      · exact s4_4_holds _ _
      · exact s4_5_holds _ _
      · exact s4_6_holds _ _
    · simp only [List.mem_cons, List.not_mem_nil, or_false] at hs
      rcases hs with rfl | rfl
      · exact s5_0_holds _ _
      · exact s5_1_holds _ _
    · simp only [List.mem_cons, List.not_mem_nil, or_false] at hs
      rcases hs with rfl
      · exact s10_0_holds _ _)
theorem e8_ok : EnvOk2 Tryz.prog E8 := envE_ok (l := L8) (cl := VL121) (fun f m s h hs => sums8_ok _ f m s h hs) (fun f c h => vc121 f c h _ _)
end Go.Ev
