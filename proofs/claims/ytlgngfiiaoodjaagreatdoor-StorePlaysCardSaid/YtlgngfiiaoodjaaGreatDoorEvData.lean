/- An evaluator for runs whose inputs are closed: its data, its numbers, its strings, its tables. The functions that build data go on in a continuation, so that what they build stands worked out. -/
import GoSem.Step
set_option linter.unusedVariables false
set_option linter.unusedSimpArgs false
/- An evaluator for runs whose inputs are closed: its data, its numbers, its strings, its tables. The functions that build data go on in a continuation, so that what they build stands worked out. -/
namespace Go.Ev

inductive Pos where
  | h
  | o (p : Pos)
  | i (p : Pos)
  deriving Inhabited, DecidableEq

inductive Tr (α : Type) where
  | e : Tr α
  | n (l : Tr α) (v : Option α) (r : Tr α) : Tr α

noncomputable def posRec {β : Type} (h : β) (o i : Pos → β → β) (p : Pos) : β := Pos.rec h o i p
noncomputable def fuelRec {X : Type} (z : X) (s : (Unit → X) → X) (n : Nat) : X := Nat.rec z (fun _ ih => s (fun _ => ih)) n
noncomputable def trRec {α β : Type} (z : β) (s : (Unit → β) → Option α → (Unit → β) → β) (t : Tr α) : β := Tr.rec z (fun _ v _ il ir => s (fun _ => il) v (fun _ => ir)) t
noncomputable def lrec {α X : Type} (z : X) (s : α → List α → (Unit → X) → X) (l : List α) : X := List.rec z (fun a l ih => s a l (fun _ => ih)) l
def ob {α β : Type} (o : Option α) (f : α → Option β) : Option β := Option.casesOn o none f

/-- terms over unknown ints -/
inductive Tm where
  | v (i : Nat)
  | c (n : Int)
  | bin (op : BinOp) (k : IntKind) (a b : Tm)
  | conv (k : IntKind) (a : Tm)
  deriving Inhabited
/-- what is known of them -/
inductive Cd where
  | lt (a b : Tm) (r : Bool)
  | eq (a b : Tm) (r : Bool)
  deriving Inhabited
/-- abstract values -/
inductive AV where
  | bool (b : Bool)
  | int (k : IntKind) (n : Int)
  | str (n c : Nat)
  | nptr
  | ptr (b : Pos) (o : Nat)
  | nslice
  | slice (b : Pos) (o len cap op : Nat)             -- op: 0, or the size of an element: then there may be more room than cap says
  | nmap
  | map (b : Pos)
  | fn (f : FuncId) (first cap : List AV)
  | yld (b : Pos)
  | nfn
  | iface (t : TypeId) (v : AV)
  | nif
  | agg (l : List AV)
  | tup (l : List AV)
  | opq (i : Nat)                                    -- an int that nobody looks at
  | sym (D : List Cd) (k : IntKind) (e : Tm)         -- an int that is told by a term; D: what is known
  | osl (D : List Cd) (e : Tm)                       -- a slice that nobody looks into, of so many elements
  | any                                              -- a value of one cell that nobody looks at
  | bound (name : String) (t : TypeId)               -- a method of what an interface value holds, of type t; nobody calls it
  deriving Inhabited

inductive Blk where
  | cells (pl : Nat) (l : List AV)                   -- pl: 0, or: nothing of it is frozen, it begins where the model's block begins, whose cells are of type pl - 1
  | map (es : List (AV × AV × Nat)) (clock : Nat)
  | siter (n c pos : Nat)
  | loop (st : LoopState) (pend : Option Code) (fn : FuncId) (nt : Nat) (T : Tr AV) (params : List Tmp) (assign body : Code) (dfr : Pos)
  | dfr (live : Bool)

structure Hp where
  t : Tr Blk
  nx : Pos

inductive Ret where
  | no
  | ok (v : AV) (H : Hp)

/-! ### tables -/
noncomputable def Tr.get {α : Type} (p : Pos) : Tr α → Option α :=
  posRec (β := Tr α → Option α)
    (fun t => match t with | .e => none | .n _ v _ => v)
    (fun _ g t => match t with | .e => none | .n l _ _ => g l)
    (fun _ g t => match t with | .e => none | .n _ _ r => g r) p
noncomputable def Tr.setK {α X : Type} (x : Option α) (p : Pos) : Tr α → (Tr α → X) → X :=
  posRec (β := Tr α → (Tr α → X) → X)
    (fun t K => match t with | .e => K (.n .e x .e) | .n l _ r => K (.n l x r))
    (fun _ g t K => match t with | .e => g .e (fun l => K (.n l none .e)) | .n l v r => g l (fun l => K (.n l v r)))
    (fun _ g t K => match t with | .e => g .e (fun r => K (.n .e none r)) | .n l v r => g r (fun r => K (.n l v r))) p
noncomputable def Pos.succK {X : Type} (p : Pos) : (Pos → X) → X :=
  posRec (β := (Pos → X) → X) (fun K => K (.o .h)) (fun p _ K => K (.i p)) (fun _ g K => g (fun q => K (.o q))) p
noncomputable def Pos.beq (p : Pos) : Pos → Bool :=
  posRec (β := Pos → Bool) (fun q => match q with | .h => true | _ => false)
    (fun _ g q => match q with | .o q => g q | _ => false) (fun _ g q => match q with | .i q => g q | _ => false) p
/-- the key of a number -/
noncomputable def posOf (n : Nat) : Pos :=
  fuelRec (X := Nat → Pos) (fun _ => .h)
    (fun ih k => match Nat.ble k 1 with
      | true => .h
      | false => match Nat.beq (Nat.mod k 2) 0 with
        | true => .o (ih () (Nat.div k 2))
        | false => .i (ih () (Nat.div k 2))) (Nat.succ n) (Nat.succ n)

noncomputable def nth (l : List AV) (i : Nat) : Option AV :=
  lrec (X := Nat → Option AV) (fun _ => none) (fun a _ ih i => match i with | 0 => some a | i + 1 => ih () i) l i
noncomputable def dropK {X : Type} (z : X) (l : List AV) (i : Nat) (K : List AV → X) : X :=
  lrec (X := Nat → (List AV → X) → X) (fun i K => match i with | 0 => K [] | _ + 1 => z)
    (fun a tl ih i K => match i with | 0 => K (a :: tl) | i + 1 => ih () i K) l i K
noncomputable def takeK {X : Type} (z : X) (l : List AV) (n : Nat) (K : List AV → X) : X :=
  lrec (X := Nat → (List AV → X) → X) (fun n K => match n with | 0 => K [] | _ + 1 => z)
    (fun a _ ih n K => match n with | 0 => K [] | n + 1 => ih () n (fun r => K (a :: r))) l n K
noncomputable def appK {X : Type} (l r : List AV) (K : List AV → X) : X :=
  lrec (X := (List AV → X) → X) (fun K => K r) (fun a _ ih K => ih () (fun x => K (a :: x))) l K
noncomputable def overK {X : Type} (z : X) (vs l : List AV) (K : List AV → X) : X :=
  lrec (X := List AV → (List AV → X) → X) (fun l K => K l)
    (fun v _ ih l K => match l with | [] => z | _ :: tl => ih () tl (fun r => K (v :: r))) vs l K
noncomputable def putK {X : Type} (z : X) (vs : List AV) (l : List AV) (i : Nat) (K : List AV → X) : X :=
  lrec (X := Nat → (List AV → X) → X) (fun i K => match i with | 0 => overK z vs [] K | _ + 1 => z)
    (fun a tl ih i K => match i with | 0 => overK z vs (a :: tl) K | i + 1 => ih () i (fun r => K (a :: r))) l i K
noncomputable def replK {X : Type} (n : Nat) (c : List AV) (K : List AV → X) : X :=
  fuelRec (X := (List AV → X) → X) (fun K => K []) (fun ih K => ih () (fun r => appK c r K)) n K
noncomputable def len {α : Type} (l : List α) : Nat := lrec (X := Nat) 0 (fun _ _ ih => Nat.succ (ih ())) l

noncomputable def Hp.newK {X : Type} (b : Blk) (H : Hp) (K : Pos → Hp → X) : X :=
  Tr.setK (some b) H.nx H.t (fun t => Pos.succK H.nx (fun nx => K H.nx ⟨t, nx⟩))
noncomputable def Hp.setK {X : Type} (p : Pos) (b : Option Blk) (H : Hp) (K : Hp → X) : X := Tr.setK b p H.t (fun t => K ⟨t, H.nx⟩)

def AV.one : AV → Bool
  | .agg _ | .tup _ => false
  | _ => true
noncomputable def allOne (l : List AV) : Bool := lrec (X := Bool) true (fun a _ ih => match a.one with | true => ih () | false => false) l
def AV.cells : AV → List AV
  | .agg l => l
  | v => [v]

/-! ### numbers -/
def wr (k : IntKind) (n : Int) : Int :=
  match k, n with
  | .i64, .ofNat m => (match Nat.ble m 9223372036854775807 with | true => .ofNat m | false => k.wrap n)
  | .i64, .negSucc m => (match Nat.ble m 9223372036854775807 with | true => .negSucc m | false => k.wrap n)
  | .u8, .ofNat m => (match Nat.ble m 255 with | true => .ofNat m | false => k.wrap n)
  | .u64, .ofNat m => (match Nat.ble m 18446744073709551615 with | true => .ofNat m | false => k.wrap n)
  | .i32, .ofNat m => (match Nat.ble m 2147483647 with | true => .ofNat m | false => k.wrap n)
  | .u32, .ofNat m => (match Nat.ble m 4294967295 with | true => .ofNat m | false => k.wrap n)
  | k, n => k.wrap n
def ieq : Int → Int → Bool
  | .ofNat a, .ofNat b => Nat.beq a b
  | .negSucc a, .negSucc b => Nat.beq a b
  | _, _ => false
def ilt : Int → Int → Bool
  | .ofNat a, .ofNat b => Nat.blt a b
  | .negSucc _, .ofNat _ => true
  | .ofNat _, .negSucc _ => false
  | .negSucc a, .negSucc b => Nat.blt b a
def kno : IntKind → Nat
  | .i8 => 0 | .i16 => 1 | .i32 => 2 | .i64 => 3 | .u8 => 4 | .u16 => 5 | .u32 => 6 | .u64 => 7
def bnot : Bool → Bool
  | true => false
  | false => true
def addI : Int → Int → Int
  | .ofNat a, .ofNat b => .ofNat (Nat.add a b)
  | a, b => Int.add a b
def subI : Int → Int → Int
  | .ofNat a, .ofNat b => (match Nat.ble b a with | true => .ofNat (Nat.sub a b) | false => Int.sub (.ofNat a) (.ofNat b))
  | a, b => Int.sub a b
def bits (op : BinOp) (k : IntKind) (x y : Int) : Option AV :=
  let a := BitVec.ofInt k.bits x
  let b := BitVec.ofInt k.bits y
  match op with
  | .and => some (.int k (k.wrap (a &&& b).toNat))
  | .or => some (.int k (k.wrap (a ||| b).toNat))
  | .xor => some (.int k (k.wrap (a ^^^ b).toNat))
  | .andNot => some (.int k (k.wrap (a &&& ~~~b).toNat))
  | _ => none
/-- an operator on two numbers of one kind -/
def ibin (op : BinOp) (k : IntKind) (x y : Int) : Option AV :=
  match op with
  | .add => some (.int k (wr k (addI x y)))
  | .sub => some (.int k (wr k (subI x y)))
  | .mul => some (.int k (wr k (Int.mul x y)))
  | .quo => (match ieq y 0 with | true => none | false => some (.int k (wr k (Int.tdiv x y))))
  | .rem => (match ieq y 0 with | true => none | false => some (.int k (Int.tmod x y)))
  | .eql => some (.bool (ieq x y))
  | .neq => some (.bool (bnot (ieq x y)))
  | .lss => some (.bool (ilt x y))
  | .leq => some (.bool (bnot (ilt y x)))
  | .gtr => some (.bool (ilt y x))
  | .geq => some (.bool (bnot (ilt x y)))
  | op => bits op k x y
def ishift (op : BinOp) (k : IntKind) (x y : Int) : Option AV :=
  match y with
  | .negSucc _ => none
  | .ofNat m =>
    match op with
    | .shl => some (.int k (wr k (Int.mul x (.ofNat (Nat.pow 2 (min m k.bits))))))
    | .shr => some (.int k (Int.fdiv x (.ofNat (Nat.pow 2 (min m k.bits)))))
    | _ => none
/-! ### terms -/
def bno : BinOp → Nat
  | .add => 0 | .sub => 1 | .mul => 2 | .quo => 3 | .rem => 4 | .and => 5 | .or => 6 | .xor => 7 | .shl => 8 | .shr => 9 | .andNot => 10
  | .eql => 11 | .neq => 12 | .lss => 13 | .leq => 14 | .gtr => 15 | .geq => 16
def Tm.beq : Tm → Tm → Bool
  | .v i, .v j => Nat.beq i j
  | .c m, .c n => ieq m n
  | .bin o k a b, .bin p j e d => (match Nat.beq (bno o) (bno p), Nat.beq (kno k) (kno j), Tm.beq a e with | true, true, true => Tm.beq b d | _, _, _ => false)
  | .conv k a, .conv j b => (match Nat.beq (kno k) (kno j) with | true => Tm.beq a b | false => false)
  | _, _ => false
def Cd.beq : Cd → Cd → Bool
  | .lt a b true, .lt e d true | .lt a b false, .lt e d false | .eq a b true, .eq e d true | .eq a b false, .eq e d false => (match Tm.beq a e with | true => Tm.beq b d | false => false)
  | _, _ => false
noncomputable def cdsEq (l m : List Cd) : Bool :=
  lrec (X := List Cd → Bool) (fun m => match m with | [] => true | _ => false)
    (fun a _ more m => match m with | [] => false | b :: m => (match Cd.beq a b with | true => more () m | false => false)) l m
/-- what a term stands for -/
def Tm.den (o : Nat → Int) : Tm → Int
  | .v i => o i
  | .c n => n
  | .bin op k a b => (match ibin op k (a.den o) (b.den o) with | some (.int _ n) => n | _ => 0)
  | .conv k a => wr k (a.den o)
def Cd.ok (o : Nat → Int) : Cd → Prop
  | .lt a b r => decide (a.den o < b.den o) = r
  | .eq a b r => decide (a.den o = b.den o) = r
def DOk (o : Nat → Int) (D : List Cd) : Prop := ∀ c, c ∈ D → c.ok o
noncomputable def askLt (D : List Cd) (a b : Tm) : Option Bool :=
  lrec (X := Option Bool) none (fun c _ ih => match c with | .lt x y r => (match Tm.beq x a, Tm.beq y b with | true, true => some r | _, _ => ih ()) | _ => ih ()) D
noncomputable def askEq (D : List Cd) (a b : Tm) : Option Bool :=
  lrec (X := Option Bool) none (fun c _ ih => match c with | .eq x y r => (match Tm.beq x a, Tm.beq y b with | true, true => some r | _, _ => ih ()) | _ => ih ()) D
/-- an operator on terms of one kind -/
noncomputable def symbin (op : BinOp) (D : List Cd) (k : IntKind) (a b : Tm) : Option AV :=
  match op with
  | .add => some (.sym D k (.bin .add k a b))
  | .sub => some (.sym D k (.bin .sub k a b))
  | .mul => some (.sym D k (.bin .mul k a b))
  | .quo => (match askEq D b (.c 0) with | some false => some (.sym D k (.bin .quo k a b)) | _ => none)
  | .rem => (match askEq D b (.c 0) with | some false => some (.sym D k (.bin .rem k a b)) | _ => none)
  | .eql => ob (askEq D a b) fun r => some (.bool r)
  | .neq => ob (askEq D a b) fun r => some (.bool (bnot r))
  | .lss => ob (askLt D a b) fun r => some (.bool r)
  | .gtr => ob (askLt D b a) fun r => some (.bool r)
  | .leq => ob (askLt D b a) fun r => some (.bool (bnot r))
  | .geq => ob (askLt D a b) fun r => some (.bool (bnot r))
  | _ => none
/-! ### strings: n bytes, the first one lowest in c -/
def sbyte (c i : Nat) : Nat := Nat.mod (Nat.div c (Nat.pow 256 i)) 256
def ssub (c l h : Nat) : Nat := Nat.mod (Nat.div c (Nat.pow 256 l)) (Nat.pow 256 (Nat.sub h l))
def scat (n c d : Nat) : Nat := Nat.add c (Nat.mul d (Nat.pow 256 n))
def seq (n c m d : Nat) : Bool := match Nat.beq n m with | true => Nat.beq c d | false => false
def sbin (op : BinOp) (n c m d : Nat) : Option AV :=
  match op with
  | .add => (match Nat.ble (Nat.add n m) 1000000 with | true => some (.str (Nat.add n m) (scat n c d)) | false => none)
  | .eql => some (.bool (seq n c m d))
  | .neq => some (.bool (bnot (seq n c m d)))
  | _ => none
/-- constants -/
noncomputable def codeOf (b : ByteArray) : Nat := lrec (X := Nat) 0 (fun x _ ih => Nat.add x.toNat (Nat.mul 256 (ih ()))) b.data.toList
noncomputable def omap {α β : Type} (f : α → Option β) (l : List α) : Option (List β) :=
  lrec (X := Option (List β)) (some []) (fun a _ ih => match f a with | none => none | some b => match ih () with | none => none | some r => some (b :: r)) l
noncomputable def toAVn (d : Nat) : Value → Option AV :=
  fuelRec (X := Value → Option AV) (fun _ => none) (fun ih v =>
    match v with
    | .bool b => some (.bool b)
    | .int k n => some (.int k n)
    | .string s => some (.str s.size (codeOf s))
    | .pointer none => some .nptr
    | .slice none 0 0 => some .nslice
    | .map none => some .nmap
    | .func (.func f) first cap => (match first.toList, cap.toList with | [], [] => some (.fn f [] []) | _, _ => none)
    | .nilFunc => some .nfn
    | .nilIface => some .nif
    | .iface t v => ob (ih () v) fun a => some (.iface t a)
    | .agg cs => ob (omap (ih ()) cs.toList) fun l => some (.agg l)
    | .tuple cs => ob (omap (ih ()) cs.toList) fun l => some (.tup l)
    | _ => none) d
noncomputable def toAV (v : Value) : Option AV := toAVn 6 v

/-! ### the program -/
/-- functions without a body -/
inductive Ext where
  | load (k : IntKind)
  | store
  | cas (k : IntKind)
  | add (k : IntKind)
  | nop0 | nop1
  | idxByte | count
  | same
  | mknz (t : TypeId)                                -- bytealg.MakeNoZero: a row of bytes that nobody knows
/-- a call that has been run: at these arguments, the next name being nx, on these blocks; it gives v and these blocks, and nx' is the next name then -/
structure MEnt where
  args : List AV
  nx : Pos
  pre : List (Pos × Blk)
  v : AV
  nx' : Pos
  post : List (Pos × Blk)
/-- a call that has been run, under names of its own: it may stand at other names -/
structure REnt where
  args : List AV
  nx : Pos
  pre : List (Pos × Blk)
  v : AV
  post : List (Pos × Blk)                            -- blocks of pre that are changed
  new : List (Pos × Blk)
/-- functions of which a law tells what they do -/
inductive Ctr where
  | memo (l : List MEnt)                             -- calls that have been run
  | rmemo (ng : Nat) (l : List REnt)
  | keys (kf : FuncId)                               -- slices.Sorted, at what maps.Keys has made: a closure of kf over a map whose keys are ints
  | cut (cf : FuncId)                                -- maps.DeleteFunc, at a closure of cf over a bound: greater keys are struck
/-- what is known of a call: at these arguments it returns v, and v leads to these blocks, newly made -/
structure Sum where
  args : List AV
  v : AV
  blks : List (Pos × Blk)
structure Env where
  ti : TypeId → Option TypeInfo
  fns : FuncId → Option Func
  ext : FuncId → Option Ext
  held : TypeId → Bool
  eqg : TypeId → Bool
  sums : FuncId → List Sum
  ng : Nat                                           -- the first ng globals have the names of their numbers
  gl : Tr (List AV)                                  -- blocks that nobody writes
  ctr : FuncId → Option Ctr := fun _ => none
def Env.und (E : Env) (t : TypeId) : Option TypeDesc :=
  match E.ti t with
  | some i => match i.desc with
    | .named _ u => (match E.ti u with | some j => some j.desc | none => none)
    | d => some d
  | none => none
def Env.isAgg (E : Env) (t : TypeId) : Option Bool :=
  match E.und t with
  | some (.struct _) | some (.array _ _) => some true
  | some _ => some false
  | none => none
def Env.size (E : Env) (t : TypeId) : Option Nat := match E.ti t with | some i => some i.size | none => none
noncomputable def Env.zero (E : Env) (t : TypeId) : Option AV := match E.ti t with | some i => (match i.zero with | some v => toAV v | none => none) | none => none

inductive Opd where
  | t (p : Pos)
  | c (v : AV)
noncomputable def opd (ng : Nat) : Operand → Option Opd
  | .tmp t => some (.t (posOf t))
  | .const v => (match toAV v with | some a => some (.c a) | none => none)
  | .global g => (match Nat.blt g ng with | true => some (.c (.ptr (posOf g) 0)) | false => none)
  | .func f => some (.c (.fn f [] []))
noncomputable def getO (x : Opd) (T : Tr AV) : Option AV :=
  match x with
  | .c v => some v
  | .t p => Tr.get p T
noncomputable def getL (xs : List Opd) (T : Tr AV) : Option (List AV) := omap (fun x => getO x T) xs
end Go.Ev
/- An evaluator for runs whose inputs are closed: its operations. Each operation of the program is turned, once, into a function of the frame's slots and the heap. -/
namespace Go.Ev

inductive COp where
  | pure (f : Tr AV → Option AV)
  | read (f : Tr AV → Hp → Option AV)
  | slc (f : Tr AV → Option AV) (g : Tr AV → Hp → Ret) (h : Tr AV → Option AV)   -- h: where no block may be made
  | alc (f : Tr AV → Option Blk) (v : Tr AV → Pos → Option AV)   -- a new block: its cells; the value, given its name
  | st (f : Tr AV → Option (Pos × Nat × List AV))                       -- cells of a block are written
  | eff (f : Tr AV → Hp → Ret)
  | call (f : FuncId) (xs : List Opd)
  | dyn (x : Opd) (xs : List Opd)
  | inv (m : TypeId → Option FuncId) (x : Opd) (xs : List Opd)          -- a method of what an interface value holds
  | defer (x : Opd) (xs : List Opd)
  | recover

/-! ### looking at blocks -/
noncomputable def cellsV (G : Tr (List AV)) (b : Pos) (H : Hp) : Option (List AV) := match Tr.get b H.t with | some (.cells _ l) => some l | some _ => none | none => Tr.get b G
noncomputable def cell (G : Tr (List AV)) (b : Pos) (o : Nat) (H : Hp) : Option AV := ob (cellsV G b H) fun l => nth l o
noncomputable def loadN (G : Tr (List AV)) (b : Pos) (o n : Nat) (H : Hp) : Option (List AV) := ob (cellsV G b H) fun l => dropK none l o fun l => takeK none l n some
noncomputable def storeR (b : Pos) (o : Nat) (vs : List AV) (H : Hp) (K : Hp → Ret) : Ret :=
  match allOne vs with
  | true => (match Tr.get b H.t with
    | some (.cells pl l) => putK .no vs l o fun l => Hp.setK b (some (.cells pl l)) H K
    | _ => .no)
  | false => .no
noncomputable def plainAt (G : Tr (List AV)) (b : Pos) (H : Hp) : Bool := match Tr.get b H.t with | some (.cells pl _) => (match pl with | 0 => false | _ + 1 => true) | some _ => false | none => (match Tr.get b G with | some _ => true | none => false)
def guardV {α : Type} (b : Bool) (k : Unit → Option α) : Option α := match b with | true => k () | false => none
/-- an int that is a natural number -/
def natV (x : AV) : Option Nat := match x with | .int _ (.ofNat n) => some n | _ => none
noncomputable def natO (x : Opd) (T : Tr AV) : Option Nat := ob (getO x T) natV
noncomputable def optNat (x : Option Opd) (T : Tr AV) (d : Nat) : Option Nat := match x with | none => some d | some x => natO x T

/-! ### pure operations -/
/-- the method of a type, where its receiver is the value itself -/
noncomputable def methL (name : String) (l : List Method) : Option Method := lrec (X := Option Method) none (fun m _ ih => match m.name == name with | true => some m | false => ih ()) l
noncomputable def methOf (E : Env) (name : String) (t : TypeId) : Option FuncId :=
  ob (E.ti t) fun i => ob (methL name i.methods.toList) fun m => match m.path.toList, m.func, E.und t with
  | [], some (f, true), some (.pointer _) => some f
  | _, _, _ => none
noncomputable def nilckV (E : Env) (x : Opd) (T : Tr AV) : Option AV := ob (getO x T) fun v => match v with | .nptr | .nif | .nfn => none | .fn f a b => some (.fn f a b) | .yld b => some (.yld b) | .ptr b o => some (.ptr b o) | .iface t v => some (.iface t v) | .bound n t => ob (methOf E n t) (fun _ => some (.bound n t)) | _ => none
noncomputable def pickV (c a b : Opd) (T : Tr AV) : Option AV := ob (getO c T) fun v => match v with | .bool true => getO a T | .bool false => getO b T | _ => none
noncomputable def fillK {X : Type} (n : X) (z : List AV) (ps : List (Nat × Nat × Opd)) (T : Tr AV) (K : List AV → X) : X :=
  lrec (X := List AV → (List AV → X) → X) (fun z K => K z)
    (fun p _ ih z K => match getO p.2.2 T with
      | some v => (match Nat.beq (len v.cells) p.2.1 with
        | true => putK n v.cells z p.1 fun z => ih () z K
        | false => n)
      | none => n) ps z K
noncomputable def buildV (z : List AV) (ps : List (Nat × Nat × Opd)) (T : Tr AV) : Option AV := fillK none z ps T fun l => some (.agg l)
noncomputable def binS (op : BinOp) (x y : AV) : Option AV :=
  match x with
  | .sym D j a => (match y with
    | .int k n => guardV (Nat.beq (kno j) (kno k)) fun _ => symbin op D j a (.c n)
    | .sym _ k b => guardV (Nat.beq (kno j) (kno k)) fun _ => symbin op D j a b
    | _ => none)
  | .int k n => (match y with
    | .sym D j a => guardV (Nat.beq (kno j) (kno k)) fun _ => symbin op D j (.c n) a
    | _ => none)
  | _ => none
noncomputable def binW (op : BinOp) (x y : AV) : Option AV :=
  match op, x, y with
  | .shl, .int k a, .int _ b => ishift .shl k a b
  | .shr, .int k a, .int _ b => ishift .shr k a b
  | op, .int j a, .int k b => guardV (Nat.beq (kno j) (kno k)) fun _ => ibin op j a b
  | op, .str n c, .str m d => sbin op n c m d
  | op, x, y => binS op x y
def boolW (neg : Bool) (x y : AV) : Option AV :=
  match x, y with
  | .bool a, .bool b => some (.bool (match neg, a with | true, true => bnot b | true, false => b | false, true => b | false, false => bnot b))
  | _, _ => none
noncomputable def boolV (neg : Bool) (x y : Opd) (T : Tr AV) : Option AV := ob (getO x T) fun a => ob (getO y T) fun b => boolW neg a b
noncomputable def binV (op : BinOp) (x y : Opd) (T : Tr AV) : Option AV := ob (getO x T) fun a => ob (getO y T) fun b => binW op a b
def unW (op : UnOp) (x : AV) : Option AV :=
  match op, x with
  | .not, .bool b => some (.bool (bnot b))
  | .neg, .int k n => some (.int k (wr k (subI 0 n)))
  | .neg, .sym D k e => some (.sym D k (.bin .sub k (.c 0) e))
  | .xor, .int k n => bits .xor k (match k.signed with | true => .negSucc 0 | false => k.max) n
  | _, _ => none
noncomputable def unV (op : UnOp) (x : Opd) (T : Tr AV) : Option AV := ob (getO x T) fun a => unW op a
noncomputable def convV (k : IntKind) (x : Opd) (T : Tr AV) : Option AV := ob (getO x T) fun a => match a with | .int _ n => some (.int k (wr k n)) | .sym D _ e => some (.sym D k (.conv k e)) | _ => none
noncomputable def sameV (x : Opd) (T : Tr AV) : Option AV := ob (getO x T) fun a => match a with | .str n c => some (.str n c) | _ => none
noncomputable def mkifV (t : TypeId) (x : Opd) (T : Tr AV) : Option AV := ob (getO x T) fun a => some (.iface t a)
noncomputable def mkfnV (f : FuncId) (a b : List Opd) (T : Tr AV) : Option AV := ob (getL a T) fun a => ob (getL b T) fun b => some (.fn f a b)
noncomputable def mkbV (name : String) (a b : List Opd) (T : Tr AV) : Option AV := ob (getL a T) fun l => ob (getL b T) fun _ => match l with | [.iface t _] => some (.bound name t) | _ => none
/-- low and high of a slice expression, checked -/
noncomputable def boundsV {α : Type} (lo hi : Option Opd) (T : Tr AV) (dh cap : Nat) (K : Nat → Nat → Option α) : Option α :=
  ob (optNat hi T dh) fun h => guardV (Nat.ble h cap) fun _ => ob (optNat lo T 0) fun l => guardV (Nat.ble l h) fun _ => K l h
noncomputable def sliceSV (x : Opd) (lo hi : Option Opd) (T : Tr AV) : Option AV :=
  ob (getO x T) fun v => match v with | .str n c => boundsV lo hi T n n fun l h => some (.str (Nat.sub h l) (ssub c l h)) | _ => none
/-- a slice that nobody looks into, cut at its end -/
noncomputable def oslW (D : List Cd) (e : Tm) (z : AV) : Option AV :=
  match z with
  | .int _ (.ofNat k) => (match askLt D e (.c (.ofNat k)) with | some false => some (.osl D (.c (.ofNat k))) | _ => none)
  | .sym _ _ h => (match askLt D h (.c 0), askLt D e h with | some false, some false => some (.osl D h) | _, _ => none)
  | _ => none
noncomputable def sliceV (size : Nat) (x : Opd) (lo hi mx : Option Opd) (T : Tr AV) : Option AV :=
  ob (getO x T) fun v => match v with
  | .nslice => ob (optNat mx T 0) fun m => guardV (Nat.beq m 0) fun _ => boundsV lo hi T 0 0 fun _ _ => some .nslice
  | .slice b o n c op =>
    (match mx with
     | none => boundsV lo hi T n c fun l h =>
       (match Nat.beq l c, op with
        | true, 0 => some (.slice b o (Nat.sub h l) 0 0)
        | true, _ + 1 => (match l with | 0 => some (.slice b o h c op) | _ + 1 => none)
        | false, 0 => some (.slice b (Nat.add o (Nat.mul l size)) (Nat.sub h l) (Nat.sub c l) 0)
        | false, _ + 1 => (match Nat.beq op size with | true => some (.slice b (Nat.add o (Nat.mul l size)) (Nat.sub h l) (Nat.sub c l) op) | false => none))
     | some mx => ob (natO mx T) fun m => guardV (Nat.ble m c) fun _ => boundsV lo hi T n m fun l h =>
       (match Nat.beq l m with
        | true => some (.slice b o (Nat.sub h l) 0 0)
        | false => some (.slice b (Nat.add o (Nat.mul l size)) (Nat.sub h l) (Nat.sub m l) 0)))
  | .osl D e => (match mx, lo, hi with | none, none, some y => ob (getO y T) fun z => oslW D e z | _, _, _ => none)
  | _ => none
/-- an open slice, cut where its known room ends: whatever room lies behind goes to a block of its own -/
noncomputable def sliceR (size : Nat) (x : Opd) (lo hi : Option Opd) (T : Tr AV) (H : Hp) : Ret :=
  match getO x T with
  | some (.slice b _ n c (op + 1)) => (match boundsV lo hi T n c fun l _ => guardV (Nat.beq l c) fun _ => guardV (Nat.beq (Nat.succ op) size) fun _ => some () with
    | some () => (match Tr.get b H.t with
      | some (.cells _ _) => Hp.setK b none H fun H => Hp.newK (.cells 0 []) H fun b H => .ok (.slice b 0 0 0 (Nat.succ op)) H
      | _ => .no)
    | none => .no)
  | _ => .no
/-- the same; what is left is an empty slice that nobody looks into -/
noncomputable def sliceE (size : Nat) (x : Opd) (lo hi : Option Opd) (T : Tr AV) : Option AV :=
  match sliceV size x lo hi none T with
  | some v => some v
  | none => ob (getO x T) fun v => match v with
    | .slice _ _ n c (_ + 1) => boundsV lo hi T n c fun l _ => guardV (Nat.beq l c) fun _ => some (.osl [] (.c 0))
    | .osl _ (.c (.ofNat 0)) => boundsV lo hi T 0 0 fun _ _ => some (.osl [] (.c 0))
    | _ => none
noncomputable def sliceAV (n size : Nat) (x : Opd) (lo hi mx : Option Opd) (T : Tr AV) : Option AV :=
  ob (getO x T) fun v => match v with
  | .ptr b o => ob (optNat mx T n) fun m => guardV (Nat.ble m n) fun _ => boundsV lo hi T n m fun l h =>
    (match Nat.beq l m with
     | true => some (.slice b o (Nat.sub h l) 0 0)
     | false => some (.slice b (Nat.add o (Nat.mul l size)) (Nat.sub h l) (Nat.sub m l) 0))
  | _ => none
noncomputable def faddrV (x : Opd) (o : Nat) (T : Tr AV) : Option AV := ob (getO x T) fun v => match v with | .ptr b p => some (.ptr b (Nat.add p o)) | _ => none
noncomputable def subV (l : List AV) (o n : Nat) (agg : Bool) : Option AV :=
  match agg with
  | true => dropK none l o fun l => takeK none l n fun r => some (.agg r)
  | false => nth l o
noncomputable def fieldV (x : Opd) (o n : Nat) (agg : Bool) (T : Tr AV) : Option AV := ob (getO x T) fun v => match v with | .agg l => subV l o n agg | _ => none
noncomputable def iaddrSV (s : Nat) (x i : Opd) (T : Tr AV) : Option AV :=
  ob (getO x T) fun v => ob (natO i T) fun i => match v with
  | .slice b o n _ _ => guardV (Nat.blt i n) fun _ => some (.ptr b (Nat.add o (Nat.mul i s)))
  | _ => none
noncomputable def iaddrAV (n s : Nat) (x i : Opd) (T : Tr AV) : Option AV :=
  ob (getO x T) fun v => ob (natO i T) fun i => match v with
  | .ptr b o => guardV (Nat.blt i n) fun _ => some (.ptr b (Nat.add o (Nat.mul i s)))
  | _ => none
noncomputable def idxSV (x i : Opd) (T : Tr AV) : Option AV :=
  ob (getO x T) fun v => ob (natO i T) fun i => match v with
  | .str n c => guardV (Nat.blt i n) fun _ => some (.int .u8 (.ofNat (sbyte c i)))
  | _ => none
noncomputable def idxAV (n s : Nat) (agg : Bool) (x i : Opd) (T : Tr AV) : Option AV :=
  ob (getO x T) fun v => ob (natO i T) fun i => guardV (Nat.blt i n) fun _ => match v with
  | .agg l => subV l (Nat.mul i s) s agg
  | _ => none
noncomputable def extV (x : Opd) (i : Nat) (T : Tr AV) : Option AV := ob (getO x T) fun v => match v with | .tup l => nth l i | _ => none
def lenOfA : AV → Option Nat
  | .slice _ _ n _ _ => some n
  | .nslice => some 0
  | .str n _ => some n
  | .osl _ (.c (.ofNat 0)) => some 0
  | _ => none
noncomputable def lenSV (x : Opd) (T : Tr AV) : Option AV := ob (getO x T) fun v => match v with | .str n _ => some (.int .i64 (.ofNat n)) | _ => none
noncomputable def lenV (x : Opd) (T : Tr AV) : Option AV := ob (getO x T) fun v => match v with | .slice _ _ n _ _ => some (.int .i64 (.ofNat n)) | .nslice => some (.int .i64 (.ofNat 0)) | .osl D e => some (match e with | .c n => .int .i64 n | e => .sym D .i64 e) | _ => none
noncomputable def capV (x : Opd) (T : Tr AV) : Option AV := ob (getO x T) fun v => match v with
  | .slice _ _ _ c 0 => some (.int .i64 (.ofNat c))
  | .nslice => some (.int .i64 (.ofNat 0))
  | _ => none
def intV (v : AV) : Option Int := match v with | .int _ m => some m | _ => none
def mmPick (mx : Bool) (n m : Int) : Int := match mx with | true => (match ilt n m with | true => m | false => n) | false => (match ilt m n with | true => m | false => n)
noncomputable def mmGo (mx : Bool) (k : IntKind) (tl : List AV) (n : Int) : Option AV :=
  lrec (X := Int → Option AV) (fun n => some (.int k n)) (fun v _ ih n => ob (intV v) fun m => ih () (mmPick mx n m)) tl n
/-- the lesser, the greater one of two -/
noncomputable def mmS (mx : Bool) (D : List Cd) (x y : Tm) (u v : AV) : Option AV :=
  match mx with
  | false => ob (askLt D y x) fun r => some (match r with | true => v | false => u)
  | true => ob (askLt D x y) fun r => some (match r with | true => v | false => u)
noncomputable def mmW (mx : Bool) (xs : List AV) : Option AV :=
  match xs with
  | .int k n :: tl => mmGo mx k tl n
  | [.sym D j e, .int k n] => guardV (Nat.beq (kno j) (kno k)) fun _ => mmS mx D e (.c n) (.sym D j e) (.int k n)
  | _ => none
noncomputable def mmV (mx : Bool) (xs : List Opd) (T : Tr AV) : Option AV := ob (getL xs T) fun l => mmW mx l

/-! ### operations that look at the heap -/
noncomputable def ld1 (G : Tr (List AV)) (x : Opd) (T : Tr AV) (H : Hp) : Option AV := ob (getO x T) fun v => match v with | .ptr b o => cell G b o H | _ => none
noncomputable def ldn (G : Tr (List AV)) (x : Opd) (n : Nat) (T : Tr AV) (H : Hp) : Option AV := ob (getO x T) fun v => match v with | .ptr b o => ob (loadN G b o n H) fun l => some (.agg l) | _ => none
noncomputable def uptrV (G : Tr (List AV)) (x : Opd) (T : Tr AV) (H : Hp) : Option AV := ob (getO x T) fun v => match v with | .ptr b o => ob (cell G b o H) fun _ => some (.ptr b o) | _ => none
noncomputable def partA (E : Env) (t : TypeId) (l : List AV) (o : Nat) : Option AV :=
  match E.isAgg t, E.size t with
  | some b, some n => subV l o n b
  | _, _ => none
noncomputable def eqFs (E : Env) (ih : TypeId → AV → AV → Hp → Option Bool) (l m : List AV) (H : Hp) (fs : List Field) : Option Bool :=
  lrec (X := Option Bool) (some true) (fun (f : Field) _ more =>
    match f.name == "_" with
    | true => more ()
    | false => ob (partA E f.type l f.offset) fun u => ob (partA E f.type m f.offset) fun v =>
      ob (ih f.type u v H) fun r => match r with | true => more () | false => some false) fs
/-- '==' of a type; gives up where the order of addresses or the tape would matter -/
noncomputable def aeqStep (E : Env) (ih : TypeId → AV → AV → Hp → Option Bool) (t : TypeId) (x y : AV) (H : Hp) : Option Bool :=
  match E.und t, x, y with
  | some .bool, .bool a, .bool b => some (match a with | true => b | false => bnot b)
  | some (.int _), .int j a, .int k b => guardV (Nat.beq (kno j) (kno k)) fun _ => some (ieq a b)
  | some .string, .str n c, .str m d => some (seq n c m d)
  | some (.pointer _), .nptr, .nptr => some true
  | some (.pointer _), .nptr, .ptr _ _ => some false
  | some (.pointer _), .ptr _ _, .nptr => some false
  | some (.pointer e), .ptr b o, .ptr c p =>
    (match E.size e with
     | some (_ + 1) => (match Pos.beq b c with
       | true => some (Nat.beq o p)
       | false => guardV (plainAt E.gl b H) fun _ => guardV (plainAt E.gl c H) fun _ => some false)
     | _ => none)
  | some (.interface _), .nif, .nif => some true
  | some (.interface _), .nif, .iface _ _ => some false
  | some (.interface _), .iface _ _, .nif => some false
  | some (.slice _), .nslice, .nslice => some true
  | some (.slice _), .nslice, .slice _ _ _ _ _ => some false
  | some (.slice _), .slice _ _ _ _ _, .nslice => some false
  | some (.map _ _), .nmap, .nmap => some true
  | some (.map _ _), .nmap, .map _ => some false
  | some (.map _ _), .map _, .nmap => some false
  | some (.func _ _ _), .nfn, .nfn => some true
  | some (.func _ _ _), .nfn, .fn _ _ _ => some false
  | some (.func _ _ _), .fn _ _ _, .nfn => some false
  | some (.struct fs), .agg l, .agg m => guardV (bnot (E.held t)) fun _ => eqFs E ih l m H fs.toList
  | _, _, _ => none
noncomputable def aeq (E : Env) (d : Nat) : TypeId → AV → AV → Hp → Option Bool :=
  fuelRec (X := TypeId → AV → AV → Hp → Option Bool) (fun _ _ _ _ => none) (fun ih t x y H => aeqStep E (ih ()) t x y H) d
/-- two nil interfaces may not be compared by '==', unless one stands as a literal -/
def eqOk (E : Env) (t : TypeId) (lit : Bool) : AV → AV → Bool
  | .nif, .nif => lit
  | .agg _, .agg _ => bnot (E.eqg t)
  | .int _ _, _ => false
  | .str _ _, _ => false
  | .opq _, _ => false
  | .sym _ _ _, _ => false
  | .osl _ _, _ => false
  | .any, _ => false
  | _, .any => false
  | .bound _ _, _ => false
  | _, .bound _ _ => false
  | _, _ => true
noncomputable def eqV (E : Env) (neg : Bool) (t : TypeId) (lit : Bool) (x y : Opd) (T : Tr AV) (H : Hp) : Option AV :=
  ob (getO x T) fun a => ob (getO y T) fun b => guardV (eqOk E t lit a b) fun _ =>
    ob (aeq E 40 t a b H) fun r => some (.bool (match neg with | true => bnot r | false => r))
def keyEq : AV → AV → Bool
  | .int j a, .int k b => (match Nat.beq (kno j) (kno k) with | true => ieq a b | false => false)
  | .str n c, .str m d => seq n c m d
  | .bool true, .bool b => b
  | .bool false, .bool b => bnot b
  | _, _ => false
def keyLike : AV → AV → Bool
  | .int j _, .int k _ => Nat.beq (kno j) (kno k)
  | .str _ _, .str _ _ => true
  | .bool _, .bool _ => true
  | _, _ => false
/-- the entry of a key, by its index; none: a key of another kind -/
noncomputable def findE (k : AV) (es : List (AV × AV × Nat)) (i : Nat) : Option (Option (Nat × AV)) :=
  lrec (X := Nat → Option (Option (Nat × AV))) (fun _ => some none)
    (fun e _ ih i => match keyLike k e.1 with
      | false => none
      | true => match keyEq k e.1 with
        | true => some (some (i, e.2.1))
        | false => ih () (Nat.succ i)) es i
/-- is it a key of the type that says 'kd'? -/
def isKey (kd : TypeDesc) (v : AV) : Bool :=
  match kd, v with
  | .int _, .int _ _ => true
  | .string, .str _ _ => true
  | .bool, .bool _ => true
  | _, _ => false
def outV (ok : Bool) (u : AV) (b : Bool) : AV := match ok with | true => .tup [u, .bool b] | false => u
noncomputable def lookupV (kd : TypeDesc) (z : AV) (x i : Opd) (ok : Bool) (T : Tr AV) (H : Hp) : Option AV :=
  ob (getO x T) fun v => ob (getO i T) fun i => guardV (isKey kd i) fun _ => match v with
  | .nmap => some (outV ok z false)
  | .map b => (match Tr.get b H.t with
    | some (.map es _) => ob (findE i es 0) fun r => (match r with | some (_, u) => some (outV ok u true) | none => some (outV ok z false))
    | _ => none)
  | _ => none
noncomputable def lenMV (x : Opd) (T : Tr AV) (H : Hp) : Option AV :=
  ob (getO x T) fun v => match v with
  | .nmap => some (.int .i64 (.ofNat 0))
  | .map b => (match Tr.get b H.t with | some (.map es _) => some (.int .i64 (.ofNat (len es))) | _ => none)
  | _ => none

/-! ### operations that write -/
noncomputable def rb (o : Option AV) (f : AV → Ret) : Ret := match o with | some v => f v | none => .no
/-- a block of cells of a type -/
noncomputable def newB (t : TypeId) (f : Tr AV → Option (List AV)) (T : Tr AV) : Option Blk := ob (f T) fun l => some (.cells (Nat.succ t) l)
noncomputable def newL (l : List AV) (_ : Tr AV) : Option (List AV) := some l
noncomputable def newV (_ : Tr AV) (b : Pos) : Option AV := some (.ptr b 0)
noncomputable def boxL (x : Opd) (T : Tr AV) : Option (List AV) := ob (getO x T) fun v => some v.cells
noncomputable def bsliceL (n : Nat) (z : List AV) (ps : List (Nat × Nat × Opd)) (T : Tr AV) : Option (List AV) := replK n z fun l => fillK none l ps T some
noncomputable def bsliceV (n : Nat) (_ : Tr AV) (b : Pos) : Option AV := some (.slice b 0 n n 0)
noncomputable def stW (a x : Opd) (n : Nat) (T : Tr AV) : Option (Pos × Nat × List AV) :=
  ob (getO a T) fun v => ob (getO x T) fun u => match v with
  | .ptr b o => (match Nat.beq (len u.cells) n, allOne u.cells with | true, true => some (b, o, u.cells) | _, _ => none)
  | _ => none
/-- the content of a block, behind a store -/
noncomputable def overB (B : Option Blk) (o : Nat) (vs : List AV) : Option Blk :=
  match B with
  | some (.cells pl l) => putK none vs l o fun l => some (.cells pl l)
  | _ => none
noncomputable def byteAVs (n c : Nat) : List AV := fuelRec (X := Nat → List AV) (fun _ => []) (fun ih c => .int .u8 (.ofNat (Nat.mod c 256)) :: ih () (Nat.div c 256)) n c
noncomputable def s2bR (x : Opd) (T : Tr AV) (H : Hp) : Ret :=
  rb (getO x T) fun v => match v with
  | .str n c => (match Nat.ble n 65536 with | true => Hp.newK (.cells 0 (byteAVs n c)) H fun b H => .ok (.slice b 0 n n 1) H | false => .no)
  | _ => .no
noncomputable def mkmapR (_ : Tr AV) (H : Hp) : Ret := Hp.newK (.map [] 0) H fun b H => .ok (.map b) H
noncomputable def mksliceL (bytes : Nat) (z : List AV) (l c : Opd) (T : Tr AV) : Option (List AV) :=
  ob (natO l T) fun l => ob (natO c T) fun c => match Nat.ble l c, Nat.ble c 65536, Nat.ble bytes 4096 with
    | true, true, true => replK c z some
    | _, _, _ => none
noncomputable def mksliceV (l c : Opd) (T : Tr AV) (b : Pos) : Option AV := ob (natO l T) fun l => ob (natO c T) fun c => some (.slice b 0 l c 0)
noncomputable def setE (es : List (AV × AV × Nat)) (i : Nat) (k v : AV) : List (AV × AV × Nat) :=
  lrec (X := Nat → List (AV × AV × Nat)) (fun _ => [])
    (fun e tl ih i => match i with | 0 => (k, v, e.2.2) :: tl | i + 1 => e :: ih () i) es i
noncomputable def delE (es : List (AV × AV × Nat)) (i : Nat) : List (AV × AV × Nat) :=
  lrec (X := Nat → List (AV × AV × Nat)) (fun _ => [])
    (fun e tl ih i => match i with | 0 => tl | i + 1 => e :: ih () i) es i
noncomputable def pushE (es : List (AV × AV × Nat)) (x : AV × AV × Nat) : List (AV × AV × Nat) :=
  lrec (X := List (AV × AV × Nat)) [x] (fun e _ ih => e :: ih ()) es
noncomputable def mapsetR (kd : TypeDesc) (x k v : Opd) (T : Tr AV) (H : Hp) : Ret :=
  rb (getO x T) fun x => rb (getO k T) fun k => rb (getO v T) fun v => match isKey kd k, x with
  | true, .map b => (match Tr.get b H.t with
    | some (.map es cl) => (match findE k es 0 with
      | some (some (i, _)) => Hp.setK b (some (.map (setE es i k v) cl)) H fun H => .ok (.tup []) H
      | some none => Hp.setK b (some (.map (pushE es (k, v, cl)) (Nat.succ cl))) H fun H => .ok (.tup []) H
      | none => .no)
    | _ => .no)
  | _, _ => .no
/-- keys of a struct type whose fields are numbers, strings or truths -/
noncomputable def isKeyF (E : Env) (l : List AV) (f : Field) : Bool := match E.und f.type, partA E f.type l f.offset with | some kd, some v => isKey kd v | _, _ => false
noncomputable def isKeyS (E : Env) (fs : List Field) (l : List AV) : Bool :=
  lrec (X := Bool) true (fun (f : Field) _ ih => match isKeyF E l f with | true => ih () | false => false) fs
noncomputable def findS (E : Env) (t : TypeId) (k : AV) (H : Hp) (es : List (AV × AV × Nat)) (i : Nat) : Option (Option (Nat × AV)) :=
  lrec (X := Nat → Option (Option (Nat × AV))) (fun _ => some none)
    (fun e _ ih i => ob (aeq E 12 t k e.1 H) fun r => match r with | true => some (some (i, e.2.1)) | false => ih () (Nat.succ i)) es i
noncomputable def lookupSV (E : Env) (kt : TypeId) (fs : List Field) (z : AV) (x i : Opd) (ok : Bool) (T : Tr AV) (H : Hp) : Option AV :=
  ob (getO x T) fun v => ob (getO i T) fun k => match k, v with
  | .agg l, .map b => guardV (isKeyS E fs l) fun _ => (match Tr.get b H.t with
    | some (.map es _) => ob (findS E kt (.agg l) H es 0) fun r => (match r with | some (_, u) => some (outV ok u true) | none => some (outV ok z false))
    | _ => none)
  | _, _ => none
/-- a new key only -/
noncomputable def mapsetSR (E : Env) (kt : TypeId) (fs : List Field) (x k v : Opd) (T : Tr AV) (H : Hp) : Ret :=
  rb (getO x T) fun x => rb (getO k T) fun k => rb (getO v T) fun v => match k, x with
  | .agg l, .map b => (match isKeyS E fs l, Tr.get b H.t with
    | true, some (.map es cl) => (match findS E kt (.agg l) H es 0 with
      | some none => Hp.setK b (some (.map (pushE es (.agg l, v, cl)) (Nat.succ cl))) H fun H => .ok (.tup []) H
      | _ => .no)
    | _, _ => .no)
  | _, _ => .no
noncomputable def deleteR (kd : TypeDesc) (x k : Opd) (T : Tr AV) (H : Hp) : Ret :=
  rb (getO x T) fun x => rb (getO k T) fun k => match isKey kd k, x with
  | true, .nmap => .ok (.tup []) H
  | true, .map b => (match Tr.get b H.t with
    | some (.map es cl) => (match findE k es 0 with
      | some (some (i, _)) => Hp.setK b (some (.map (delE es i) cl)) H fun H => .ok (.tup []) H
      | some none => .ok (.tup []) H
      | none => .no)
    | _ => .no)
  | _, _ => .no
noncomputable def rangeSR (x : Opd) (T : Tr AV) (H : Hp) : Ret :=
  rb (getO x T) fun v => match v with | .str n c => Hp.newK (.siter n c 0) H fun b H => .ok (.ptr b 0) H | _ => .no
noncomputable def nextSR (x : Opd) (T : Tr AV) (H : Hp) : Ret :=
  rb (getO x T) fun v => match v with
  | .ptr b 0 => (match Tr.get b H.t with
    | some (.siter n c p) => (match Nat.blt p n with
      | true => (match Nat.blt (sbyte c p) 128 with
        | true => Hp.setK b (some (.siter n c (Nat.succ p))) H fun H => .ok (.tup [.bool true, .int .i64 (.ofNat p), .int .i32 (.ofNat (sbyte c p))]) H
        | false => .no)
      | false => .ok (.tup [.bool false]) H)
    | _ => .no)
  | _ => .no
/-- the first n elements of the source of an append or a copy -/
noncomputable def firstV (G : Tr (List AV)) (size n : Nat) (y : AV) (H : Hp) : Option (List AV) :=
  match y with
  | .slice b o _ _ _ => loadN G b o (Nat.mul n size) H
  | .nslice => some []
  | .osl _ _ => (match n with | 0 => some [] | _ + 1 => none)
  | .str _ c => (match Nat.beq size 1 with | true => some (byteAVs n c) | false => none)
  | _ => none
noncomputable def growR (pl : Nat) (l : List AV) (need size : Nat) (H : Hp) : Ret :=
  match Nat.ble need 65536 with | true => Hp.newK (.cells pl l) H fun b H => .ok (.slice b 0 need need size) H | false => .no
/-- what is left of a block, from a place on -/
def plAt (ty pl : Nat) (o : Nat) : Nat := match o with | 0 => (match Nat.beq pl (Nat.succ ty) with | true => pl | false => 0) | _ + 1 => 0
noncomputable def appendW (G : Tr (List AV)) (ty size : Nat) (x : AV) (n : Nat) (new : List AV) (H : Hp) : Ret :=
  match x with
  | .nslice => (match n with
    | 0 => .ok .nslice H
    | n + 1 => growR (Nat.succ ty) new (Nat.succ n) size H)
  | .slice b o l c op =>
    (match Nat.ble (Nat.add l n) c with
     | true => storeR b (Nat.add o (Nat.mul l size)) new H fun H => .ok (.slice b o (Nat.add l n) c op) H
     | false => (match loadN G b o (Nat.mul l size) H with
       | none => .no
       | some old => appK old new fun cs =>
         match op with
         | 0 => growR (Nat.succ ty) cs (Nat.add l n) size H
         | _ + 1 => (match Nat.beq op size, allOne new, Tr.get b H.t with
           | true, true, some (.cells pl _) => Hp.setK b none H fun H => growR (plAt ty pl o) cs (Nat.add l n) size H
           | _, _, _ => .no)))
  | _ => .no
noncomputable def appendR (G : Tr (List AV)) (ty size bytes : Nat) (x y : Opd) (T : Tr AV) (H : Hp) : Ret :=
  rb (getO x T) fun v => rb (getO y T) fun u =>
  match Nat.ble 1 size, Nat.ble 1 bytes, Nat.ble bytes 4096, lenOfA u with
  | true, true, true, some n => (match firstV G size n u H with
    | some new => appendW G ty size v n new H
    | none => .no)
  | _, _, _, _ => .no
noncomputable def appendZR (G : Tr (List AV)) (ty size bytes : Nat) (z : List AV) (x y : Opd) (T : Tr AV) (H : Hp) : Ret :=
  rb (getO x T) fun v =>
  match Nat.ble 1 size, Nat.ble 1 bytes, Nat.ble bytes 4096, natO y T with
  | true, true, true, some n => (match Nat.ble n 65536 with | true => replK n z fun new => appendW G ty size v n new H | false => .no)
  | _, _, _, _ => .no
noncomputable def copyR (G : Tr (List AV)) (s : Nat) (x y : Opd) (T : Tr AV) (H : Hp) : Ret :=
  rb (getO x T) fun v => rb (getO y T) fun u => match lenOfA u, v with
  | some _, .nslice => .ok (.int .i64 (.ofNat 0)) H
  | some m, .slice b o n _ _ => (match firstV G s (Nat.min m n) u H with
    | some cs => storeR b o cs H fun H => .ok (.int .i64 (.ofNat (Nat.min m n))) H
    | none => .no)
  | _, _ => .no

/-! ### addresses -/
/-- an address of memory, seen as a pointer to a type again -/
noncomputable def ptrUV (u n : Nat) (x : Opd) (T : Tr AV) (H : Hp) : Option AV :=
  ob (getO x T) fun v => match v with
  | .nptr => some .nptr
  | .ptr b 0 => (match Tr.get b H.t with
    | some (.cells pl l) => guardV (Nat.beq pl (Nat.succ u)) fun _ => guardV (Nat.ble n (len l)) fun _ => some (.ptr b 0)
    | _ => none)
  | _ => none
noncomputable def sdataV (x : Opd) (T : Tr AV) : Option AV :=
  ob (getO x T) fun v => match v with
  | .nslice => some .nptr
  | .slice b o _ (_ + 1) _ => some (.ptr b o)
  | _ => none
/-- the code of n bytes -/
noncomputable def strC (n : Nat) (l : List AV) : Option Nat :=
  fuelRec (X := List AV → Option Nat) (fun _ => some 0) (fun ih l => match l with
    | .int .u8 (.ofNat x) :: tl => guardV (Nat.blt x 256) fun _ => ob (ih () tl) fun c => some (Nat.add x (Nat.mul 256 c))
    | _ => none) n l
/-- a string of the bytes of a slice -/
noncomputable def b2sV (G : Tr (List AV)) (x : Opd) (T : Tr AV) (H : Hp) : Option AV :=
  ob (getO x T) fun v => match v with
  | .nslice => some (.str 0 0)
  | .slice b o l _ _ => guardV (Nat.ble l 1000000) fun _ => ob (loadN G b o l H) fun vs => ob (strC l vs) fun c => some (.str l c)
  | _ => none
/-- a string that shares the bytes of a row: nobody looks into the row any more -/
noncomputable def ustrR (e : Nat) (x y : Opd) (T : Tr AV) (H : Hp) : Ret :=
  rb (getO x T) fun v => rb (getO y T) fun u => match v, u with
  | .nptr, .int .i64 (.ofNat 0) => .ok (.str 0 0) H
  | .ptr b 0, .int .i64 (.ofNat n) => (match n with
    | 0 => .ok (.str 0 0) H
    | m + 1 => (match Tr.get b H.t with
      | some (.cells pl l) => (match Nat.beq pl (Nat.succ e), Nat.ble (Nat.succ m) 1000000, strC (Nat.succ m) l with
        | true, true, some c => Hp.setK b none H fun H => .ok (.str (Nat.succ m) c) H
        | _, _, _ => .no)
      | _ => .no))
  | _, _ => .no
/-! ### operations resolved -/
def isLit : Operand → Bool
  | .const _ => true
  | _ => false
noncomputable def optOpd (ng : Nat) : Option Operand → Option (Option Opd)
  | none => some none
  | some x => (match opd ng x with | some y => some (some y) | none => none)
/-- the parts of a build, with offsets and sizes -/
noncomputable def partsOf (ng : Nat) (place : Nat → Option (Nat × Nat)) (ps : List (Nat × Operand)) : Option (List (Nat × Nat × Opd)) :=
  omap (fun x => match place x.1, opd ng x.2 with | some (o, s), some y => some (o, s, y) | _, _ => none) ps
def fieldPlaces (E : Env) (fs : Array Field) (i : Nat) : Option (Nat × Nat) :=
  match fs[i]? with
  | some f => (match E.size f.type with | some s => some (f.offset, s) | none => none)
  | none => none
noncomputable def sized (E : Env) (l : List Field) : Bool := lrec (X := Bool) true (fun f _ ih => match E.size f.type with | some _ => ih () | none => false) l
noncomputable def opds (ng : Nat) (a : Array Operand) : Option (List Opd) := omap (opd ng) a.toList
/-- the element type of a slice type -/
def elemOfS (E : Env) (t : TypeId) : Option TypeInfo := match E.und t with | some (.slice e) => E.ti e | _ => none
def elemIdS (E : Env) (t : TypeId) : Option TypeId := match E.und t with | some (.slice e) => some e | _ => none
/-- does an append add zeros, so many as its second argument says? -/
def zerosOf (E : Env) (u : List TypeId) : Option Bool := match u with | [] => some false | u :: _ => (match E.und u with | some (.int _) => some true | some _ => some false | none => none)
/-- has a type all these methods? -/
noncomputable def hasAll (l : List (String × TypeId)) (ms : List Method) : Bool :=
  lrec (X := Bool) true (fun w _ ih => match lrec (X := Bool) false (fun m _ more => match (m.name == w.1 && m.sig == w.2) with | true => true | false => more ()) ms with | true => ih () | false => false) l
def okV (ok : Bool) (v : AV) : AV := match ok with | true => .tup [v, .bool true] | false => v
noncomputable def tasV (E : Env) (d : TypeDesc) (t : TypeId) (ok : Bool) (x : Opd) (T : Tr AV) : Option AV :=
  ob (getO x T) fun v => match d, v with
  | .interface want, .iface u y => ob (E.ti u) fun i => guardV (hasAll want.toList i.methods.toList) fun _ => some (okV ok (.iface u y))
  | .interface _, _ => none
  | _, .iface u y => guardV (Nat.beq u t) fun _ => some (okV ok y)
  | _, _ => none
noncomputable def cCall (E : Env) (c : Call) : Option COp :=
  match c.callee with
  | .value (.func f) => ob (opds E.ng c.args) fun l => some (.call f l)
  | .value x => ob (opd E.ng x) fun y => ob (opds E.ng c.args) fun l => some (.dyn y l)
  | .invoke r name => ob (opd E.ng r) fun y => ob (opds E.ng c.args) fun l => some (.inv (methOf E name) y l)
  | .builtin b =>
    match b, opds E.ng c.args, c.argTypes.toList with
    | .append, some [x, y], t :: u =>
      (match elemIdS E t, elemOfS E t, zerosOf E u with
       | some e, some i, some false => ob (E.zero e) fun z => (match Nat.beq (len z.cells) i.size with | true => some (.eff (appendR E.gl e i.size i.bytes x y)) | false => none)
       | some e, some i, some true => ob (E.zero e) fun z => (match Nat.beq (len z.cells) i.size with | true => some (.eff (appendZR E.gl e i.size i.bytes z.cells x y)) | false => none)
       | _, _, _ => none)
    | .copy, some [x, y], t :: _ => ob (elemOfS E t) fun i => some (.eff (copyR E.gl i.size x y))
    | .len, some [x], t :: _ =>
      (match E.und t with
       | some .string => some (.pure (lenSV x))
       | some (.slice _) => some (.pure (lenV x))
       | some (.map _ _) => some (.read (lenMV x))
       | some (.array n _) => some (.pure fun _ => some (.int .i64 (.ofNat n)))
       | _ => none)
    | .cap, some [x], t :: _ => (match E.und t with | some (.slice _) => some (.pure (capV x)) | some (.array n _) => some (.pure fun _ => some (.int .i64 (.ofNat n))) | _ => none)
    | .delete, some [x, k], t :: _ => (match E.und t with | some (.map kt _) => ob (E.und kt) fun kd => some (.eff (deleteR kd x k)) | _ => none)
    | .min, some l, _ => some (.pure (mmV false l))
    | .max, some l, _ => some (.pure (mmV true l))
    | .recover, some [], _ => some .recover
    | .unsafeSliceData, some [x], _ => some (.pure (sdataV x))
    | .unsafeString, some [x, y], [pt, _] => (match E.und pt with | some (.pointer e) => (match E.size e with | some 1 => some (.eff (ustrR e x y)) | _ => none) | _ => none)
    | _, _, _ => none
noncomputable def cop (E : Env) (op : Op) : Option COp :=
  match op with
  | .move x | .assign x => ob (opd E.ng x) fun x => some (.pure (getO x))
  | .pick c a b => ob (opd E.ng c) fun c => ob (opd E.ng a) fun a => ob (opd E.ng b) fun b => some (.pure (pickV c a b))
  | .alloc e => ob (E.zero e) fun z => some (.alc (newB e (newL z.cells)) newV)
  | .box e x => ob (opd E.ng x) fun x => some (.alc (newB e (boxL x)) newV)
  | .build t ps => ob (E.zero t) fun z =>
    (match E.und t with
     | some (.struct fs) => (match sized E fs.toList with | true => ob (partsOf E.ng (fieldPlaces E fs) ps.toList) fun l => some (.pure (buildV z.cells l)) | false => none)
     | some (.array _ e) => ob (E.size e) fun s => ob (partsOf E.ng (fun i => some (Nat.mul i s, s)) ps.toList) fun l => some (.pure (buildV z.cells l))
     | _ => none)
  | .buildSlice t n ps => ob (elemIdS E t) fun e => ob (elemOfS E t) fun i => ob (E.zero e) fun z =>
    (match Nat.ble (Nat.mul n i.size) 65536, Nat.beq (len z.cells) i.size with
     | true, true => ob (partsOf E.ng (fun j => some (Nat.mul j i.size, i.size)) ps.toList) fun l => some (.alc (newB e (bsliceL n z.cells l)) (bsliceV n))
     | _, _ => none)
  | .load t x => ob (opd E.ng x) fun x => (match E.isAgg t, E.size t with
     | some true, some n => some (.read (ldn E.gl x n))
     | some false, _ => some (.read (ld1 E.gl x))
     | _, _ => none)
  | .store t a x => ob (E.size t) fun n => ob (opd E.ng a) fun a => ob (opd E.ng x) fun x => some (.st (stW a x n))
  | .nilCheck x => ob (opd E.ng x) fun x => some (.pure (nilckV E x))
  | .binOp op t x y _ => ob (opd E.ng x) fun a => ob (opd E.ng y) fun b =>
     (match E.und t, op with
      | some (.int _), _ => some (.pure (binV op a b))
      | some .string, _ => some (.pure (binV op a b))
      | some .bool, .eql => some (.pure (boolV false a b))
      | some .bool, .neq => some (.pure (boolV true a b))
      | some _, .eql => some (.read (eqV E false t (match isLit x with | true => true | false => isLit y) a b))
      | some _, .neq => some (.read (eqV E true t (match isLit x with | true => true | false => isLit y) a b))
      | _, _ => none)
  | .unOp op _ x => ob (opd E.ng x) fun x => some (.pure (unV op x))
  | .convert s d x => ob (opd E.ng x) fun x => (match E.und s, E.und d with
     | some _, some (.int k) => some (.pure (convV k x))
     | some .string, some .string => some (.pure (sameV x))
     | some .unsafePointer, some (.pointer u) => (match E.size u with | some (n + 1) => some (.read (ptrUV u (Nat.succ n) x)) | _ => none)
     | some (.pointer e), some .unsafePointer => (match E.size e with | some (_ + 1) => some (.read (uptrV E.gl x)) | _ => none)
     | some (.slice e), some .string => (match E.und e with | some (.int .u8) => some (.read (b2sV E.gl x)) | _ => none)
     | some .string, some (.slice e) => (match E.und e, E.size e with | some (.int .u8), some 1 => some (.eff (s2bR x)) | _, _ => none)
     | _, _ => none)
  | .makeInterface t x => ob (opd E.ng x) fun x => (match E.und t with | some (.interface _) => none | some _ => some (.pure (mkifV t x)) | none => none)
  | .makeFunc (.method name) a b => ob (opds E.ng a) fun a => ob (opds E.ng b) fun b => some (.pure (mkbV name a b))
  | .makeFunc (.func f) a b => ob (opds E.ng a) fun a => ob (opds E.ng b) fun b => some (.pure (mkfnV f a b))
  | .makeMap t r => (match E.und t, r with | some (.map _ _), none => some (.eff mkmapR) | some (.map _ _), some (.const (.int _ _)) => some (.eff mkmapR) | _, _ => none)
  | .makeSlice t l c => ob (elemIdS E t) fun e => ob (elemOfS E t) fun i => ob (E.zero e) fun z => ob (opd E.ng l) fun l => ob (opd E.ng c) fun c =>
     (match Nat.beq (len z.cells) i.size, Nat.ble 1 i.size with | true, true => some (.alc (newB e (mksliceL i.bytes z.cells l c)) (mksliceV l c)) | _, _ => none)
  | .slice t x lo hi mx => ob (opd E.ng x) fun x => ob (optOpd E.ng lo) fun lo => ob (optOpd E.ng hi) fun hi => ob (optOpd E.ng mx) fun mx =>
     (match E.und t, mx with
      | some .string, none => some (.pure (sliceSV x lo hi))
      | some (.slice e), mx => ob (E.size e) fun s => (match mx with
        | none => some (.slc (sliceV s x lo hi none) (sliceR s x lo hi) (sliceE s x lo hi))
        | some mx => (match hi with | some _ => some (.pure (sliceV s x lo hi (some mx))) | none => none))
      | some (.array n e), mx => ob (E.size e) fun s => (match mx with | none => some (.pure (sliceAV n s x lo hi none)) | some _ => none)
      | _, _ => none)
  | .fieldAddr s x f => ob (opd E.ng x) fun x => (match E.und s with
     | some (.struct fs) => ob (fs[f]?) fun f => (match E.size f.type with | some (_ + 1) => some (.pure (faddrV x f.offset)) | _ => none)
     | _ => none)
  | .field t x f => ob (opd E.ng x) fun x => (match E.und t with
     | some (.struct fs) => ob (fs[f]?) fun f => ob (E.size f.type) fun n => ob (E.isAgg f.type) fun b => some (.pure (fieldV x f.offset n b))
     | _ => none)
  | .indexAddr t x i => ob (opd E.ng x) fun x => ob (opd E.ng i) fun i => (match E.und t with
     | some (.slice e) => ob (E.size e) fun s => some (.pure (iaddrSV s x i))
     | some (.array n e) => ob (E.size e) fun s => some (.pure (iaddrAV n s x i))
     | _ => none)
  | .index t x i => ob (opd E.ng x) fun x => ob (opd E.ng i) fun i => (match E.und t with
     | some .string => some (.pure (idxSV x i))
     | some (.array n e) => ob (E.size e) fun s => ob (E.isAgg e) fun b => some (.pure (idxAV n s b x i))
     | _ => none)
  | .lookup t x i ok => ob (opd E.ng x) fun x => ob (opd E.ng i) fun i => (match E.und t with
     | some (.map kt e) => ob (E.und kt) fun kd => ob (E.zero e) fun z => (match kd with | .struct fs => some (.read (lookupSV E kt fs.toList z x i ok)) | kd => some (.read (lookupV kd z x i ok)))
     | _ => none)
  | .mapUpdate t m k v | .insert t m k v => ob (opd E.ng m) fun m => ob (opd E.ng k) fun k => ob (opd E.ng v) fun v => (match E.und t with
     | some (.map kt _) => ob (E.und kt) fun kd => (match kd with | .struct fs => some (.eff (mapsetSR E kt fs.toList m k v)) | kd => some (.eff (mapsetR kd m k v)))
     | _ => none)
  | .extract x i => ob (opd E.ng x) fun x => some (.pure (extV x i))
  | .range t x => ob (opd E.ng x) fun x => (match E.und t with | some .string => some (.eff (rangeSR x)) | _ => none)
  | .next x true => ob (opd E.ng x) fun x => some (.eff (nextSR x))
  | .typeAssert x _ t ok => ob (opd E.ng x) fun x => ob (E.und t) fun d => some (.pure (tasV E d t ok x))
  | .call c => cCall E c
  | .defer c => (match cCall E c with
     | some (.call f l) => some (.defer (.c (.fn f [] [])) l)
     | some (.dyn x l) => some (.defer x l)
     | _ => none)
  | _ => none
end Go.Ev
/- An evaluator for runs whose inputs are closed: frames, calls, regions. -/
namespace Go.Ev

structure CO where
  dst : Option Pos
  guard : Option (Pos × Bool)
  op : COp
/-- an operation of a frame with n slots -/
noncomputable def cOper (E : Env) (n : Nat) (ops : Array Oper) (o : Oper) : Option CO :=
  ob (cop E o.op) fun c =>
  match (match o.dst with | some t => Nat.blt t n | none => true), o.guard with
  | true, none => some ⟨(match o.dst with | some t => some (posOf t) | none => none), none, c⟩
  | true, some (j, b) => (match (ops[j]?).bind (·.dst) with
    | some t => some ⟨(match o.dst with | some t => some (posOf t) | none => none), some (posOf t, b), c⟩
    | none => none)
  | false, _ => none

noncomputable def mapL {α β : Type} (f : α → β) (l : List α) : List β := lrec (X := List β) [] (fun a _ ih => f a :: ih ()) l
noncomputable def allL {α : Type} (f : α → Bool) (l : List α) : Bool := lrec (X := Bool) true (fun a _ ih => match f a with | true => ih () | false => false) l
/-- equal values, equal by their text -/
noncomputable def avEq (d : Nat) : AV → AV → Bool :=
  fuelRec (X := AV → AV → Bool) (fun _ _ => false) (fun ih x y =>
    let all : List AV → List AV → Bool := fun l m => lrec (X := List AV → Bool) (fun m => match m with | [] => true | _ => false)
      (fun a _ more m => match m with | [] => false | b :: m => (match ih () a b with | true => more () m | false => false)) l m
    match x, y with
    | .bool true, .bool b => b
    | .bool false, .bool b => bnot b
    | .int j a, .int k b => (match Nat.beq (kno j) (kno k) with | true => ieq a b | false => false)
    | .str n c, .str m d => seq n c m d
    | .nptr, .nptr | .nslice, .nslice | .nmap, .nmap | .nfn, .nfn | .nif, .nif => true
    | .ptr b o, .ptr c p => (match Pos.beq b c with | true => Nat.beq o p | false => false)
    | .slice b o l c op, .slice b' o' l' c' op' =>
      (match Pos.beq b b', Nat.beq o o', Nat.beq l l', Nat.beq c c', Nat.beq op op' with | true, true, true, true, true => true | _, _, _, _, _ => false)
    | .map b, .map c => Pos.beq b c
    | .opq i, .opq j => Nat.beq i j
    | .sym D j a, .sym F k b => (match Nat.beq (kno j) (kno k), Tm.beq a b with | true, true => cdsEq D F | _, _ => false)
    | .osl D a, .osl F b => (match Tm.beq a b with | true => cdsEq D F | false => false)
    | .any, .any => true
    | .yld b, .yld c => Pos.beq b c
    | .fn f a b, .fn g c d => (match Nat.beq f g with | true => (match all a c with | true => all b d | false => false) | false => false)
    | .iface t v, .iface u w => (match Nat.beq t u with | true => ih () v w | false => false)
    | .agg l, .agg m => all l m
    | .tup l, .tup m => all l m
    | _, _ => false) d
inductive Kd where
  | normal
  | deferred
  | round (b : Pos)
inductive ADef where
  | call (f : FuncId) (first args cap : List AV)
  | coll (b : Pos)
structure Fr where
  fid : FuncId
  n : Nat
  kd : Kd
inductive ORet where
  | no
  | ok (T : Tr AV) (ds : List ADef) (H : Hp)

/-! ### functions without a body -/
noncomputable def intAt (G : Tr (List AV)) (k : IntKind) (b : Pos) (o : Nat) (H : Hp) (f : Int → Ret) : Ret :=
  match cell G b o H with | some (.int j z) => (match Nat.beq (kno j) (kno k) with | true => f z | false => .no) | _ => .no
noncomputable def idxByteW (n c x : Nat) : Int :=
  fuelRec (X := Nat → Nat → Int) (fun _ _ => .negSucc 0)
    (fun ih i c => match Nat.beq (Nat.mod c 256) x with | true => .ofNat i | false => ih () (Nat.succ i) (Nat.div c 256)) n 0 c
noncomputable def countW (n c x : Nat) : Nat :=
  fuelRec (X := Nat → Nat → Nat) (fun m _ => m)
    (fun ih m c => match Nat.beq (Nat.mod c 256) x with | true => ih () (Nat.succ m) (Nat.div c 256) | false => ih () m (Nat.div c 256)) n 0 c
noncomputable def extR (G : Tr (List AV)) (x : Ext) (args : List AV) (H : Hp) : Ret :=
  match x, args with
  | .load k, [.ptr b o] => intAt G k b o H fun z => .ok (.int k z) H
  | .store, [.ptr b o, .int k y] => storeR b o [.int k y] H fun H => .ok (.tup []) H
  | .cas k, [.ptr b o, .int j x, .int i y] => (match Nat.beq (kno j) (kno k), Nat.beq (kno i) (kno k) with
    | true, true => intAt G k b o H fun z =>
      (match ieq z x with | true => storeR b o [.int k y] H fun H => .ok (.bool true) H | false => (match Tr.get b H.t with | some (.cells (_ + 1) _) => .ok (.bool false) H | _ => .no))
    | _, _ => .no)
  | .add k, [.ptr b o, .int j y] => (match Nat.beq (kno j) (kno k) with
    | true => intAt G k b o H fun z => storeR b o [.int k (wr k (addI z y))] H fun H => .ok (.int k (wr k (addI z y))) H
    | false => .no)
  | .nop0, [] => .ok (.tup []) H
  | .nop1, [.ptr _ _] => .ok (.tup []) H
  | .idxByte, [.str n c, .int .u8 (.ofNat x)] => .ok (.int .i64 (idxByteW n c (Nat.mod x 256))) H
  | .count, [.str n c, .int .u8 (.ofNat x)] => .ok (.int .i64 (.ofNat (countW n c (Nat.mod x 256)))) H
  | .same, [v] => .ok v H
  | .mknz t, [.int .i64 (.ofNat n)] => (match Nat.ble 1 n, Nat.ble n 65536 with
    | true, true => replK n [.any] fun l => Hp.newK (.cells (Nat.succ t) l) H fun b H => .ok (.slice b 0 n n 1) H
    | _, _ => .no)
  | _, _ => .no

/-! ### frames -/
noncomputable def setO (d : Option Pos) (v : AV) (T : Tr AV) (K : Tr AV → ORet) : ORet := match d with | some p => Tr.setK (some v) p T K | none => K T
noncomputable def argsK {X : Type} (l : List AV) (K : Tr AV → X) : X :=
  lrec (X := Nat → Tr AV → X) (fun _ T => K T) (fun v _ ih i T => Tr.setK (some v) (posOf i) T fun T => ih () (Nat.succ i) T) l 0 .e
noncomputable def resV (E : Env) (rs : List ResultVar) (T : Tr AV) (H : Hp) : Option (List AV) :=
  omap (fun r => match r with
    | .tmp t => Tr.get (posOf t) T
    | .cell a t => ob (Tr.get (posOf a) T) fun v => (match v, E.isAgg t, E.size t with
      | .ptr b o, some true, some n => ob (loadN E.gl b o n H) fun l => some (.agg l)
      | .ptr b o, some false, some _ => cell E.gl b o H
      | _, _, _ => none)) rs
def oneOrTup (l : List AV) : AV := match l with | [v] => v | l => .tup l
abbrev RunT := Fr → Tr AV → List ADef → List Item → Hp → Ret
/-! ### calls of which the end is known -/
/-- names, changed -/
noncomputable def ren (S : Tr Pos) (b : Pos) : Pos := match Tr.get b S with | some c => c | none => b
noncomputable def renAV (S : Tr Pos) (d : Nat) : AV → AV :=
  fuelRec (X := AV → AV) (fun v => v) (fun ih v => match v with
    | .ptr b o => .ptr (ren S b) o
    | .slice b o l c op => .slice (ren S b) o l c op
    | .map b => .map (ren S b)
    | .fn f a c => .fn f (mapL (ih ()) a) (mapL (ih ()) c)
    | .iface t v => .iface t (ih () v)
    | .agg l => .agg (mapL (ih ()) l)
    | .tup l => .tup (mapL (ih ()) l)
    | v => v) d
noncomputable def renBlk (S : Tr Pos) : Blk → Option Blk
  | .cells pl l => some (.cells pl (mapL (renAV S 12) l))
  | .map es cl => some (.map (mapL (fun (e : AV × AV × Nat) => (renAV S 12 e.1, renAV S 12 e.2.1, e.2.2)) es) cl)
  | _ => none
noncomputable def allN2 (f : AV → AV → Bool) (l m : List AV) : Bool :=
  lrec (X := List AV → Bool) (fun m => match m with | [] => true | _ => false)
    (fun a _ more m => match m with | [] => false | b :: m => (match f a b with | true => more () m | false => false)) l m
/-- names for the blocks, from the first free one on -/
noncomputable def nameK (l : List (Pos × Blk)) (S : Tr Pos) (nx : Pos) (K : Tr Pos → Ret) : Ret :=
  lrec (X := Tr Pos → Pos → Ret) (fun S _ => K S) (fun x _ ih S nx => Tr.setK (some nx) x.1 S fun S => Pos.succK nx fun nx => ih () S nx) l S nx
noncomputable def layK (S : Tr Pos) (l : List (Pos × Blk)) (H : Hp) (K : Hp → Ret) : Ret :=
  lrec (X := Hp → Ret) K (fun x _ ih H => match renBlk S x.2 with | some B => Hp.newK B H fun _ H => ih () H | none => .no) l H
noncomputable def sumR (s : Sum) (H : Hp) : Ret := nameK s.blks .e H.nx fun S => layK S s.blks H fun H => .ok (renAV S 12 s.v) H
noncomputable def findSum (l : List Sum) (args : List AV) : Option Sum :=
  lrec (X := Option Sum) none (fun s _ ih => match allN2 (avEq 6) s.args args with | true => some s | false => ih ()) l
/-! ### calls of which a law tells the end -/
noncomputable def keyInts (es : List (AV × AV × Nat)) : Option (List Int) := omap (fun e => match e.1 with | .int .i64 n => some n | _ => none) es
noncomputable def insI (n : Int) (l : List Int) : List Int := lrec (X := List Int) [n] (fun a tl ih => match ilt a n with | true => a :: ih () | false => n :: a :: tl) l
noncomputable def sortI (l : List Int) : List Int := lrec (X := List Int) [] (fun a _ ih => insI a (ih ())) l
/-- the stamps rise, and lie below the clock -/
noncomputable def stampsOk (cl : Nat) (es : List (AV × AV × Nat)) : Bool :=
  lrec (X := Nat → Bool) (fun _ => true) (fun e _ ih lo => match Nat.ble lo e.2.2, Nat.blt e.2.2 cl with | true, true => ih () (Nat.succ e.2.2) | _, _ => false) es 0
/-- a list without twins, whose numbers are ints of 64 bits -/
noncomputable def keysOk (l : List Int) : Bool :=
  lrec (X := Bool) true (fun a tl ih => match allL (fun b => bnot (ieq a b)) tl, ilt a (-9223372036854775808), ilt 9223372036854775807 a with | true, false, false => ih () | _, _, _ => false) l
/-- the entries of a map whose keys are ints -/
noncomputable def mapOf (x : AV) (H : Hp) : Option (Option (Pos × List (AV × AV × Nat) × Nat × List Int)) :=
  match x with
  | .nmap => some none
  | .map m => (match Tr.get m H.t with
    | some (.map es cl) => ob (keyInts es) fun ks => (match stampsOk cl es, keysOk ks, Nat.ble (len ks) 4096 with | true, true, true => some (some (m, es, cl, ks)) | _, _, _ => none)
    | _ => none)
  | _ => none
noncomputable def cutE (n : Int) (es : List (AV × AV × Nat)) : List (AV × AV × Nat) :=
  lrec (X := List (AV × AV × Nat)) [] (fun e _ ih => match e.1 with | .int _ k => (match ilt n k with | true => ih () | false => e :: ih ()) | _ => e :: ih ()) es
/-! ### heaps, compared -/
noncomputable def eqL (f : AV → AV → Bool) (l m : List AV) : Bool :=
  lrec (X := List AV → Bool) (fun m => match m with | [] => true | _ => false)
    (fun a _ more m => match m with | [] => false | b :: m => (match f a b with | true => more () m | false => false)) l m
noncomputable def eqE (l m : List (AV × AV × Nat)) : Bool :=
  lrec (X := List (AV × AV × Nat) → Bool) (fun m => match m with | [] => true | _ => false)
    (fun a _ more m => match m with
      | [] => false
      | b :: m => (match avEq 12 a.1 b.1, avEq 12 a.2.1 b.2.1, Nat.beq a.2.2 b.2.2 with | true, true, true => more () m | _, _, _ => false)) l m
noncomputable def blkEq (B C : Blk) : Bool :=
  match B, C with
  | .cells p l, .cells q m => (match Nat.beq p q with | true => eqL (avEq 12) l m | false => false)
  | .map es c, .map fs d => (match Nat.beq c d with | true => eqE es fs | false => false)
  | _, _ => false
noncomputable def sameB (t : Tr Blk) (x : Pos × Blk) : Bool := match Tr.get x.1 t with | some B => blkEq B x.2 | none => false
noncomputable def layM {X : Type} (l : List (Pos × Blk)) (t : Tr Blk) (K : Tr Blk → X) : X :=
  lrec (X := Tr Blk → X) K (fun x _ ih t => Tr.setK (some x.2) x.1 t fun t => ih () t) l t
/-- a call that has been run -/
noncomputable def memoR (l : List MEnt) (args : List AV) (H : Hp) : Ret :=
  lrec (X := Ret) .no (fun e _ ih => match (match Pos.beq e.nx H.nx with | true => eqL (avEq 12) e.args args | false => false) with
    | true => (match allL (sameB H.t) e.pre with | true => layM e.post H.t fun t => .ok e.v ⟨t, e.nx'⟩ | false => ih ())
    | false => ih ()) l
/-! which names stand for which -/
noncomputable def cL (f : AV → AV → Tr Pos → (Tr Pos → Ret) → Ret) (l m : List AV) (S : Tr Pos) (K : Tr Pos → Ret) : Ret :=
  lrec (X := List AV → Tr Pos → Ret) (fun _ S => K S) (fun a _ ih m S => match m with | [] => .no | b :: m => f a b S fun S => ih () m S) l m S
noncomputable def cAV (d : Nat) : AV → AV → Tr Pos → (Tr Pos → Ret) → Ret :=
  fuelRec (X := AV → AV → Tr Pos → (Tr Pos → Ret) → Ret) (fun _ _ S K => K S) (fun ih x y S K => match x, y with
    | .ptr b _, .ptr c _ => Tr.setK (some c) b S K
    | .slice b _ _ _ _, .slice c _ _ _ _ => Tr.setK (some c) b S K
    | .map b, .map c => Tr.setK (some c) b S K
    | .fn _ a c, .fn _ a' c' => cL (ih ()) a a' S fun S => cL (ih ()) c c' S K
    | .iface _ v, .iface _ w => ih () v w S K
    | .agg l, .agg m => cL (ih ()) l m S K
    | .tup l, .tup m => cL (ih ()) l m S K
    | _, _ => K S) d
noncomputable def cE (es fs : List (AV × AV × Nat)) (S : Tr Pos) (K : Tr Pos → Ret) : Ret :=
  lrec (X := List (AV × AV × Nat) → Tr Pos → Ret) (fun _ S => K S) (fun a _ ih m S => match m with | [] => .no | b :: m => cAV 12 a.1 b.1 S fun S => cAV 12 a.2.1 b.2.1 S fun S => ih () m S) es fs S
noncomputable def cBlk (B C : Blk) (S : Tr Pos) (K : Tr Pos → Ret) : Ret :=
  match B, C with
  | .cells _ l, .cells _ m => cL (cAV 12) l m S K
  | .map es _, .map fs _ => cE es fs S K
  | _, _ => .no
noncomputable def cPre (t : Tr Blk) (l : List (Pos × Blk)) (S : Tr Pos) (K : Tr Pos → Ret) : Ret :=
  lrec (X := Tr Pos → Ret) K (fun x _ ih S => match Tr.get x.1 S with
    | some c => (match Tr.get c t with | some C => cBlk x.2 C S fun S => ih () S | none => .no)
    | none => ih () S) l S
noncomputable def sameR (S : Tr Pos) (t : Tr Blk) (x : Pos × Blk) : Bool :=
  match Tr.get (ren S x.1) t, renBlk S x.2 with | some C, some B => blkEq B C | _, _ => false
noncomputable def fixG (S : Tr Pos) (n : Nat) : Bool := fuelRec (X := Nat → Bool) (fun _ => true) (fun ih k => match Pos.beq (ren S (posOf k)) (posOf k) with | true => ih () (Nat.succ k) | false => false) n 0
noncomputable def distR (S : Tr Pos) (l : List (Pos × Blk)) (T : Tr Pos) : Bool :=
  lrec (X := Tr Pos → Bool) (fun _ => true) (fun x _ ih T => match Tr.get (ren S x.1) T with | none => Tr.setK (some x.1) (ren S x.1) T fun T => ih () T | some _ => false) l T
noncomputable def putR (S : Tr Pos) (l : List (Pos × Blk)) (H : Hp) (K : Hp → Ret) : Ret :=
  lrec (X := Hp → Ret) K (fun x _ ih H => match renBlk S x.2 with | some B => Hp.setK (ren S x.1) (some B) H fun H => ih () H | none => .no) l H
noncomputable def useR (ng : Nat) (e : REnt) (S : Tr Pos) (args : List AV) (H : Hp) : Ret :=
  match eqL (avEq 12) (mapL (renAV S 12) e.args) args, fixG S ng, allL (sameR S H.t) e.pre, distR S e.pre .e with
  | true, true, true, true => nameK e.new S H.nx fun S => putR S e.post H fun H => layK S e.new H fun H => .ok (renAV S 12 e.v) H
  | _, _, _, _ => .no
noncomputable def rmemoR (ng : Nat) (l : List REnt) (args : List AV) (H : Hp) : Ret :=
  lrec (X := Ret) .no (fun e _ ih => match cL (cAV 12) e.args args .e fun S => cPre H.t e.pre S fun S => useR ng e S args H with | .ok v H => .ok v H | .no => ih ()) l
noncomputable def ctrR (G : Tr (List AV)) (c : Ctr) (args : List AV) (H : Hp) : Ret :=
  match c, args with
  | .keys kf, [.fn g [] [.ptr b 0]] => (match Nat.beq g kf, Tr.get b H.t with
    | true, some (.cells (_ + 1) (x :: _)) => (match mapOf x H with
      | some none => .ok .nslice H
      | some (some (_, _, _, ks)) => (match ks with
        | [] => .ok .nslice H
        | _ :: _ => Hp.newK (.cells 0 (mapL (fun n => AV.int .i64 n) (sortI ks))) H fun b H => .ok (.slice b 0 (len ks) (len ks) 1) H)
      | none => .no)
    | _, _ => .no)
  | .cut cf, [x, .fn g [] [.ptr b o]] => (match Nat.beq g cf, mapOf x H, cell G b o H with
    | true, some (some (m, es, cl, _)), some (.int .i64 n) => Hp.setK m (some (.map (cutE n es) cl)) H fun H => .ok (.tup []) H
    | _, _, _ => .no)
  | .memo l, as => memoR l as H
  | .rmemo ng l, as => rmemoR ng l as H
  | _, _ => .no
/-- a call of a function by its number -/
noncomputable def callR (E : Env) (run : RunT) (kd : Kd) (f : FuncId) (args : List AV) (H : Hp) : Ret :=
  match (match kd with | .normal => findSum (E.sums f) args | _ => none) with
  | some s => sumR s H
  | none => match (match kd with | .normal => (match E.ctr f with | some c => ctrR E.gl c args H | none => .no) | _ => .no) with
  | .ok v H => .ok v H
  | .no => match E.fns f with
    | some fn => (match fn.body with
      | some c => argsK args fun T => run ⟨f, fn.ntmps, kd⟩ T [] [.code c] H
      | none => (match kd, E.ext f with | .normal, some x => extR E.gl x args H | _, _ => .no))
    | none => .no
noncomputable def paramsK (n : Nat) (ps : List Tmp) (args : List AV) (T : Tr AV) (K : Tr AV → Ret) : Ret :=
  lrec (X := List AV → Tr AV → Ret) (fun as T => match as with | [] => K T | _ => .no)
    (fun t _ ih as T => match as, Nat.blt t n with | a :: as, true => Tr.setK (some a) (posOf t) T fun T => ih () as T | _, _ => .no) ps args T
noncomputable def dynR (E : Env) (run : RunT) (x : AV) (args : List AV) (H : Hp) : Ret :=
  match x with
  | .fn f first cap => appK args cap fun r => appK first r fun l => callR E run .normal f l H
  | .yld b => (match Tr.get b H.t with
    | some (.loop _ _ f nt T ps assign body _) => paramsK nt ps args T fun T => run ⟨f, nt, .round b⟩ T [] [.code assign, .beginRound, .code body] H
    | _ => .no)
  | _ => .no
/-- is an operation wanted? none: it cannot be told -/
noncomputable def wantedV (g : Option (Pos × Bool)) (T : Tr AV) : Option Bool :=
  match g with
  | none => some true
  | some (p, b) => match Tr.get p T with
    | some (.bool c) => some (match b with | true => c | false => bnot c)
    | some .any => none
    | some _ => some false
    | none => none
noncomputable def orb (r : Ret) (k : AV → Hp → ORet) : ORet := match r with | .ok v H => k v H | .no => .no
/-- an operation that is no defer and no recover -/
noncomputable def actR (E : Env) (run : RunT) (op : COp) (T : Tr AV) (H : Hp) : Ret :=
  match op with
  | .pure f => (match f T with | some v => .ok v H | none => .no)
  | .read f => (match f T H with | some v => .ok v H | none => .no)
  | .slc f g _ => (match f T with | some v => .ok v H | none => g T H)
  | .alc f v => (match f T, v T H.nx with | some B, some u => Hp.newK B H fun _ H => .ok u H | _, _ => .no)
  | .st f => (match f T with
    | some (b, o, vs) => (match overB (Tr.get b H.t) o vs with
      | some B => Hp.setK b (some B) H fun H => .ok (.tup []) H
      | none => .no)
    | none => .no)
  | .eff g => g T H
  | .call f xs => (match getL xs T with | some l => callR E run .normal f l H | none => .no)
  | .dyn x xs => (match getO x T, getL xs T with | some x, some l => dynR E run x l H | _, _ => .no)
  | .inv m x xs => (match getO x T, getL xs T with
    | some (.iface t v), some l => (match m t with | some f => callR E run .normal f (v :: l) H | none => .no)
    | _, _ => .no)
  | _ => .no
noncomputable def actW (E : Env) (run : RunT) (c : CO) (T : Tr AV) (H : Hp) : Ret :=
  match wantedV c.guard T with
  | none => .no
  | some false => .ok (.tup []) H
  | some true => actR E run c.op T H
/-- one operation of a region -/
noncomputable def stepR (E : Env) (run : RunT) (kd : Kd) (c : CO) (T : Tr AV) (ds : List ADef) (H : Hp) : ORet :=
  match c.op with
  | .defer x xs => (match kd, wantedV c.guard T with
    | .round _, _ => .no
    | _, some true => (match getO x T, getL xs T with
      | some (.fn f first cap), some l => setO c.dst (.tup []) T fun T => .ok T (.call f first l cap :: ds) H
      | _, _ => .no)
    | _, _ => .no)
  | .recover => (match kd, wantedV c.guard T with | .deferred, some true => setO c.dst .nif T fun T => .ok T ds H | _, _ => .no)
  | _ => orb (actW E run c T H) fun v H => setO c.dst v T fun T => .ok T ds H
noncomputable def opsR (E : Env) (run : RunT) (fr : Fr) (ops : Array Oper) (l : List Oper) (T : Tr AV) (ds : List ADef) (H : Hp) : ORet :=
  lrec (X := Tr AV → List ADef → Hp → ORet) (fun T ds H => .ok T ds H)
    (fun o _ ih T ds H => match cOper E fr.n ops o with
      | none => .no
      | some c => match stepR E run fr.kd c T ds H with | .ok T ds H => ih () T ds H | .no => .no) l T ds H

/-! ### regions whose order is drawn -/
def tb (m i : Nat) : Bool := Nat.beq (Nat.mod (Nat.div m (Nat.pow 2 i)) 2) 1
/-- what an operation must wait for -/
noncomputable def maskOf (es : List Edge) (ms : Tr Nat) : Nat :=
  lrec (X := Nat → Nat) (fun s => s) (fun e _ ih s => match Region.binds .any e with
    | true => ih () (Nat.lor (Nat.lor s (Nat.pow 2 e.on)) (match Tr.get (posOf e.on) ms with | some m => m | none => 0))
    | false => ih () s) es 0
structure PE where
  i : Nat
  c : CO
  dst : Option Nat
  names : List Nat
  m : Nat
def COp.effects : COp → Bool
  | .pure _ | .read _ | .slc _ _ _ => false
  | _ => true
def COp.floats : COp → Bool
  | .alc _ _ | .st _ => true
  | _ => false
def COp.stores : COp → Bool
  | .st _ => true
  | _ => false
def COp.reads : COp → Bool
  | .read _ => true
  | _ => false
noncomputable def tmpsOf (l : List Operand) : List Nat := lrec (X := List Nat) [] (fun x _ ih => match x with | .tmp t => t :: ih () | _ => ih ()) l
noncomputable def mem (t : Nat) (l : List Nat) : Bool := lrec (X := Bool) false (fun a _ ih => match Nat.beq t a with | true => true | false => ih ()) l
noncomputable def namesOf (ops : Array Oper) (o : Oper) : List Nat :=
  match o.guard with
  | some (j, _) => (match (ops[j]?).bind (·.dst) with | some t => t :: tmpsOf o.op.operands.toList | none => tmpsOf o.op.operands.toList)
  | none => tmpsOf o.op.operands.toList
/-- all edges lead to earlier operations -/
noncomputable def edgesOk (i : Nat) (es : List Edge) : Bool := allL (fun e => match Region.binds .any e with | true => Nat.blt e.on i | false => true) es
noncomputable def planE (E : Env) (n : Nat) (ops : Array Oper) (l : List Oper) : Option (List PE) :=
  lrec (X := Nat → Tr Nat → Option (List PE)) (fun _ _ => some [])
    (fun o _ ih i ms => match cOper E n ops o, edgesOk i o.after.toList with
      | some c, true => Tr.setK (some (maskOf o.after.toList ms)) (posOf i) ms fun ms' =>
        ob (ih () (Nat.succ i) ms') fun r => some (⟨i, c, o.dst, namesOf ops o, maskOf o.after.toList ms⟩ :: r)
      | _, _ => none) l 0 .e
/-- does one of the two wait for the other? -/
def tied (x y : PE) : Bool := match tb y.m x.i with | true => true | false => tb x.m y.i
/-- a new block, or a store, that another one that acts need not wait for, nor it for the other: it is laid late -/
noncomputable def floatPE (es : List PE) (x : PE) : Bool :=
  match x.c.op.floats with
  | true => bnot (allL (fun y => match y.c.op.effects with | true => (match Nat.beq x.i y.i with | true => true | false => tied x y) | false => true) es)
  | false => false
structure PC where
  e : PE
  fl : Bool
  lo : Nat
  hi : Nat
/-- of the chain: it acts, and it is not laid late -/
def PC.chain (p : PC) : Bool := match p.fl with | true => false | false => p.e.c.op.effects
/-- a late store -/
def PC.st (p : PC) : Bool := match p.fl with | true => p.e.c.op.stores | false => false
/-- neither of two operations writes what the other names or writes -/
noncomputable def slotsOk (x y : PE) : Bool :=
  match (match x.dst with | some t => (match mem t y.names with | true => true | false => (match y.dst with | some u => Nat.beq t u | none => false)) | none => false) with
  | true => false
  | false => (match y.dst with | some u => bnot (mem u x.names) | none => true)
/-- do two operations, the earlier one first, get along? -/
noncomputable def apartP (p q : PC) : Bool :=
  match p.st with
  | true => (match tb q.e.m p.e.i, q.chain with
    | false, false => slotsOk p.e q.e
    | _, _ => false)
  | false => (match tb q.e.m p.e.i with
    | true => true
    | false => (match p.chain, (match q.chain with | true => true | false => q.st) with
      | true, true => false
      | _, _ => slotsOk p.e q.e))
noncomputable def planOk (l : List PC) : Bool :=
  lrec (X := Bool) true (fun x tl ih => match allL (fun y => apartP x y) tl with | true => ih () | false => false) l
noncomputable def countL {α : Type} (f : α → Bool) (l : List α) : Nat := lrec (X := Nat) 0 (fun a _ ih => match f a with | true => Nat.succ (ih ()) | false => ih ()) l
/-- of the chain, among all -/
noncomputable def chainE (es : List PE) (x : PE) : Bool := match floatPE es x with | true => false | false => x.c.op.effects
noncomputable def pcOf (es : List PE) (x : PE) : PC :=
  match x.c.op.reads with
  | true => ⟨x, false,
      countL (fun e => match chainE es e with | true => tb x.m e.i | false => false) es,
      countL (fun e => match chainE es e with | true => bnot (tb e.m x.i) | false => false) es⟩
  | false => ⟨x, floatPE es x, 0, 0⟩
noncomputable def plan (E : Env) (n : Nat) (ops : Array Oper) : Option (List PC) :=
  ob (planE E n ops ops.toList) fun es => match planOk (mapL (pcOf es) es) with | true => some (mapL (pcOf es) es) | false => none
/-- one operation that does not act -/
noncomputable def lightV (c : CO) (T : Tr AV) (H : Hp) : Option AV :=
  match wantedV c.guard T with
  | none => none
  | some false => some (.tup [])
  | some true => match c.op with
    | .pure f => f T
    | .read f => f T H
    | .slc _ _ h => h T
    | _ => none
structure Rec where
  p : PC
  T : Tr AV
  v : AV
noncomputable def againOk (hs : List (Nat × Hp)) (r : Rec) : Bool :=
  allL (fun (x : Nat × Hp) => match Nat.ble r.p.lo x.1, Nat.ble x.1 r.p.hi with
    | true, true => (match lightV r.p.e.c r.T x.2 with | some v => avEq 12 v r.v | none => false)
    | _, _ => true) hs
/-- what is laid late: the number of the operation, the block, its content then -/
structure Late where
  i : Nat
  b : Pos
  B : Blk
/-- what operation m waits for is laid now -/
noncomputable def layLate (m : Nat) (l : List Late) (H : Hp) (K : List Late → Hp → ORet) : ORet :=
  lrec (X := Hp → (List Late → Hp → ORet) → ORet) (fun H K => K [] H)
    (fun x _ ih H K => match tb m x.i with
      | true => Hp.setK x.b (some x.B) H fun H => ih () H K
      | false => ih () H fun r H => K (x :: r) H) l H K
noncomputable def layAll (l : List Late) (H : Hp) (K : Hp → ORet) : ORet :=
  lrec (X := Hp → ORet) K (fun x _ ih H => Hp.setK x.b (some x.B) H fun H => ih () H) l H
structure DS where
  T : Tr AV
  H : Hp
  fp : Pos
  j : Nat
  hs : List (Nat × Hp)
  rs : List Rec
  late : List Late
/-- one operation, in the order of the text; late stores are left out -/
noncomputable def drawStep (E : Env) (run : RunT) (p : PC) (s : DS) (K : DS → ORet) : ORet :=
  match p.fl with
  | true => (match p.e.c.guard, p.e.c.op with
    | none, .alc f v => (match f s.T, v s.T s.fp with
      | some B, some u => setO p.e.c.dst u s.T fun T => Pos.succK s.fp fun fp => K ⟨T, s.H, fp, s.j, s.hs, s.rs, ⟨p.e.i, s.fp, B⟩ :: s.late⟩
      | _, _ => .no)
    | none, .st _ => (match p.e.c.dst with | none => K s | some _ => .no)
    | _, _ => .no)
  | false => (match p.e.c.op.effects with
    | true => layLate p.e.m s.late s.H fun late H => (match actW E run p.e.c s.T H with
      | .ok v H' => setO p.e.c.dst v s.T fun T => K ⟨T, H', s.fp, Nat.succ s.j, (s.j, s.H) :: s.hs, s.rs, late⟩
      | .no => .no)
    | false => (match lightV p.e.c s.T s.H with
      | some v => setO p.e.c.dst v s.T fun T => K ⟨T, s.H, s.fp, s.j, s.hs, (match p.e.c.op.reads with | true => ⟨p, s.T, v⟩ :: s.rs | false => s.rs), s.late⟩
      | none => .no))
noncomputable def drawGo (E : Env) (run : RunT) (l : List PC) (s : DS) (K : DS → ORet) : ORet :=
  lrec (X := DS → ORet) K (fun p _ ih s => drawStep E run p s fun s => ih () s) l s
/-- the late stores -/
noncomputable def storesGo (l : List PC) (T : Tr AV) (H : Hp) (late : List Late) (K : Hp → List Late → ORet) : ORet :=
  lrec (X := Hp → List Late → ORet) K
    (fun p _ ih H late => match p.st with
      | false => ih () H late
      | true => (match p.e.c.op with
        | .st f => (match f T with
          | some (b, o, vs) => (match overB (Tr.get b H.t) o vs with
            | some B => Hp.setK b none H fun H => ih () H (⟨p.e.i, b, B⟩ :: late)
            | none => .no)
          | none => .no)
        | _ => .no)) l H late
/-- names put by -/
noncomputable def putByK (l : List PC) (p : Pos) (K : Pos → ORet) : ORet :=
  lrec (X := Pos → ORet) K (fun x _ ih p => match x.fl, x.e.c.op.stores with | true, false => Pos.succK p fun p => ih () p | _, _ => ih () p) l p
noncomputable def drawR (E : Env) (run : RunT) (fr : Fr) (ops : Array Oper) (T : Tr AV) (ds : List ADef) (H : Hp) : ORet :=
  match plan E fr.n ops with
  | some l => putByK l H.nx fun nx => drawGo E run l ⟨T, ⟨H.t, nx⟩, H.nx, 0, [], [], []⟩ fun s =>
    storesGo l s.T s.H [] fun Hs sts => match allL (againOk ((s.j, Hs) :: s.hs)) s.rs with
      | true => layAll s.late Hs fun H => layAll sts H fun H => .ok s.T ds H
      | false => .no
  | none => .no

/-! ### leaving a frame -/
noncomputable def leaveR (E : Env) (run : RunT) (fr : Fr) (T : Tr AV) (ds : List ADef) (H : Hp) : Ret :=
  lrec (X := Hp → Ret)
    (fun H => match E.fns fr.fid with
      | none => .no
      | some fn => rb' (resV E fn.results.toList T H) fun l => .ok (oneOrTup l) H)
    (fun d _ ih H => match d with
      | .coll b => (match Tr.get b H.t with
        | some (.dfr true) => Hp.setK b (some (.dfr false)) H fun H => ih () H
        | _ => .no)
      | .call f first args cap => appK args cap fun r => appK first r fun l =>
        match callR E run .deferred f l H with | .ok _ H => ih () H | .no => .no) ds H
where
  rb' (o : Option (List AV)) (f : List AV → Ret) : Ret := match o with | some l => f l | none => .no
noncomputable def jumpR (b : Pos) (j : Option Code) (ds : List ADef) (H : Hp) : Ret :=
  match ds with
  | [] => (match Tr.get b H.t with
    | some (.loop _ _ f nt T ps assign body d) =>
      (match j with
       | none => Hp.setK b (some (.loop .ready none f nt T ps assign body d)) H fun H => .ok (.bool true) H
       | some c => Hp.setK b (some (.loop .done (some c) f nt T ps assign body d)) H fun H => .ok (.bool false) H)
    | _ => .no)
  | _ => .no
noncomputable def leave (E : Env) (run : RunT) (fr : Fr) (j : Option Code) (T : Tr AV) (ds : List ADef) (H : Hp) : Ret :=
  match fr.kd with
  | .round b => jumpR b j ds H
  | _ => match j with
    | none | some .ret => leaveR E run fr T ds H
    | _ => .no
/-- behind a loop over a function -/
noncomputable def loopR (E : Env) (run : RunT) (fr : Fr) (T : Tr AV) (ds : List ADef) (k : List Item) (g : FuncId) (first cap : List AV) (ps : List Tmp) (assign body : Code) (d : Pos) (H : Hp) : Ret :=
  Hp.newK (.loop .ready none fr.fid fr.n T ps assign body d) H fun L H =>
    match dynR E run (.fn g first cap) [.yld L] H with
    | .ok _ H => (match Tr.get L H.t with
      | some (.loop .busy _ _ _ _ _ _ _ _) => .no
      | some (.loop _ p f nt T' ps assign body d) => Hp.setK L (some (.loop .exhausted p f nt T' ps assign body d)) H fun H =>
        (match p with
         | none => run fr T ds k H
         | some c => run fr T ds (.code c :: k) H)
      | _ => .no)
    | .no => .no
/-- a code at the head of what is to do -/
noncomputable def runCode (E : Env) (ih : RunT) (fr : Fr) (T : Tr AV) (ds : List ADef) (c : Code) (k : List Item) (H : Hp) : Ret :=
  match c with
  | .skip => ih fr T ds k H
  | .label _ => ih fr T ds k H
  | .seq a b => ih fr T ds (.code a :: .code b :: k) H
  | .cond x a b => (match opd E.ng x with
    | some x => (match getO x T with
      | some (.bool true) => ih fr T ds (.code a :: k) H
      | some (.bool false) => ih fr T ds (.code b :: k) H
      | _ => .no)
    | none => .no)
  | .block id b => ih fr T ds (.code b :: .inBlock id :: k) H
  | .loop b => ih fr T ds (.code b :: .inLoop b :: k) H
  | .scope b => ih fr T ds (.code b :: .inScope b :: k) H
  | .exit id => (match exitTo id k with
    | some k => ih fr T ds k H
    | none => leave E ih fr (some (.exit id)) T ds H)
  | .goto l => (match gotoIn l k with
    | some k => ih fr T ds k H
    | none => leave E ih fr (some (.goto l)) T ds H)
  | .ret => leave E ih fr (some .ret) T ds H
  | .region _ ops draw => (match (match draw with | true => drawR E ih fr ops T ds H | false => opsR E ih fr ops ops.toList T ds H) with
    | .ok T ds H => ih fr T ds k H
    | .no => .no)
  | .rangeFunc f ps assign body => (match opd E.ng f with
    | some f => (match getO f T with
      | some (.fn g first cap) => (match fr.kd with
        | .round b => (match Tr.get b H.t with | some (.loop _ _ _ _ _ _ _ _ d) => loopR E ih fr T ds k g first cap ps.toList assign body d H | _ => .no)
        | _ => Hp.newK (.dfr true) H fun d H => loopR E ih fr T (.coll d :: ds) k g first cap ps.toList assign body d H)
      | _ => .no)
    | none => .no)
  | .refuse _ => .no
noncomputable def runStep (E : Env) (ih : RunT) (fr : Fr) (T : Tr AV) (ds : List ADef) (todo : List Item) (H : Hp) : Ret :=
  match todo with
  | [] => leave E ih fr none T ds H
  | x :: k => match x with
    | .inBlock _ => ih fr T ds k H
    | .inScope _ => ih fr T ds k H
    | .inLoop b => ih fr T ds (.code b :: .inLoop b :: k) H
    | .beginRound => (match fr.kd with
      | .round b => (match Tr.get b H.t with
        | some (.loop .ready p f nt L ps assign body d) => Hp.setK b (some (.loop .busy p f nt L ps assign body d)) H fun H => ih fr T ds k H
        | _ => .no)
      | _ => .no)
    | .code c => runCode E ih fr T ds c k H
    | _ => .no
noncomputable def run (E : Env) (fuel : Nat) : RunT := fuelRec (X := RunT) (fun _ _ _ _ _ => .no) (fun ih => runStep E (ih ())) fuel
end Go.Ev
