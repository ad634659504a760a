/-
  The evaluator itself, by continuations: 'true' says that the run goes through and that what is asked behind it holds.
-/
import Derived.Test.YtmebfcdgbjkcfaaGreatDoorAeData
namespace Go.AE
noncomputable section

inductive ADef where
  | call (fn : Fn) (cap args : List AV)
  | mark (b : Nat)

inductive Tgt where
  | fn (f : FuncId)
  | yield (l : Nat)
  /-- a deferred call -/
  | dfn (f : FuncId)

/-- what is asked of a value and a heap -/
abbrev KV := AV → H → Bool
/-- what is asked of a frame and a heap -/
abbrev KT := T AV → List ADef → H → Bool
abbrev Rec := Tgt → List AV → H → KV → Bool

def optK {α : Type} (r : Option α) (k : α → Bool) : Bool := Option.rec (motive := fun _ => Bool) false k r

def bnd {α β : Type} (r : Option α) (f : α → Option β) : Option β :=
  match r with
  | some v => f v
  | none => none

/-! ### One operation -/
/-- it only computes; it reads one block; it makes one; it may do anything; it defers -/
inductive K where
  | p1 (x : Operand) (g : AV → Option AV)
  | p2 (x y : Operand) (g : AV → AV → Option AV)
  | pn (xs : List Operand) (g : List AV → Option AV)
  | r1 (x : Operand) (g : AV → H → Option AV)
  | r2 (x y : Operand) (g : AV → AV → H → Option AV)
  | rn (xs : List Operand) (bk : List AV → List Nat) (g : List AV → H → Option AV)
  | a1 (x : Operand) (g : AV → Option AObj)
  | an (xs : List Operand) (g : List AV → Option (AObj × (Nat → AV)))
  | b2 (x y : Operand) (g : AV → AV → H → Option H)
  | bn (xs : List Operand) (g : Rec → List AV → H → KV → Bool)
  | df (xs : List Operand) (g : List AV → Option AV)
  | bad

def blkOf : AV → List Nat
  | .ptr b _ => [b]
  | .map b => [b]
  | _ => []

def loadP (E : Env) (t : TypeId) : AV → H → Option AV :=
  match E.und t with
  | none => fun _ _ => none
  | some d =>
    match isAggD d with
    | false => fun a h => Option.rec (motive := fun _ => Option AV) none (fun p => loadCellA h p.1 p.2) (asP a)
    | true =>
      match E.size t with
      | none => fun _ _ => none
      | some n => fun a h => Option.rec (motive := fun _ => Option AV) none (fun p => Option.rec (motive := fun _ => Option AV) none (fun l => some (.agg l)) (loadCellsA h p.1 p.2 n)) (asP a)

def storeP (E : Env) (t : TypeId) : AV → AV → H → Option H :=
  match E.size t with
  | none => fun _ _ _ => none
  | some n => fun a v h => Option.rec (motive := fun _ => Option H) none
      (fun p => Option.rec (motive := fun _ => Option H) none (fun vs => Bool.rec (motive := fun _ => Option H) none (storeCellsA h p.1 p.2 vs) (Nat.beq vs.length n)) (cellsOf v)) (asP a)

def fieldAddrP (E : Env) (s : TypeId) (f : Nat) : AV → Option AV :=
  match E.und s with
  | some (.struct fields) =>
    (match fields.toList[f]? with
     | some fd =>
       (match E.size fd.type with
        | some n => (match Nat.beq n 0 with
          | true => fun _ => none
          | false => fun x => Option.rec (motive := fun _ => Option AV) none (fun p => forceN (Nat.add p.2 fd.offset) fun o' => some (.ptr p.1 o')) (asP x))
        | none => fun _ => none)
     | none => fun _ => none)
  | _ => fun _ => none

def indexAddrP (E : Env) (t : TypeId) : AV → AV → Option AV :=
  match E.und t with
  | none => fun _ _ => none
  | some d =>
    match elemOfD d with
    | none => fun _ _ => none
    | some e =>
      match E.size e with
      | none => fun _ _ => none
      | some s => fun x i =>
        Option.rec (motive := fun _ => Option AV) none
          (fun q => Option.rec (motive := fun _ => Option AV) none
            (fun n => Option.rec (motive := fun _ => Option AV) none
              (fun n => Bool.rec (motive := fun _ => Option AV) none (forceN (Nat.add q.2.1 (Nat.mul n s)) fun o' => some (.ptr q.1 o')) (Nat.blt n q.2.2)) (natI n)) (asI i)) (spanOf d x)

def zipIdx : List Nat → List AV → List (Nat × AV)
  | i :: r, v :: s => (i, v) :: zipIdx r s
  | _, _ => []

def fsts : List (Nat × Operand) → List Nat
  | [] => []
  | (i, _) :: r => i :: fsts r

def snds : List (Nat × Operand) → List Operand
  | [] => []
  | (_, x) :: r => x :: snds r

def findMethod (name : String) : List Method → Option Method
  | [] => none
  | m :: r => (match decide (m.name = name) with | true => some m | false => findMethod name r)

/-- along embedded fields -/
def followA (E : Env) : List FieldStep → TypeId → AV → Option (TypeId × AV)
  | [], t, v => some (t, v)
  | s :: r, _, v =>
    match s.deref, E.und s.struct, v with
    | false, some (.struct fields), .agg l =>
      (match fields.toList[s.index]? with
       | some f => bnd (partA E f.type l f.offset) fun v' => followA E r f.type v'
       | none => none)
    | _, _, _ => none

/-- a method of the dynamic type: the function, its receiver -/
def recvA (E : Env) (t : TypeId) (name : String) (v : AV) : Option (FuncId × AV) :=
  bnd (E.info t) fun i => bnd (findMethod name i.methods.toList) fun m => bnd (followA E m.path.toList t v) fun p =>
    match m.func, E.und p.1 with
    | some (f, true), some (.pointer _) => some (f, p.2)
    | some (_, true), _ => none
    | some (_, false), some (.pointer _) => none
    | some (f, false), some _ => some (f, p.2)
    | _, _ => none

def methodV (E : Env) (name : String) (rc : Rec) : List AV → H → KV → Bool
  | .iface t v :: args => fun h k => optK (recvA E t name v) fun p => rc (.fn p.1) (p.2 :: args) h k
  | _ => fun _ _ => false

def callV (E : Env) (rc : Rec) (fv : AV) (args : List AV) (h : H) (k : KV) : Bool :=
  match fv with
  | .func fn first cap =>
    (match fn with
     | .func f => rc (.fn f) (first ++ (args ++ cap)) h k
     | .yield l => (match first, cap with | [], [] => rc (.yield l) args h k | _, _ => false)
     | .method name => methodV E name rc (first ++ args) h k
     | _ => false)
  | _ => false

def callVs (E : Env) (rc : Rec) : List AV → H → KV → Bool
  | fv :: args => callV E rc fv args
  | [] => fun _ _ => false

def invokeV (E : Env) (name : String) (rc : Rec) (l : List AV) (h : H) (k : KV) : Bool := methodV E name rc l h k

/-- what nilCheck lets by: methods of interface values too -/
def nilCheckE (E : Env) (v : AV) : Option AV :=
  Option.rec (motive := fun _ => Option AV)
    (match v with
     | .func (.method name) (.iface t u :: _) _ => (match recvA E t name u with | some _ => some v | none => none)
     | _ => none) (fun r => some r) (nilCheckA v)

def valK (r : Option (AV × H)) (k : KV) : Bool :=
  match r with
  | some (v, h) => k v h
  | none => false

def cBuiltin (E : Env) (b : Builtin) (ts : List TypeId) (xs : List Operand) : K :=
  match b with
  | .append => .bn xs fun _ args h k => valK (appendA E h ts args) k
  | .copy => .bn xs fun _ args h k => valK (copyA E h ts args) k
  | .len =>
    (match ts, xs with
     | t :: _, x :: _ => .r1 x fun v h => lenA E h t v
     | _, _ => .bad)
  | .cap =>
    (match ts, xs with
     | t :: _, x :: _ => .p1 x (capA E t)
     | _, _ => .bad)
  | .delete =>
    (match ts with
     | t :: _ => .bn xs fun _ args h k => (match args with | [m, key] => optK (deleteA E h t m key) fun h' => k undefA h' | _ => false)
     | [] => .bad)
  | .clear =>
    (match ts with
     | t :: _ => .bn xs fun _ args h k => (match args with | [x] => optK (clearA E h t x) fun h' => k undefA h' | _ => false)
     | [] => .bad)
  | .max => .pn xs (maxO E)
  | .min => .pn xs (minO E)
  | _ => .bad

def cCall (E : Env) (c : Call) : K :=
  match c.callee with
  | .builtin b => cBuiltin E b c.argTypes.toList c.args.toList
  | .value f => .bn (f :: c.args.toList) (callVs E)
  | .invoke r name => .bn (r :: c.args.toList) (invokeV E name)

def deferV : List AV → Option AV
  | .func fn first cap :: args => some (.func fn (first ++ args) cap)
  | _ => none

def optL (a : Option Operand) : List Operand :=
  match a with
  | some x => [x]
  | none => []

/-- the bounds of a slice expression, taken off the list of operands again -/
def takeO (a : Option Operand) (l : List AV) : Option AV × List AV :=
  match a, l with
  | some _, v :: r => (some v, r)
  | _, l => (none, l)

def sliceV (E : Env) (t : TypeId) (lo hi mx : Option Operand) : List AV → Option AV
  | x :: l =>
    (match takeO lo l with
     | (lo, l) => match takeO hi l with
       | (hi, l) => match takeO mx l with
         | (mx, _) => sliceA E t x lo hi mx)
  | [] => none

def roomV (E : Env) (t : TypeId) (lo hi mx : Option Operand) : List AV → H → Option AV
  | x :: l => fun h =>
    (match takeO lo l with
     | (lo, l) => match takeO hi l with
       | (hi, l) => match takeO mx l with
         | (mx, _) => roomA E t x lo hi mx h)
  | [] => fun _ => none

/-- the block that a slice expression looks at -/
def sliceB (E : Env) (t : TypeId) (lo hi mx : Option Operand) (l : List AV) : List Nat :=
  match sliceV E t lo hi mx l with
  | some _ => []
  | none => (match l with | .gslice b _ _ _ :: _ => [b] | _ => [])

def sliceR (E : Env) (t : TypeId) (lo hi mx : Option Operand) (l : List AV) (h : H) : Option AV :=
  match sliceV E t lo hi mx l with
  | some v => some v
  | none => roomV E t lo hi mx l h

def pick3 : List AV → Option AV
  | [c, a, b] => pickA c a b
  | _ => none

def mapUpdateV (E : Env) (t : TypeId) : Rec → List AV → H → KV → Bool := fun _ l h k =>
  match l with
  | [m, key, v] => optK (mapUpdateA E h t m key v) fun h' => k undefA h'
  | _ => false

/-- a map with room for so many -/
def makeMapV (E : Env) (t : TypeId) : List AV → Option (AObj × (Nat → AV))
  | [n] => (match E.und t, asI n with | some (.map _ _), some _ => some (.map [] 0, .map) | _, _ => none)
  | _ => none

def allK (l : List (AV × H)) (k : KV) : Bool := List.rec (motive := fun _ => Bool) true (fun x _ ih => Bool.rec (motive := fun _ => Bool) false ih (k x.1 x.2)) l

def nextV (one : Option (AV × H)) (many : Option (List (AV × H))) (k : KV) : Bool :=
  match one with
  | some (v, h) => k v h
  | none => (match many with | some l => allK l k | none => false)

def cOp (E : Env) (o : Op) : K :=
  match o with
  | .move x => .p1 x some
  | .assign x => .p1 x some
  | .pick c a b => .pn [c, a, b] pick3
  | .alloc elem => .an [] fun _ => bnd (E.zeros elem) fun z => some (rowObj z 0, fun b => .ptr b 0)
  | .box _ x => .a1 x fun v => bnd (cellsOf v) fun vs => some (rowObj vs 0)
  | .build t ps => .pn (snds ps.toList) fun l => buildA E t (zipIdx (fsts ps.toList) l)
  | .buildSlice t n ps => .an (snds ps.toList) fun l => bnd (buildSliceA E t n (zipIdx (fsts ps.toList) l)) fun o => some (o, fun b => .slice b 0 n n)
  | .load t a => .r1 a (loadP E t)
  | .store t a x => .b2 a x (storeP E t)
  | .nilCheck x => .p1 x (nilCheckE E)
  | .binOp op t x y _ => .p2 x y (binOpA E op t (isConstO x || isConstO y))
  | .unOp op _ x => .p1 x (unOpA op)
  | .convert s d x => .p1 x (convertA E s d)
  | .makeInterface t x => .p1 x (makeIfaceA E t)
  | .makeFunc fn a c => (match fn with
    | .yield _ => .bad
    | fn => .pn (a.toList ++ c.toList) fun l => some (.func fn (l.take a.size) (l.drop a.size)))
  | .makeMap t r => (match r with | none => .an [] fun _ => some (.map [] 0, .map) | some n => .an [n] (makeMapV E t))
  | .makeSlice t l c => .an [l, c] fun l => (match l with | [l, c] => bnd (makeSliceA E t l c) fun r => some (r.1, fun b => .slice b 0 r.2.1 r.2.2) | _ => none)
  | .slice t x lo hi mx => .rn (x :: (optL lo ++ (optL hi ++ optL mx))) (sliceB E t lo hi mx) (sliceR E t lo hi mx)
  | .fieldAddr s x f => .p1 x (fieldAddrP E s f)
  | .field t x f => .p1 x fun v => fieldA E t v f
  | .indexAddr t x i => .p2 x i (indexAddrP E t)
  | .index t x i => .p2 x i (indexA E t)
  | .lookup t m k ok => .r2 m k fun m k h => lookupA E h t m k ok
  | .mapUpdate t m k v => .bn [m, k, v] (mapUpdateV E t)
  | .insert t m k v => .bn [m, k, v] (mapUpdateV E t)
  | .range t x => .bn [x] fun _ l h k => (match l with | [v] => valK (rangeA E h t v) k | _ => false)
  | .next it isString => .bn [it] fun _ l h k => (match l with | [v] => nextV (nextA h v isString) (match isString with | true => none | false => nextMany h v) k | _ => false)
  | .entry it => .bn [it] fun _ l h k => (match l with | [v] => optK (entryA h v) fun r => k r h | _ => false)
  | .typeAssert x _ a ok => .p1 x fun v => typeAssertA E v a ok
  | .extract x i => .p1 x fun v => extractA v i
  | .call c => cCall E c
  | .defer c => (match c.callee with | .value f => .df (f :: c.args.toList) deferV | _ => .bad)
  | _ => .bad

/-! ### Operands -/
/-- a frame: the trie for what lives beyond a region; the values made in this region, the last one first -/
abbrev X := T AV → List AV → AV

def tget (tm : T AV) (t : Nat) : AV :=
  match getV tm t with
  | some v => v
  | none => undefA

def tgetP (p : P2) (tm : T AV) : AV := Option.rec (motive := fun _ => AV) undefA (fun v => v) (getP p tm)

def nthA (i : Nat) : List AV → AV :=
  Nat.rec (motive := fun _ => List AV → AV) (fun l => List.rec (motive := fun _ => AV) undefA (fun a _ _ => a) l)
    (fun _ ih l => List.rec (motive := fun _ => AV) undefA (fun _ r _ => ih r) l) i

def posOf (t : Nat) : List (Option Tmp) → Nat → Option Nat
  | [], _ => none
  | some d :: r, i => (match Nat.beq d t with | true => some i | false => posOf t r (Nat.succ i))
  | none :: r, i => posOf t r (Nat.succ i)

/-- the temporaries that live beyond a region, as bits; how many blocks are the program's own variables -/
structure Lv where
  live : Nat
  ng : Nat

/-- 'ds': what the values of this region were put into -/
def cX (L : Lv) (ds : List (Option Tmp)) (x : Operand) : Option X :=
  match x with
  | .tmp t =>
    (match posOf t ds 0 with
     | some i => some fun _ env => nthA i env
     | none => (match Nat.testBit L.live t with | true => some (fun tm _ => tgetP (pathOf t) tm) | false => none))
  | .const v => (match ofConst v with | some a => some fun _ _ => a | none => none)
  | .global g => (match Nat.blt g L.ng with | true => some fun _ _ => .ptr g 0 | false => none)
  | .func f => some fun _ _ => .func (.func f) [] []

/-- a list of operands: the values -/
abbrev XS := T AV → List AV → List AV

def cXs (L : Lv) (ds : List (Option Tmp)) (xs : List Operand) : Option XS :=
  List.rec (motive := fun _ => Option XS) (some fun _ _ => [])
    (fun x _ ih => match cX L ds x, ih with
      | some f, some g => some fun tm env => f tm env :: g tm env
      | _, _ => none) xs

/-! ### Steps -/
abbrev Step := Rec → T AV → List AV → H → KV → Bool

/-- a step that is made ready once (the kernel keeps it) -/
structure KS where
  run : Step

def badStep : KS := ⟨fun _ _ _ _ _ => false⟩

def newK (h : H) (o : AObj) (mk : Nat → AV) (k : KV) : Bool :=
  Prod.rec (motive := fun _ => Bool) (fun b h' => k (mk b) h') (h.new o)

def stepK (L : Lv) (ds : List (Option Tmp)) (op : K) : KS :=
  match op with
  | .p1 x g => (match cX L ds x with | some x => ⟨fun _ tm env h k => optK (g (x tm env)) fun v => k v h⟩ | none => badStep)
  | .p2 x y g => (match cX L ds x, cX L ds y with | some x, some y => ⟨fun _ tm env h k => optK (g (x tm env) (y tm env)) fun v => k v h⟩ | _, _ => badStep)
  | .pn xs g => (match cXs L ds xs with | some xs => ⟨fun _ tm env h k => optK (g (xs tm env)) fun v => k v h⟩ | none => badStep)
  | .r1 x g => (match cX L ds x with | some x => ⟨fun _ tm env h k => optK (g (x tm env) h) fun v => k v h⟩ | none => badStep)
  | .r2 x y g => (match cX L ds x, cX L ds y with | some x, some y => ⟨fun _ tm env h k => optK (g (x tm env) (y tm env) h) fun v => k v h⟩ | _, _ => badStep)
  | .rn xs _ g => (match cXs L ds xs with | some xs => ⟨fun _ tm env h k => optK (g (xs tm env) h) fun v => k v h⟩ | none => badStep)
  | .a1 x g => (match cX L ds x with | some x => ⟨fun _ tm env h k => optK (g (x tm env)) fun o => newK h o (fun b => .ptr b 0) k⟩ | none => badStep)
  | .an xs g => (match cXs L ds xs with | some xs => ⟨fun _ tm env h k => optK (g (xs tm env)) fun p => newK h p.1 p.2 k⟩ | none => badStep)
  | .b2 x y g => (match cX L ds x, cX L ds y with | some x, some y => ⟨fun _ tm env h k => optK (g (x tm env) (y tm env) h) fun h' => k undefA h'⟩ | _, _ => badStep)
  | .bn xs g => (match cXs L ds xs with | some xs => ⟨fun rc tm env h k => g rc (xs tm env) h k⟩ | none => badStep)
  | .df _ _ => badStep
  | .bad => badStep

/-- a deferred call: what is called, as a value -/
def deferK (L : Lv) (ds : List (Option Tmp)) (op : K) : KS :=
  match op with
  | .df xs g => (match cXs L ds xs with | some xs => ⟨fun _ tm env h k => optK (g (xs tm env)) fun v => k v h⟩ | none => badStep)
  | _ => badStep

/-- the guard of an operation, read off the region: the temporary that decides -/
def guardOf (ops : List Oper) (g : Option (Nat × Bool)) : Option (Option (Tmp × Bool)) :=
  match g with
  | none => some none
  | some (j, want) => bnd ops[j]? fun o => bnd o.dst fun d => some (some (d, want))

def isWanted (want : Bool) (v : AV) : Option Bool :=
  match v with
  | .bool b => some (match b, want with | true, true => true | false, false => true | _, _ => false)
  | .tuple [] => some false
  | .when _ _ (.bool b) => (match b, want with | true, false => some false | false, true => some false | _, _ => none)
  | _ => none

/-- a function of the program's and operands that refer to no block -/
def plainCall : List AV → Bool
  | .func (.func _) [] [] :: l => plainAs l
  | _ => false

/-- an operation of which it is not known whether it is done: a reading, or a call that answers 'false' on its own -/
structure KU where
  run : SX → List Int → Step

def badU : KU := ⟨fun _ _ _ _ _ _ _ => false⟩

def unsureK (L : Lv) (ds : List (Option Tmp)) (op : K) : KU :=
  match op with
  | .p1 x g => (match cX L ds x with | some x => ⟨fun e ks _ tm env h k => optK (g (stripW e ks (x tm env))) fun v => k (.when e ks v) h⟩ | none => badU)
  | .p2 x y g => (match cX L ds x, cX L ds y with | some x, some y => ⟨fun e ks _ tm env h k => optK (g (stripW e ks (x tm env)) (stripW e ks (y tm env))) fun v => k (.when e ks v) h⟩ | _, _ => badU)
  | .pn xs g => (match cXs L ds xs with | some xs => ⟨fun e ks _ tm env h k => optK (g (stripWs e ks (xs tm env))) fun v => k (.when e ks v) h⟩ | none => badU)
  | .r1 x g => (match cX L ds x with | some x => ⟨fun e ks _ tm env h k => optK (g (stripW e ks (x tm env)) h) fun v => k (.when e ks v) h⟩ | none => badU)
  | .bn xs g => (match cXs L ds xs with
    | some xs => ⟨fun e ks rc tm env h k =>
      match plainCall (stripWs e ks (xs tm env)), g rc (stripWs e ks (xs tm env)) ⟨.nil, L.ng, [], []⟩ (fun v _ => isFalseA v) with
      | true, true => k (.when e ks (.bool false)) h
      | _, _ => false⟩
    | none => badU)
  | _ => badU

def inOf (want : Bool) : AV → Option (SX × List Int)
  | .opq (.isIn e ks) => (match want with | true => some (e, ks) | false => none)
  | .when e ks (.bool b) => (match b, want with | true, true => some (e, ks) | false, false => some (e, ks) | _, _ => none)
  | _ => none

def guardK (L : Lv) (ds : List (Option Tmp)) (g : Option (Tmp × Bool)) (s : KS) (u : KU) : KS :=
  match g with
  | none => s
  | some (d, want) =>
    match cX L ds (.tmp d) with
    | none => badStep
    | some x =>
      match s with
      | ⟨s⟩ => ⟨fun rc tm env h k =>
        match isWanted want (x tm env) with
        | some true => s rc tm env h k
        | some false => k undefA h
        | none => (match inOf want (x tm env) with
          | some (e, ks) => u.run e ks rc tm env h k
          | none => false)⟩

def isDf : K → Bool
  | .df _ _ => true
  | _ => false

def cStep (E : Env) (L : Lv) (ops : List Oper) (ds : List (Option Tmp)) (o : Oper) : KS :=
  match isDf (cOp E o.op) with
  | true => (match o.guard, o.dst with | none, none => deferK L ds (cOp E o.op) | _, _ => badStep)
  | false =>
    match guardOf ops o.guard with
    | none => badStep
    | some g => guardK L ds g (stepK L ds (cOp E o.op)) (unsureK L ds (cOp E o.op))

/-! ### What a region leaves -/
/-- what is put into the trie behind a region: (how deep in the list of values, where to) -/
def flushOf (L : Lv) (nt : Nat) : List (Option Tmp) → Nat → List Nat → Option (List (Nat × P2))
  | [], _, _ => some []
  | none :: r, i, done => flushOf L nt r (Nat.succ i) done
  | some d :: r, i, done =>
    match Nat.blt d nt with
    | false => none
    | true =>
      match Nat.testBit L.live d && !memN done d with
      | false => flushOf L nt r (Nat.succ i) done
      | true => bnd (flushOf L nt r (Nat.succ i) (d :: done)) fun l => some ((i, pathOf d) :: l)

def flush (l : List (Nat × P2)) : List AV → T AV → T AV :=
  List.rec (motive := fun _ => List AV → T AV → T AV) (fun _ tm => tm)
    (fun p _ ih env tm => ih env (putP (nthA p.1 env) p.2 tm)) l

/-- the deferred calls among the values of a region: where they lie in the list, the last one first -/
def defersOf : List Bool → Nat → List Nat
  | [], _ => []
  | true :: r, i => i :: defersOf r (Nat.succ i)
  | false :: r, i => defersOf r (Nat.succ i)

def asDef : AV → Option ADef
  | .func fn first cap => some (.call fn cap first)
  | _ => none

def pushDefs : List Nat → List AV → List ADef → Option (List ADef)
  | [], _, df => some df
  | i :: r, env, df => bnd (pushDefs r env df) fun df' => bnd (asDef (nthA i env)) fun d => some (d :: df')

structure KE where
  run : Rec → T AV → List AV → H → (List AV → H → Bool) → Bool

/-- operations in a row: 'ds': what was written before -/
def cOps (E : Env) (L : Lv) (ops : List Oper) (l : List Oper) : List (Option Tmp) → KE :=
  List.rec (motive := fun _ => List (Option Tmp) → KE) (fun _ => ⟨fun _ _ env h k => k env h⟩)
    (fun o _ ih ds => ⟨fun rc tm env h k => (cStep E L ops ds o).run rc tm env h fun v h' => (ih (o.dst :: ds)).run rc tm (v :: env) h' k⟩) l

def dstsOf (l : List Oper) : List (Option Tmp) := (l.map fun o => o.dst).reverse
def dfsOf (E : Env) (l : List Oper) : List Bool := (l.map fun o => isDf (cOp E o.op)).reverse

/-! ### Regions that draw -/
def bindsA (e : Edge) : Bool :=
  match e.ground with
  | .textOnly _ | .gcOnly _ => false
  | _ => true

def befMask (done : T Nat) : List Edge → Nat → Nat
  | [], acc => acc
  | e :: r, acc =>
    match bindsA e with
    | true => befMask done r (Nat.lor acc (Nat.lor (Nat.pow 2 e.on) (match done.get e.on with | some b => b | none => 0)))
    | false => befMask done r acc

def befsFrom : List Oper → Nat → T Nat → T Nat
  | [], _, done => done
  | o :: r, i, done => forceN (befMask done o.after.toList 0) fun b => befsFrom r (Nat.succ i) (done.put i b)

/-- all that each operation waits for, as bits -/
def befs (ops : List Oper) : T Nat := befsFrom ops 0 .nil

def bef (bs : T Nat) (i j : Nat) : Bool := match bs.get i with | some b => Nat.testBit b j | none => false

def opTmps : List Operand → List Nat
  | [] => []
  | .tmp t :: r => t :: opTmps r
  | _ :: r => opTmps r

def looks (ops : List Oper) (o : Oper) : List Nat :=
  opTmps o.op.operands.toList ++ (match o.guard with
    | some (g, _) => (match ops[g]? with | some x => (match x.dst with | some d => [d] | none => []) | none => [])
    | none => [])

/-- operation i (reading 'ts', writing 'dst') against operation j -/
def pairOk (bs : T Nat) (i : Nat) (ts : List Nat) (dst : Option Tmp) (j : Nat) (oj : Oper) : Bool :=
  match oj.dst with
  | none => true
  | some d =>
    match Nat.beq i j with
    | true => true
    | false =>
      match (memN ts d || (match dst with | some e => Nat.beq d e | none => false)) with
      | false => true
      | true => bef bs i j || bef bs j i

def pairsOk (bs : T Nat) (i : Nat) (ts : List Nat) (dst : Option Tmp) : List Oper → Nat → Bool
  | [], _ => true
  | o :: r, j => pairOk bs i ts dst j o && pairsOk bs i ts dst r (Nat.succ j)

def edgesOk (i : Nat) : List Edge → Bool
  | [] => true
  | e :: r => (match bindsA e with | true => Nat.blt e.on i | false => true) && edgesOk i r

def drawOkFrom (bs : T Nat) (ops : List Oper) : List Oper → Nat → Bool
  | [], _ => true
  | o :: r, i => edgesOk i o.after.toList && pairsOk bs i (looks ops o) o.dst ops 0 && drawOkFrom bs ops r (Nat.succ i)

def isBig (k : K) : Bool :=
  match k with
  | .b2 _ _ _ | .bn _ _ | .df _ _ | .bad => true
  | _ => false

def bigsFrom (E : Env) : List Oper → Nat → List Nat
  | [], _ => []
  | o :: r, i => (match isBig (cOp E o.op) with | true => i :: bigsFrom E r (Nat.succ i) | false => bigsFrom E r (Nat.succ i))

/-- how many of the great operations i waits for -/
def stageOf (bs : T Nat) (i : Nat) : List Nat → Nat
  | [] => 0
  | b :: r => (match bef bs i b with | true => Nat.succ (stageOf bs i r) | false => stageOf bs i r)

/-- each great one waits for all before it -/
def chainOk (bs : T Nat) : List Nat → List Nat → Bool
  | _, [] => true
  | before, b :: r => (before.all fun a => bef bs b a) && chainOk bs (b :: before) r

/-- the small operations of one stage, in the text's order -/
def smallsFrom (E : Env) (bs : T Nat) (bigs : List Nat) (k : Nat) : List Oper → Nat → List (Nat × Oper)
  | [], _ => []
  | o :: r, i =>
    match isBig (cOp E o.op) with
    | true => smallsFrom E bs bigs k r (Nat.succ i)
    | false => (match Nat.beq (stageOf bs i bigs) k with | true => (i, o) :: smallsFrom E bs bigs k r (Nat.succ i) | false => smallsFrom E bs bigs k r (Nat.succ i))

/-- the order in which the evaluator goes: what waits for no great operation, the first great one, what waits for it alone, and so on -/
def canonFrom (E : Env) (bs : T Nat) (ops : List Oper) (bigs : List Nat) : List Nat → Nat → List (Nat × Oper)
  | [], k => smallsFrom E bs bigs k ops 0
  | b :: r, k => smallsFrom E bs bigs k ops 0 ++ (match ops[b]? with | some o => (b, o) :: canonFrom E bs ops bigs r (Nat.succ k) | none => [])

def canon (E : Env) (ops : List Oper) : List (Nat × Oper) := canonFrom E (befs ops) ops (bigsFrom E ops 0) (bigsFrom E ops 0) 0

/-- the indices in that order -/
def ordOf (E : Env) (ops : List Oper) : List Nat := (canon E ops).map fun p => p.1

structure Done where
  i : Nat
  b : Nat

/-- the blocks of the operations for which i does not wait -/
def maskOf (bs : T Nat) (i : Nat) : List Done → List Nat → List Nat
  | [], m => m
  | d :: r, m => (match bef bs i d.i with | true => maskOf bs i r m | false => d.b :: maskOf bs i r m)

/-- 'made', 'seen': the blocks made and read so far, by whom -/
abbrev DStep := Rec → T AV → List AV → H → List Done → List Done → (AV → H → List Done → List Done → Bool) → Bool

structure KD where
  run : DStep

def badD : KD := ⟨fun _ _ _ _ _ _ _ => false⟩

def newD (h : H) (i : Nat) (o : AObj) (mk : Nat → AV) (made : List Done) (k : AV → H → List Done → Bool) : Bool :=
  Prod.rec (motive := fun _ => Bool) (fun b h' => k (mk b) h' (⟨i, b⟩ :: made)) (h.new o)

def doneAt (i : Nat) : List Nat → List Done → List Done
  | [], l => l
  | b :: r, l => ⟨i, b⟩ :: doneAt i r l

/-- a great operation sees neither the blocks of those for which it does not wait, nor may it write what those have read -/
def bigD (bs : T Nat) (i : Nat) (h : H) (made seen : List Done) (k : AV → H → List Done → List Done → Bool) (g : H → KV → Bool) : Bool :=
  match h with
  | ⟨t, n, m, p⟩ => g ⟨t, n, maskOf bs i made m, maskOf bs i seen p⟩ fun v h' =>
    match h' with
    | ⟨t', n', _, _⟩ => k v ⟨t', n', m, p⟩ made seen

/-- what is read lies in the heap -/
def readOk (bs : List Nat) (h : H) (r : Option AV) : Option AV :=
  match bs with
  | [] => r
  | [b] => (match Nat.blt b h.next with | true => r | false => none)
  | _ => none

def drawK (bs : T Nat) (L : Lv) (ds : List (Option Tmp)) (i : Nat) (op : K) : KD :=
  match op with
  | .p1 x g => (match cX L ds x with | some x => ⟨fun _ tm env h made seen k => optK (g (x tm env)) fun v => k v h made seen⟩ | none => badD)
  | .p2 x y g => (match cX L ds x, cX L ds y with | some x, some y => ⟨fun _ tm env h made seen k => optK (g (x tm env) (y tm env)) fun v => k v h made seen⟩ | _, _ => badD)
  | .pn xs g => (match cXs L ds xs with | some xs => ⟨fun _ tm env h made seen k => optK (g (xs tm env)) fun v => k v h made seen⟩ | none => badD)
  | .r1 x g => (match cX L ds x with | some x => ⟨fun _ tm env h made seen k => optK (readOk (blkOf (x tm env)) h (g (x tm env) h)) fun v => k v h made (doneAt i (blkOf (x tm env)) seen)⟩ | none => badD)
  | .r2 x y g => (match cX L ds x, cX L ds y with | some x, some y => ⟨fun _ tm env h made seen k => optK (readOk (blkOf (x tm env)) h (g (x tm env) (y tm env) h)) fun v => k v h made (doneAt i (blkOf (x tm env)) seen)⟩ | _, _ => badD)
  | .rn xs bk g => (match cXs L ds xs with | some xs => ⟨fun _ tm env h made seen k => optK (readOk (bk (xs tm env)) h (g (xs tm env) h)) fun v => k v h made (doneAt i (bk (xs tm env)) seen)⟩ | none => badD)
  | .a1 x g => (match cX L ds x with | some x => ⟨fun _ tm env h made seen k => optK (g (x tm env)) fun o => newD h i o (fun b => .ptr b 0) made fun v h' made' => k v h' made' seen⟩ | none => badD)
  | .an xs g => (match cXs L ds xs with | some xs => ⟨fun _ tm env h made seen k => optK (g (xs tm env)) fun p => newD h i p.1 p.2 made fun v h' made' => k v h' made' seen⟩ | none => badD)
  | .b2 x y g => (match cX L ds x, cX L ds y with | some x, some y => ⟨fun _ tm env h made seen k => bigD bs i h made seen k fun h c => optK (g (x tm env) (y tm env) h) fun h' => c undefA h'⟩ | _, _ => badD)
  | .bn xs g => (match cXs L ds xs with | some xs => ⟨fun rc tm env h made seen k => bigD bs i h made seen k (g rc (xs tm env))⟩ | none => badD)
  | .df _ _ => badD
  | .bad => badD

def guardD (L : Lv) (ds : List (Option Tmp)) (g : Option (Tmp × Bool)) (s : KD) : KD :=
  match g with
  | none => s
  | some (d, want) =>
    match cX L ds (.tmp d) with
    | none => badD
    | some x =>
      match s with
      | ⟨s⟩ => ⟨fun rc tm env h made seen k =>
        match isWanted want (x tm env) with
        | some true => s rc tm env h made seen k
        | some false => k undefA h made seen
        | none => false⟩

def cDraw1 (E : Env) (bs : T Nat) (L : Lv) (ops : List Oper) (ds : List (Option Tmp)) (i : Nat) (o : Oper) : KD :=
  match guardOf ops o.guard with
  | none => badD
  | some g => guardD L ds g (drawK bs L ds i (cOp E o.op))

structure KG where
  run : Rec → T AV → List AV → H → List Done → List Done → (List AV → H → Bool) → Bool

def cDraws (E : Env) (bs : T Nat) (L : Lv) (ops : List Oper) (l : List Nat) : List (Option Tmp) → KG :=
  List.rec (motive := fun _ => List (Option Tmp) → KG) (fun _ => ⟨fun _ _ env h _ _ k => k env h⟩)
    (fun i _ ih ds => match ops[i]? with
      | none => ⟨fun _ _ _ _ _ _ _ => false⟩
      | some o => ⟨fun rc tm env h made seen k =>
        (cDraw1 E bs L ops ds i o).run rc tm env h made seen fun v h' made' seen' => (ih (o.dst :: ds)).run rc tm (v :: env) h' made' seen' k⟩) l

def bigAt (E : Env) (ops : List Oper) (i : Nat) : Bool :=
  match ops[i]? with
  | some o => isBig (cOp E o.op)
  | none => true

/-- no index twice; an earlier one waits for no later one; behind a great one everybody waits for it -/
def ordOk (E : Env) (bs : T Nat) (ops : List Oper) : List Nat → Bool
  | [] => true
  | i :: r => !memN r i && (r.all fun j => !bef bs i j) && (!bigAt E ops i || r.all fun j => bef bs j i) && ordOk E bs ops r

def coverOk (ord : List Nat) : Nat → Bool
  | 0 => true
  | n + 1 => memN ord n && coverOk ord n

/-- what is waited for is waited for along an edge -/
def closeAt (bs : T Nat) (i j : Nat) : List Edge → Bool
  | [] => false
  | e :: r => (bindsA e && (Nat.beq e.on j || bef bs e.on j)) || closeAt bs i j r

def closeRow (bs : T Nat) (i : Nat) (es : List Edge) : Nat → Bool
  | 0 => true
  | j + 1 => (!bef bs i j || closeAt bs i j es) && closeRow bs i es j

def closeOk (bs : T Nat) (n : Nat) : List Oper → Nat → Bool
  | [], _ => true
  | o :: r, i => closeRow bs i o.after.toList n && closeOk bs n r (Nat.succ i)

def drawOk (E : Env) (ops : List Oper) (ord : List Nat) : Bool :=
  drawOkFrom (befs ops) ops ops 0 && (ordOk E (befs ops) ops ord && (coverOk ord ops.length && closeOk (befs ops) ops.length ops 0))

/-! ### Code -/
/-- 'kn': behind it; 'ke': at an exit; 'kr': at a return -/
structure KC where
  run : Rec → Option Nat → T AV → List ADef → H → KT → (Nat → KT) → KT → Bool

def badC : KC := ⟨fun _ _ _ _ _ _ _ _ => false⟩

def cRegion (E : Env) (L : Lv) (nt : Nat) (ops : List Oper) : KC :=
  match flushOf L nt (dstsOf ops) 0 [] with
  | some fl =>
    (match defersOf (dfsOf E ops) 0 with
     | [] => ⟨fun rc _ tm df h kn _ _ => (cOps E L ops ops []).run rc tm [] h fun env h' => kn (flush fl env tm) df h'⟩
     | l => ⟨fun rc ro tm df h kn _ _ =>
       match ro with
       | some _ => false
       | none => (cOps E L ops ops []).run rc tm [] h fun env h' => optK (pushDefs l env df) fun df' => kn (flush fl env tm) df' h'⟩)
  | none => badC

/-- what the operations write, in that order, the last first -/
def ordDsts (ops : List Oper) (l : List Nat) (ds : List (Option Tmp)) : List (Option Tmp) :=
  List.rec (motive := fun _ => List (Option Tmp) → List (Option Tmp)) (fun ds => ds) (fun i _ ih ds => ih ((match ops[i]? with | some o => o.dst | none => none) :: ds)) l ds

def cDraw (E : Env) (L : Lv) (nt : Nat) (ops : List Oper) : KC :=
  match drawOk E ops (ordOf E ops) with
  | false => badC
  | true =>
    match flushOf L nt (ordDsts ops (ordOf E ops) []) 0 [] with
    | some fl => ⟨fun rc _ tm df h kn _ _ => (cDraws E (befs ops) L ops (ordOf E ops) []).run rc tm [] h [] [] fun env h' => kn (flush fl env tm) df h'⟩
    | none => badC

def loopK (c : KC) (rc : Rec) (ro : Option Nat) (ke : Nat → KT) (kr : KT) (n : Nat) : KT :=
  Nat.rec (motive := fun _ => KT) (fun _ _ _ => false) (fun _ ih tm df h => c.run rc ro tm df h ih ke kr) n

def enterLoopK (nt : Nat) (fn : FuncId) (ps : List Tmp) (assign body : Code) (ro : Option Nat) (tm : T AV) (df : List ADef) (h : H) (k : Nat → List ADef → H → Bool) : Bool :=
  match ro with
  | some l =>
    (match h.get l with
     | some (.loop _ _ _ _ _ _ _ _ d) => (match h.new (.loop .ready none fn tm nt ps assign body d) with | (b, h') => k b df h')
     | _ => false)
  | none =>
    match h.new (.defs false) with
    | (d, h1) => (match h1.new (.loop .ready none fn tm nt ps assign body d) with | (b, h2) => k b (.mark d :: df) h2)

def jumpK (pend : Option Code) (kn : KT) (ke : Nat → KT) (kr : KT) : KT :=
  match pend with
  | none => kn
  | some (.exit id) => ke id
  | some .ret => kr
  | _ => fun _ _ _ => false

/-- behind the function that was ranged over: the pending jump -/
def endLoopK (l : Nat) (tm : T AV) (df : List ADef) (h : H) (kn : KT) (ke : Nat → KT) (kr : KT) : Bool :=
  match h.get l with
  | some (.loop s pend fn lt nt ps a b d) =>
    (match s with
     | .busy => false
     | _ => optK (h.upd l (.loop .exhausted pend fn lt nt ps a b d)) fun h' => jumpK pend kn ke kr tm df h')
  | _ => false

def rangeK (L : Lv) (nt : Nat) (fn : FuncId) (g : Operand) (ps : List Tmp) (assign body : Code) : KC :=
  match cX L [] g with
  | none => badC
  | some x => ⟨fun rc ro tm df h kn ke kr =>
    match x tm [] with
    | .func (.func f) first cap =>
      enterLoopK nt fn ps assign body ro tm df h fun l df' h' =>
        rc (.fn f) (first ++ (.func (.yield l) [] [] :: cap)) h' fun _ h'' => endLoopK l tm df' h'' kn ke kr
    | _ => false⟩

def condK (v : AV) (x y : Bool) : Bool := Option.rec (motive := fun _ => Bool) false (fun b => Bool.rec (motive := fun _ => Bool) y x b) (asB v)

def cCode (E : Env) (lf : Nat) (L : Lv) (nt : Nat) (fn : FuncId) (c : Code) : KC :=
  Code.rec (motive := fun _ => KC)
    (skip := ⟨fun _ _ tm df h kn _ _ => kn tm df h⟩)
    (region := fun _ ops draw => match draw with
      | false => cRegion E L nt ops.toList
      | true => cDraw E L nt ops.toList)
    (seq := fun _ _ a b => ⟨fun rc ro tm df h kn ke kr => a.run rc ro tm df h (fun tm df h => b.run rc ro tm df h kn ke kr) ke kr⟩)
    (cond := fun c _ _ a b => match cX L [] c with
      | some x => ⟨fun rc ro tm df h kn ke kr => condK (x tm []) (a.run rc ro tm df h kn ke kr) (b.run rc ro tm df h kn ke kr)⟩
      | none => badC)
    (block := fun id _ a => ⟨fun rc ro tm df h kn ke kr => a.run rc ro tm df h kn (fun i => match Nat.beq i id with | true => kn | false => ke i) kr⟩)
    (loop := fun _ a => ⟨fun rc ro tm df h _ ke kr => loopK a rc ro ke kr lf tm df h⟩)
    (rangeFunc := fun g ps assign body _ _ => rangeK L nt fn g ps.toList assign body)
    (exit := fun id => ⟨fun _ _ tm df h _ ke _ => ke id tm df h⟩)
    (scope := fun _ a => a)
    (label := fun _ => ⟨fun _ _ tm df h kn _ _ => kn tm df h⟩)
    (goto := fun _ => badC)
    (ret := ⟨fun _ _ tm df h _ _ kr => kr tm df h⟩)
    (refuse := fun _ => badC) c

/-! ### Which temporaries live beyond their region -/
/-- (met once, met in two places) as bits, the place's own bits added to both -/
def meet (own : Nat) (u : Nat × Nat) : Nat × Nat :=
  match u with
  | (once, twice) => forceN (Nat.lor twice (Nat.land once own)) fun t => forceN (Nat.lor once own) fun o => (o, t)

def bitsOf : List Nat → Nat → Nat
  | [], acc => acc
  | t :: r, acc => bitsOf r (Nat.lor acc (Nat.pow 2 t))

def regionBits (ops : List Oper) : List Oper → Nat → Nat
  | [], acc => acc
  | o :: r, acc => regionBits ops r (Nat.lor (bitsOf (looks ops o) acc) (match o.dst with | some d => Nat.pow 2 d | none => 0))

def useBits (x : Operand) : Nat :=
  match x with
  | .tmp t => Nat.pow 2 t
  | _ => 0

/-- a test, a range and a result count twice: they lie outside every region -/
def liveCode (c : Code) : Nat × Nat → Nat × Nat :=
  Code.rec (motive := fun _ => Nat × Nat → Nat × Nat)
    (skip := fun u => u)
    (region := fun _ ops _ u => forceN (regionBits ops.toList ops.toList 0) fun b => meet b u)
    (seq := fun _ _ a b u => b (a u))
    (cond := fun c _ _ a b u => b (a (meet (useBits c) (meet (useBits c) u))))
    (block := fun _ _ a u => a u)
    (loop := fun _ a u => a u)
    (rangeFunc := fun g ps _ _ a b u => b (a (meet (bitsOf ps.toList 0) (meet (bitsOf ps.toList 0) (meet (useBits g) (meet (useBits g) u))))))
    (exit := fun _ u => u)
    (scope := fun _ a u => a u)
    (label := fun _ u => u)
    (goto := fun _ u => u)
    (ret := fun u => u)
    (refuse := fun _ u => u) c

def resBits : List ResultVar → Nat → Nat
  | [], acc => acc
  | .tmp t :: r, acc => resBits r (Nat.lor acc (Nat.pow 2 t))
  | .cell a _ :: r, acc => resBits r (Nat.lor acc (Nat.pow 2 a))

/-- parameters and results always live -/
def liveOf (fn : Func) : Nat :=
  match fn.body with
  | none => 0
  | some c => (match liveCode c (0, 0) with | (_, twice) => Nat.lor (Nat.lor twice (resBits fn.results.toList 0)) (Nat.sub (Nat.pow 2 (Nat.add fn.params.size fn.nfree)) 1))

def lvOf (E : Env) (fn : Func) : Lv := ⟨liveOf fn, E.ng⟩

/-! ### Calls -/
def resultsA (E : Env) (L : Lv) (h : H) (tm : T AV) : List ResultVar → Option (List AV)
  | [] => some []
  | .tmp t :: r => (match Nat.testBit L.live t with | true => bnd (resultsA E L h tm r) fun l => some (tget tm t :: l) | false => none)
  | .cell a t :: r => (match Nat.testBit L.live a with | true => bnd (loadP E t (tget tm a) h) fun v => bnd (resultsA E L h tm r) fun l => some (v :: l) | false => none)

def oneOr : List AV → AV
  | [v] => v
  | l => .tuple l

/-- the deferred calls and marks of a frame that leaves -/
def leaveK (rc : Rec) (df : List ADef) : H → (H → Bool) → Bool :=
  List.rec (motive := fun _ => H → (H → Bool) → Bool) (fun h k => k h)
    (fun d _ ih h k =>
      match d with
      | .mark b =>
        (match h.get b with
         | some (.defs false) => optK (h.upd b (.defs true)) fun h' => ih h' k
         | _ => false)
      | .call fn cap args =>
        (match fn with
         | .func f => rc (.dfn f) (args ++ cap) h fun _ h' => ih h' k
         | _ => false)) df

structure KF where
  run : Rec → List AV → H → KV → Bool

def cFun (E : Env) (lf : Nat) (f : FuncId) : KF :=
  match E.ft.get f with
  | none => ⟨fun _ _ _ _ => false⟩
  | some fn =>
    match fn.body with
    | none => ⟨fun _ _ _ _ => false⟩
    | some c => ⟨fun rc args h k =>
        match Nat.ble args.length fn.ntmps with
        | false => false
        | true =>
          (cCode E lf (lvOf E fn) fn.ntmps f c).run rc none (ofListV args) [] h
            (fun tm df h => leaveK rc df h fun h => optK (resultsA E (lvOf E fn) h tm fn.results.toList) fun l => k (oneOr l) h)
            (fun _ _ _ _ => false)
            (fun tm df h => leaveK rc df h fun h => optK (resultsA E (lvOf E fn) h tm fn.results.toList) fun l => k (oneOr l) h)⟩

/-- a function that is called by a 'defer': it has no deferred calls of its own -/
def cFunD (E : Env) (lf : Nat) (f : FuncId) : KF :=
  match E.ft.get f with
  | none => ⟨fun _ _ _ _ => false⟩
  | some fn =>
    match fn.body with
    | none => ⟨fun _ _ _ _ => false⟩
    | some c => ⟨fun rc args h k =>
        match Nat.ble args.length fn.ntmps with
        | false => false
        | true =>
          (cCode E lf (lvOf E fn) fn.ntmps f c).run rc none (ofListV args) [] h
            (fun tm df h => match df with | [] => optK (resultsA E (lvOf E fn) h tm fn.results.toList) fun l => k (oneOr l) h | _ => false)
            (fun _ _ _ _ => false)
            (fun tm df h => match df with | [] => optK (resultsA E (lvOf E fn) h tm fn.results.toList) fun l => k (oneOr l) h | _ => false)⟩

def setParams (nt : Nat) : List Tmp → List AV → T AV → Option (T AV)
  | [], [], tm => some tm
  | t :: r, v :: s, tm => (match Nat.blt t nt with | true => setParams nt r s (putV tm t v) | false => none)
  | _, _, _ => none

/-- a round has ended: by 'jump' -/
def endRoundK (l : Nat) (jump : Option Code) (df : List ADef) (h : H) (k : KV) : Bool :=
  match df, h.get l with
  | [], some (.loop _ _ fn lt nt ps assign body d) =>
    (match jump with
     | none => optK (h.upd l (.loop .ready none fn lt nt ps assign body d)) fun h' => k (.bool true) h'
     | some c => optK (h.upd l (.loop .done (some c) fn lt nt ps assign body d)) fun h' => k (.bool false) h')
  | _, _ => false

def yieldK (E : Env) (lf : Nat) (rc : Rec) (l : Nat) (args : List AV) (h : H) (k : KV) : Bool :=
  match h.get l with
  | some (.loop _ _ fn lt nt ps assign body _) =>
    optK (E.ft.get fn) fun fd =>
    optK (setParams nt ps args lt) fun tm =>
      (cCode E lf (lvOf E fd) nt fn assign).run rc (some l) tm [] h
        (fun tm df h =>
          match df, h.get l with
          | [], some (.loop .ready pend fn' lt nt' ps assign' body' d) =>
            optK (h.upd l (.loop .busy pend fn' lt nt' ps assign' body' d)) fun h =>
              (cCode E lf (lvOf E fd) nt fn body).run rc (some l) tm [] h
                (fun _ df h => endRoundK l none df h k)
                (fun id _ df h => endRoundK l (some (.exit id)) df h k)
                (fun _ df h => endRoundK l (some .ret) df h k)
          | _, _ => false)
        (fun _ _ _ _ => false)
        (fun _ _ _ => false)
  | _ => false

def evGo (E : Env) (lf n : Nat) : Rec :=
  Nat.rec (motive := fun _ => Rec) (fun _ _ _ _ => false)
    (fun _ ih tgt => match tgt with
      | .fn f => fun args h k => (cFun E lf f).run ih args h k
      | .yield l => fun args h k => yieldK E lf ih l args h k
      | .dfn f => fun args h k => (cFunD E lf f).run ih args h k) n

end
end Go.AE
