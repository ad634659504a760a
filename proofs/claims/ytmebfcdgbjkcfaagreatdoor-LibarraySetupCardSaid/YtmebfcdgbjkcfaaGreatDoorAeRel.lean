/-
  What an abstract value, an abstract heap and an abstract frame say of the model's.
-/
import Derived.Test.YtmebfcdgbjkcfaaGreatDoorAeT
import Derived.Below
namespace Go.AE

/-- what the opaque numbers and strings stand for -/
structure Sy where
  ints : Nat → Int
  strs : Nat → ByteArray
  sls : Nat → Option Addr × Nat × Nat
  ops : Nat → Value

/-- what an operation makes of two numbers -/
def binN (op : BinOp) (k : IntKind) (a b : Int) : Int :=
  match op with
  | .add => k.wrap (a + b)
  | .sub => k.wrap (a - b)
  | .mul => k.wrap (a * b)
  | .quo => k.wrap (a.tdiv b)
  | .rem => a.tmod b
  | .and => k.wrap ((BitVec.ofInt k.bits a &&& BitVec.ofInt k.bits b).toNat)
  | .or => k.wrap ((BitVec.ofInt k.bits a ||| BitVec.ofInt k.bits b).toNat)
  | .xor => k.wrap ((BitVec.ofInt k.bits a ^^^ BitVec.ofInt k.bits b).toNat)
  | .andNot => k.wrap ((BitVec.ofInt k.bits a &&& ~~~BitVec.ofInt k.bits b).toNat)
  | .shl => k.wrap (a * (2 ^ (min b.toNat k.bits) : Nat))
  | .shr => a.fdiv ((2 ^ (min b.toNat k.bits) : Nat) : Int)
  | _ => 0

def SX.val (Y : Sy) : SX → Int
  | .var i => Y.ints i
  | .len i => (Y.strs i).size
  | .con n => n
  | .conv k a => k.wrap (a.val Y)
  | .bin op k a b => binN op k (a.val Y) (b.val Y)
  | .byte i j => (((Y.strs i)[j]?.getD 0).toNat : Int)
  | .slen i => ((Y.sls i).2.1 : Int)

def inV (n : Int) : List Int → Bool
  | [] => false
  | k :: r => if n = k then true else inV n r

def lookV (n : Int) : List Int → List Int → Int
  | k :: ks, v :: vs => if n = k then v else lookV n ks vs
  | _, _ => 0

def Q.val (Y : Sy) : Q → Value
  | .var i => Y.ops i
  | .isIn e ks => .bool (inV (e.val Y) ks)
  | .look e ks vs => .int .i64 (lookV (e.val Y) ks vs)

/-- where a block lies: its number, by how much its cells are shifted, how many elements it has room for -/
structure Loc where
  blk : Nat
  sh : Nat
  cap : Nat

abbrev Rho := Nat → Option Loc

def Loc.addr (L : Loc) (o : Nat) : Addr := ⟨L.blk, L.sh + o, none⟩

def okBytes (s : List Nat) : Bool := s.all fun b => decide (b < 256)
def bytesV (s : List Nat) : ByteArray := ⟨(s.map UInt8.ofNat).toArray⟩

/-- a string that is said to be none of the list's -/
def neOk (i : Nat) (s : ByteArray) : Bool := !Nat.ble neFrom i || neList.all fun c => !(s.toList == (bytesV c).toList)

def concFn (ρ : Rho) : Fn → Option Fn
  | .yield l => (ρ l).map fun L => .yield L.blk
  | .func f => some (.func f)
  | .method n => some (.method n)
  | .methodOf t n => some (.methodOf t n)
  | .via t p f b => some (.via t p f b)

def isCell : AV → Bool
  | .agg _ => false
  | .tuple _ => false
  | .opq _ => false
  | .when _ _ _ => false
  | _ => true

mutual
def conc (Y : Sy) (ρ : Rho) : AV → Option Value
  | .bool b => some (.bool b)
  | .i64 n => some (.int .i64 n)
  | .int k n => some (.int k n)
  | .str s => if okBytes s then some (.string (bytesV s)) else none
  | .ptr b o => (ρ b).map fun L => .pointer (some (L.addr o))
  | .nilptr => some (.pointer none)
  | .slice b o len cap => (ρ b).map fun L => .slice (some (L.addr o)) len cap
  | .gslice b o len pre => (ρ b).bind fun L => if len ≤ L.cap - pre then some (.slice (some (L.addr o)) len (L.cap - pre)) else none
  | .nilslice => some (.slice none 0 0)
  | .map b => (ρ b).map fun L => .map (some L.blk)
  | .nilmap => some (.map none)
  | .func fn a c =>
    (match concFn ρ fn, concs Y ρ a, concs Y ρ c with
     | some fn, some a, some c => some (.func fn a.toArray c.toArray)
     | _, _, _ => none)
  | .nilfunc => some .nilFunc
  | .iface t v => (match conc Y ρ v with | some v => some (.iface t v) | none => none)
  | .niliface => some .nilIface
  | .agg l => if l.all isCell then (match concs Y ρ l with | some l => some (.agg l.toArray) | none => none) else none
  | .tuple l => (match concs Y ρ l with | some l => some (.tuple l.toArray) | none => none)
  | .sint k e lo hi => if lo ≤ e.val Y ∧ e.val Y ≤ hi then some (.int k (e.val Y)) else none
  | .sstr i lo hi => if lo ≤ (Y.strs i).size ∧ (Y.strs i).size ≤ hi ∧ neOk i (Y.strs i) = true then some (.string (Y.strs i)) else none
  | .eslice b o l s pre => (ρ b).bind fun L => if l ≤ L.cap - pre then (if L.cap - pre = l then some (.slice (some (L.addr o)) 0 0) else some (.slice (some (L.addr (o + l * s))) 0 (L.cap - pre - l))) else none
  | .oslice i => some (.slice (Y.sls i).1 (Y.sls i).2.1 (Y.sls i).2.2)
  | .opq q => some (q.val Y)
  | .when e ks v => if inV (e.val Y) ks = true then conc Y ρ v else some undef
  | .uslice i b o lo hi =>
    if lo ≤ (Y.sls i).2.1 ∧ (Y.sls i).2.1 ≤ hi then
      (if lo = 0 then some (.slice (Y.sls i).1 (Y.sls i).2.1 (Y.sls i).2.2)
       else (ρ b).bind fun L => if (Y.sls i).1 = some (L.addr o) ∧ (Y.sls i).2.1 ≤ L.cap ∧ (Y.sls i).2.2 = L.cap then some (.slice (Y.sls i).1 (Y.sls i).2.1 (Y.sls i).2.2) else none)
    else none
def concs (Y : Sy) (ρ : Rho) : List AV → Option (List Value)
  | [] => some []
  | v :: r => (match conc Y ρ v, concs Y ρ r with | some v, some r => some (v :: r) | _, _ => none)
end

/-- more blocks are laid -/
def Rho.le (ρ ρ' : Rho) : Prop := ∀ b L, ρ b = some L → ρ' b = some L

theorem Rho.le_refl (ρ : Rho) : ρ.le ρ := fun _ _ h => h
theorem Rho.le_trans {a b c : Rho} (h : a.le b) (k : b.le c) : a.le c := fun x L hx => k x L (h x L hx)

theorem concFn_mono {ρ ρ' : Rho} (h : ρ.le ρ') {f g : Fn} (hf : concFn ρ f = some g) : concFn ρ' f = some g := by
  cases f with
  | yield l =>
    simp only [concFn, Option.map_eq_some_iff] at hf ⊢
    obtain ⟨L, hL, e⟩ := hf
    exact ⟨L, h _ _ hL, e⟩
  | _ => exact hf

mutual
theorem conc_mono {Y : Sy} {ρ ρ' : Rho} (h : ρ.le ρ') : ∀ {v : AV} {c : Value}, conc Y ρ v = some c → conc Y ρ' v = some c
  | .bool _, _, hc => hc
  | .i64 _, _, hc => hc
  | .int _ _, _, hc => hc
  | .str _, _, hc => by simpa [conc] using hc
  | .ptr _ _, _, hc => by
    simp only [conc, Option.map_eq_some_iff] at hc ⊢
    obtain ⟨L, hL, e⟩ := hc
    exact ⟨L, h _ _ hL, e⟩
  | .nilptr, _, hc => hc
  | .slice _ _ _ _, _, hc => by
    simp only [conc, Option.map_eq_some_iff] at hc ⊢
    obtain ⟨L, hL, e⟩ := hc
    exact ⟨L, h _ _ hL, e⟩
  | .gslice _ _ _ _, _, hc => by
    simp only [conc, Option.bind_eq_some_iff] at hc ⊢
    obtain ⟨L, hL, e⟩ := hc
    exact ⟨L, h _ _ hL, e⟩
  | .nilslice, _, hc => hc
  | .map _, _, hc => by
    simp only [conc, Option.map_eq_some_iff] at hc ⊢
    obtain ⟨L, hL, e⟩ := hc
    exact ⟨L, h _ _ hL, e⟩
  | .nilmap, _, hc => hc
  | .func fn a c, _, hc => by
    simp only [conc] at hc ⊢
    split at hc
    · rename_i f' a' c' h1 h2 h3
      rw [concFn_mono h h1, concs_mono h h2, concs_mono h h3]
      exact hc
    · cases hc
  | .nilfunc, _, hc => hc
  | .iface _ v, _, hc => by
    simp only [conc] at hc ⊢
    split at hc
    · rename_i v' h1
      rw [conc_mono h h1]
      exact hc
    · cases hc
  | .niliface, _, hc => hc
  | .agg l, _, hc => by
    simp only [conc] at hc ⊢
    split at hc
    · rename_i h0
      rw [if_pos h0]
      split at hc
      · rename_i l' h1
        rw [concs_mono h h1]
        exact hc
      · cases hc
    · cases hc
  | .tuple l, _, hc => by
    simp only [conc] at hc ⊢
    split at hc
    · rename_i l' h1
      rw [concs_mono h h1]
      exact hc
    · cases hc
  | .sint _ _ _ _, _, hc => by simpa only [conc] using hc
  | .sstr _ _ _, _, hc => by simpa only [conc] using hc
  | .oslice _, _, hc => by simpa only [conc] using hc
  | .opq _, _, hc => by simpa only [conc] using hc
  | .when _ _ _, _, hc => by
    simp only [conc] at hc ⊢
    split at hc
    · rename_i h1
      rw [if_pos h1]
      exact conc_mono h hc
    · rename_i h1
      rw [if_neg h1]
      exact hc
  | .uslice _ _ _ _ _, _, hc => by
    simp only [conc] at hc ⊢
    split at hc
    · rename_i h1
      rw [if_pos h1]
      split at hc
      · rename_i h2
        rw [if_pos h2]
        exact hc
      · rename_i h2
        rw [if_neg h2]
        simp only [Option.bind_eq_some_iff] at hc ⊢
        obtain ⟨L, hL, e⟩ := hc
        exact ⟨L, h _ _ hL, e⟩
    · cases hc
  | .eslice _ _ _ _ _, _, hc => by
    simp only [conc, Option.bind_eq_some_iff] at hc ⊢
    obtain ⟨L, hL, e⟩ := hc
    exact ⟨L, h _ _ hL, e⟩
theorem concs_mono {Y : Sy} {ρ ρ' : Rho} (h : ρ.le ρ') : ∀ {l : List AV} {c : List Value}, concs Y ρ l = some c → concs Y ρ' l = some c
  | [], _, hc => hc
  | v :: r, _, hc => by
    simp only [concs] at hc ⊢
    split at hc
    · rename_i v' r' h1 h2
      rw [conc_mono h h1, concs_mono h h2]
      exact hc
    · cases hc
end

section
variable {Y : Sy} {ρ : Rho}

theorem concs_cons {v : AV} {r : List AV} {c : List Value} : concs Y ρ (v :: r) = some c ↔ ∃ cv cr, conc Y ρ v = some cv ∧ concs Y ρ r = some cr ∧ c = cv :: cr := by
  simp only [concs]
  constructor
  · intro h
    split at h
    · rename_i a b h1 h2
      exact ⟨a, b, h1, h2, (Option.some.inj h).symm⟩
    · cases h
  · rintro ⟨a, b, h1, h2, rfl⟩
    rw [h1, h2]

theorem concs_nil {c : List Value} : concs Y ρ [] = some c ↔ c = [] := by
  simp only [concs, Option.some.injEq]
  exact ⟨fun h => h.symm, fun h => h.symm⟩

theorem concs_length : ∀ {l : List AV} {c : List Value}, concs Y ρ l = some c → c.length = l.length := by
  intro l
  induction l with
  | nil => intro c h; rw [concs_nil] at h; subst h; rfl
  | cons v r ih =>
    intro c h
    obtain ⟨a, b, _, h2, rfl⟩ := concs_cons.1 h
    simp [ih h2]

theorem concs_getElem : ∀ {l : List AV} {c : List Value}, concs Y ρ l = some c → ∀ (i : Nat) (v : AV), l[i]? = some v → ∃ cv, conc Y ρ v = some cv ∧ c[i]? = some cv := by
  intro l
  induction l with
  | nil => intro c _ i v h; simp at h
  | cons x r ih =>
    intro c h i v hv
    obtain ⟨a, b, h1, h2, rfl⟩ := concs_cons.1 h
    cases i with
    | zero => simp at hv; subst hv; exact ⟨a, h1, by simp⟩
    | succ i => simp at hv; obtain ⟨cv, e1, e2⟩ := ih h2 i v hv; exact ⟨cv, e1, by simpa using e2⟩

theorem concs_append : ∀ {l m : List AV} {c : List Value}, concs Y ρ (l ++ m) = some c ↔ ∃ a b, concs Y ρ l = some a ∧ concs Y ρ m = some b ∧ c = a ++ b := by
  intro l
  induction l with
  | nil =>
    intro m c
    simp only [List.nil_append]
    constructor
    · intro h; exact ⟨[], c, by simp [concs], h, rfl⟩
    · rintro ⟨a, b, h1, h2, rfl⟩; rw [concs_nil] at h1; subst h1; simpa using h2
  | cons v r ih =>
    intro m c
    simp only [List.cons_append]
    constructor
    · intro h
      obtain ⟨x, y, h1, h2, rfl⟩ := concs_cons.1 h
      obtain ⟨a, b, h3, h4, rfl⟩ := ih.1 h2
      exact ⟨x :: a, b, concs_cons.2 ⟨x, a, h1, h3, rfl⟩, h4, rfl⟩
    · rintro ⟨a, b, h1, h2, rfl⟩
      obtain ⟨x, y, h3, h4, rfl⟩ := concs_cons.1 h1
      exact concs_cons.2 ⟨x, y ++ b, h3, ih.2 ⟨y, b, h4, h2, rfl⟩, rfl⟩

theorem concs_take {l : List AV} {c : List Value} (h : concs Y ρ l = some c) (n : Nat) : concs Y ρ (l.take n) = some (c.take n) := by
  induction n generalizing l c with
  | zero => simp [concs]
  | succ n ih =>
    cases l with
    | nil => rw [concs_nil] at h; subst h; simp [concs]
    | cons v r =>
      obtain ⟨a, b, h1, h2, rfl⟩ := concs_cons.1 h
      simp only [List.take_succ_cons]
      exact concs_cons.2 ⟨a, _, h1, ih h2, rfl⟩

theorem concs_drop {l : List AV} {c : List Value} (h : concs Y ρ l = some c) (n : Nat) : concs Y ρ (l.drop n) = some (c.drop n) := by
  induction n generalizing l c with
  | zero => simpa using h
  | succ n ih =>
    cases l with
    | nil => rw [concs_nil] at h; subst h; simp [concs]
    | cons v r =>
      obtain ⟨a, b, h1, h2, rfl⟩ := concs_cons.1 h
      simpa using ih h2

/-- a value of one cell is one in the model too -/
theorem conc_cell {v : AV} {c : Value} (hv : isCell v = true) (h : conc Y ρ v = some c) : (∀ l, c ≠ .agg l) ∧ (∀ l, c ≠ .tuple l) := by
  cases v with
  | agg l => cases hv
  | tuple l => cases hv
  | opq i => cases hv
  | «when» e ks u => cases hv
  | eslice b o l s pre =>
    simp only [conc, Option.bind_eq_some_iff] at h
    obtain ⟨L, _, h⟩ := h
    split at h
    · split at h <;> (cases h; exact ⟨fun l => by simp, fun l => by simp⟩)
    · cases h
  | uslice i b o lo hi =>
    simp only [conc] at h
    split at h
    · split at h
      · cases h; exact ⟨fun l => by simp, fun l => by simp⟩
      · rw [Option.bind_eq_some_iff] at h
        obtain ⟨L, _, h⟩ := h
        split at h
        · cases h; exact ⟨fun l => by simp, fun l => by simp⟩
        · cases h
    · cases h
  | _ =>
    simp only [conc] at h
    first
      | (cases h; exact ⟨fun l => by simp, fun l => by simp⟩)
      | (rw [Option.map_eq_some_iff] at h; obtain ⟨L, _, rfl⟩ := h; exact ⟨fun l => by simp, fun l => by simp⟩)
      | (rw [Option.bind_eq_some_iff] at h; obtain ⟨L, _, h⟩ := h; split at h <;> first | (cases h; exact ⟨fun l => by simp, fun l => by simp⟩) | (cases h; done))
      | (split at h <;> first | (cases h; exact ⟨fun l => by simp, fun l => by simp⟩) | (cases h; done))

theorem value_cells_of_cell {c : Value} (h : ∀ l, c ≠ .agg l) : c.cells = #[c] := by
  cases c <;> first | rfl | exact absurd rfl (h _)

/-- the cells of a value are the cells of what it stands for -/
theorem cellsOf_conc {v : AV} {c : Value} {vs : List AV} (hv : cellsOf v = some vs) (h : conc Y ρ v = some c) :
    ∃ cs, concs Y ρ vs = some cs ∧ c.cells = cs.toArray ∧ vs.all isCell = true := by
  cases v with
  | agg l =>
    have e : cellsOf (.agg l) = some l := rfl
    rw [e] at hv
    cases hv
    simp only [conc] at h
    split at h
    · rename_i h0
      split at h
      · rename_i cs h1
        cases h
        exact ⟨cs, h1, rfl, h0⟩
      · cases h
    · cases h
  | tuple l => cases hv
  | opq i => cases hv
  | «when» e ks u => cases hv
  | _ =>
    cases hv
    have hc := conc_cell rfl h
    exact ⟨[c], concs_cons.2 ⟨c, [], h, rfl, rfl⟩, value_cells_of_cell hc.1, rfl⟩

end

/-! ### Frames -/
/-- the temporaries in 'L' hold what the trie says -/
def TRel (Y : Sy) (ρ : Rho) (L : Nat) (tm : T AV) (tmps : Array Value) : Prop :=
  ∀ t, Nat.testBit L t = true → conc Y ρ (tget tm t) = some (tmps.getD t undef)

theorem TRel.mono {Y : Sy} {ρ ρ' : Rho} {L : Nat} {tm : T AV} {tmps : Array Value} (h : TRel Y ρ L tm tmps) (hle : ρ.le ρ') : TRel Y ρ' L tm tmps :=
  fun t ht => conc_mono hle (h t ht)

/-! ### Blocks -/
def LoopRel (Y : Sy) (E : Env) (ρ : Rho) (st : LoopState) (pend : Option Code) (fn : FuncId) (tm : T AV) (nt : Nat) (ps : List Tmp) (assign body : Code) (d : Nat) (r : Loop) : Prop :=
  r.state = st ∧ r.pending = pend ∧ r.params.toList = ps ∧ r.assign = assign ∧ r.body = body ∧ r.tmps.size = nt ∧
  (∃ L, ρ d = some L ∧ r.defers = L.blk) ∧ (∀ fd, E.ft.get fn = some fd → TRel Y ρ (liveOf fd) tm r.tmps)

def EntRel (Y : Sy) (ρ : Rho) : List AEnt → List MapEntry → Prop
  | [], [] => True
  | a :: r, e :: s => conc Y ρ a.key = some e.key ∧ conc Y ρ a.val = some e.val ∧ a.born = e.born ∧ EntRel Y ρ r s
  | _, _ => False

def ORel (Y : Sy) (E : Env) (ρ : Rho) (L : Loc) : AObj → Obj → Prop
  | .cells c n gs, ob => ∃ arr elem, ob = .cells arr elem (0, 0) ∧ L.sh + n ≤ arr.size ∧
      (gs ≠ 0 → n ≤ L.cap * gs ∧ arr.size = L.sh + L.cap * gs) ∧
      ∀ i v, getV c i = some v → i < n ∧ isCell v = true ∧ ∃ cv, conc Y ρ v = some cv ∧ arr[L.sh + i]? = some cv
  | .map es clock, ob => ∃ l, ob = .map l clock ∧ EntRel Y ρ es l.toList
  | .siter s pos, ob => L.sh = 0 ∧ okBytes s = true ∧ ob = .stringIter (bytesV s) pos
  | .miter m since seen stepped, ob => L.sh = 0 ∧ ∃ m', ob = .mapIter m' since seen.toArray stepped ∧ (match m with | none => m' = none | some b => ∃ L, ρ b = some L ∧ m' = some L.blk)
  | .loop st pend fn tm nt ps assign body d, ob => ∃ r, ob = .loop r ∧ LoopRel Y E ρ st pend fn tm nt ps assign body d r
  | .defs shut, ob => ob = .deferred (if shut then none else some [])
  | .dead, _ => True
  | .held c n all, ob => ∃ arr elem fz, ob = .cells arr elem fz ∧ L.sh + n ≤ arr.size ∧ (all = true → arr.size = L.sh + n) ∧ ∀ i v, getV c i = some v → i < n ∧ isCell v = true ∧ ∃ cv, conc Y ρ v = some cv ∧ arr[L.sh + i]? = some cv

theorem EntRel.mono {Y : Sy} {ρ ρ' : Rho} (hle : ρ.le ρ') : ∀ {es : List AEnt} {l : List MapEntry}, EntRel Y ρ es l → EntRel Y ρ' es l
  | [], [], h => h
  | _ :: _, _ :: _, ⟨h1, h2, h3, h4⟩ => ⟨conc_mono hle h1, conc_mono hle h2, h3, h4.mono hle⟩
  | [], _ :: _, h => h
  | _ :: _, [], h => h

theorem ORel.mono {Y : Sy} {E : Env} {ρ ρ' : Rho} (hle : ρ.le ρ') {L : Loc} {o : AObj} {ob : Obj} (h : ORel Y E ρ L o ob) : ORel Y E ρ' L o ob := by
  cases o with
  | cells c n gs =>
    obtain ⟨arr, elem, e, h1, h2, h3⟩ := h
    exact ⟨arr, elem, e, h1, h2, fun i v hv => let ⟨a, b, cv, c1, c2⟩ := h3 i v hv; ⟨a, b, cv, conc_mono hle c1, c2⟩⟩
  | map es clock => obtain ⟨l, e, h1⟩ := h; exact ⟨l, e, h1.mono hle⟩
  | siter s pos => exact h
  | miter m since seen stepped =>
    obtain ⟨h0, m', e, h1⟩ := h
    refine ⟨h0, m', e, ?_⟩
    cases m with
    | none => exact h1
    | some b => obtain ⟨L, hL, e'⟩ := h1; exact ⟨L, hle _ _ hL, e'⟩
  | loop st pend fn tm nt ps assign body d =>
    obtain ⟨r, e, h1, h2, h4, h5, h6, h7, ⟨L, hL, h8⟩, h9⟩ := h
    exact ⟨r, e, h1, h2, h4, h5, h6, h7, ⟨L, hle _ _ hL, h8⟩, fun fd hfd => (h9 fd hfd).mono hle⟩
  | defs shut => exact h
  | dead => trivial
  | held c n all =>
    obtain ⟨arr, elem, fz, e, h1, h2, h3⟩ := h
    exact ⟨arr, elem, fz, e, h1, h2, fun i v hv => let ⟨a, b, cv, c1, c2⟩ := h3 i v hv; ⟨a, b, cv, conc_mono hle c1, c2⟩⟩

def AObj.alive : AObj → Bool
  | .dead => false
  | _ => true

/-- the heap h says of the world w: each block that is seen lies where ρ says, as h says; no two at one place -/
structure Rel (Y : Sy) (E : Env) (ρ : Rho) (h : H) (w : World) : Prop where
  obj : ∀ b o, h.get b = some o → o.alive = true → ∃ L ob, ρ b = some L ∧ w.heap[L.blk]? = some ob ∧ ORel Y E ρ L o ob
  inj : ∀ b c o p L M, h.get b = some o → h.get c = some p → o.alive = true → p.alive = true → ρ b = some L → ρ c = some M → L.blk = M.blk → b = c
  fresh : ∀ b, h.next ≤ b → ρ b = none
  bound : ∀ b L, ρ b = some L → L.blk < w.heap.size

/-- it lives, and may be written -/
noncomputable def wr (h : H) (b : Nat) (o : AObj) : Bool := o.alive && !memN h.prot b

theorem wr_alive {h : H} {b : Nat} {o : AObj} (hw : wr h b o = true) : o.alive = true := by
  unfold wr at hw
  rw [Bool.and_eq_true] at hw
  exact hw.1

theorem wr_prot {h : H} {b : Nat} {o : AObj} (hw : wr h b o = true) : memN h.prot b = false := by
  unfold wr at hw
  rw [Bool.and_eq_true, Bool.not_eq_true'] at hw
  exact hw.2

theorem wr_mk {h : H} {b : Nat} {o : AObj} (ha : o.alive = true) (hp : memN h.prot b = false) : wr h b o = true := by
  unfold wr
  rw [ha, hp]
  rfl

/-- what lies at no block that is seen, and may be written, is as it was; the rest of the world too -/
structure Frm (ρ : Rho) (h : H) (w w' : World) : Prop where
  os : w'.os = w.os
  tape : w'.tape = w.tape
  output : w'.output = w.output
  size : w.heap.size ≤ w'.heap.size
  block : ∀ c, c < w.heap.size → (∀ b o L, h.get b = some o → wr h b o = true → ρ b = some L → L.blk ≠ c) → w'.heap[c]? = w.heap[c]?

theorem Frm.refl (ρ : Rho) (h : H) (w : World) : Frm ρ h w w := ⟨rfl, rfl, rfl, Nat.le_refl _, fun _ _ _ => rfl⟩

/-- what a step does to the heap's own numbers: nothing that is hidden or held fast has turned -/
structure Keeps (h h' : H) : Prop where
  mask : h'.mask = h.mask
  prot : h'.prot = h.prot
  next : h.next ≤ h'.next
  raw : ∀ b, b < h.next → (memN h.mask b = true ∨ memN h.prot b = true) → getO h'.t b = getO h.t b
  /-- a block that was dead, or was none, is none that lives now -/
  old : ∀ b o, b < h.next → h'.get b = some o → o.alive = true → ∃ o₀, h.get b = some o₀ ∧ o₀.alive = true

theorem Keeps.refl (h : H) : Keeps h h := ⟨rfl, rfl, Nat.le_refl _, fun _ _ _ => rfl, fun _ o _ h' ha => ⟨o, h', ha⟩⟩

theorem Keeps.trans {a b c : H} (h : Keeps a b) (k : Keeps b c) : Keeps a c := by
  refine ⟨k.mask.trans h.mask, k.prot.trans h.prot, Nat.le_trans h.next k.next, fun x hx hm => ?_, fun x o hx ho ha => ?_⟩
  · rw [k.raw x (Nat.lt_of_lt_of_le hx h.next) (by rw [h.mask, h.prot]; exact hm), h.raw x hx hm]
  · obtain ⟨o₁, h1, a1⟩ := k.old x o (Nat.lt_of_lt_of_le hx h.next) ho ha
    exact h.old x o₁ hx h1 a1

/-- from (ρ, h, w) to (ρ', h', w') -/
structure Goes (Y : Sy) (E : Env) (ρ : Rho) (h : H) (w : World) (ρ' : Rho) (h' : H) (w' : World) : Prop where
  le : ρ.le ρ'
  rel : Rel Y E ρ' h' w'
  frm : Frm ρ h w w'
  keeps : Keeps h h'
  /-- a new block lies at a new place, or at that of a block that was seen -/
  made : ∀ b L, ρ b = none → ρ' b = some L → w.heap.size ≤ L.blk ∨ ∃ c o M, h.get c = some o ∧ wr h c o = true ∧ ρ c = some M ∧ M.blk = L.blk
  /-- new blocks have new numbers -/
  same : ∀ b, b < h.next → ρ' b = ρ b

theorem Goes.refl {Y : Sy} {E : Env} {ρ : Rho} {h : H} {w : World} (hr : Rel Y E ρ h w) : Goes Y E ρ h w ρ h w :=
  ⟨Rho.le_refl _, hr, Frm.refl _ _ _, Keeps.refl _, (fun b L h0 h1 => by rw [h0] at h1; cases h1), fun _ _ => rfl⟩

theorem Goes.trans {Y : Sy} {E : Env} {ρ ρ' ρ'' : Rho} {h h' h'' : H} {w w' w'' : World} (hr : Rel Y E ρ h w) (a : Goes Y E ρ h w ρ' h' w') (b : Goes Y E ρ' h' w' ρ'' h'' w'') :
    Goes Y E ρ h w ρ'' h'' w'' := by
  have key : ∀ x o L, h'.get x = some o → wr h' x o = true → ρ' x = some L → w.heap.size ≤ L.blk ∨ ∃ c p M, h.get c = some p ∧ wr h c p = true ∧ ρ c = some M ∧ M.blk = L.blk := by
    intro x o L hx ha hL
    cases hρ : ρ x with
    | none => exact a.made x L hρ hL
    | some M =>
      have h1 : ρ' x = some M := a.le _ _ hρ
      rw [h1] at hL
      cases hL
      have hlt : x < h.next := by
        rcases Nat.lt_or_ge x h.next with h2 | h2
        · exact h2
        · rw [hr.fresh x h2] at hρ; cases hρ
      obtain ⟨o₀, h0, a0⟩ := a.keeps.old x o hlt hx (wr_alive ha)
      exact .inr ⟨x, o₀, L, h0, wr_mk a0 (by rw [← a.keeps.prot]; exact wr_prot ha), hρ, rfl⟩
  refine ⟨Rho.le_trans a.le b.le, b.rel, ⟨b.frm.os.trans a.frm.os, b.frm.tape.trans a.frm.tape, b.frm.output.trans a.frm.output, Nat.le_trans a.frm.size b.frm.size, fun c hc hno => ?_⟩, a.keeps.trans b.keeps, fun x L hx hL => ?_, fun x hx => by rw [b.same x (Nat.lt_of_lt_of_le hx a.keeps.next), a.same x hx]⟩
  · rw [b.frm.block c (Nat.lt_of_lt_of_le hc a.frm.size) ?_, a.frm.block c hc hno]
    intro x o L hx ha hL hLc
    rcases key x o L hx ha hL with h1 | ⟨y, p, M, h1, h2, h3, h4⟩
    · omega
    · exact hno y p M h1 h2 h3 (h4.trans hLc)
  · cases hρ : ρ' x with
    | none =>
      rcases b.made x L hρ hL with h1 | ⟨c, o, M, h1, h2, h3, h4⟩
      · exact .inl (Nat.le_trans a.frm.size h1)
      · rcases key c o M h1 h2 h3 with h5 | ⟨y, p, N, k1, k2, k3, k4⟩
        · exact .inl (h4 ▸ h5)
        · exact .inr ⟨y, p, N, k1, k2, k3, k4.trans h4⟩
    | some M =>
      have h1 : ρ'' x = some M := b.le _ _ hρ
      rw [h1] at hL
      cases hL
      exact a.made x L hx hρ

end Go.AE
