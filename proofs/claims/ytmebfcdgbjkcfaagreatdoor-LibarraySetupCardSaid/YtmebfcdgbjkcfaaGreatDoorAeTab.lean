/-
  The program's tables, constants, and what only computes.
-/
import Derived.Test.YtmebfcdgbjkcfaaGreatDoorAeHeap
namespace Go.AE

section basics
variable {Y : Sy} {E : Env} {ρ : Rho} {h : H} {w : World}

theorem bnd_eq {α β : Type} {r : Option α} {f : α → Option β} {b : β} : bnd r f = some b ↔ ∃ a, r = some a ∧ f a = some b := by
  unfold bnd
  cases r with
  | none => simp
  | some a => simp

theorem optK_eq {α : Type} {r : Option α} {k : α → Bool} : optK r k = true ↔ ∃ a, r = some a ∧ k a = true := by
  unfold optK
  cases r with
  | none => simp
  | some a => simp

theorem forceN_eq {β : Type} (n : Nat) (k : Nat → β) : forceN n k = k n := by cases n <;> rfl
theorem forceI_eq {β : Type} (n : Int) (k : Int → β) : forceI n k = k n := by
  cases n with
  | ofNat m => cases m <;> rfl
  | negSucc m => cases m <;> rfl

theorem asI_eq {v : AV} {n : Int} (h : asI v = some n) : v = .i64 n := by
  cases v <;> first | (cases h; rfl) | cases h
theorem asP_eq {v : AV} {p : Nat × Nat} (h : asP v = some p) : v = .ptr p.1 p.2 := by
  cases v <;> first | (cases h; rfl) | cases h
theorem asB_eq {v : AV} {b : Bool} (h : asB v = some b) : v = .bool b := by
  cases v <;> first | (cases h; rfl) | cases h

theorem conc_mkInt (k : IntKind) (n : Int) : conc Y ρ (mkInt k n) = some (.int k n) := by cases k <;> rfl
theorem isCell_mkInt (k : IntKind) (n : Int) : isCell (mkInt k n) = true := by cases k <;> rfl

/-! ### Numbers -/
theorem eqI_eq (a b : Int) : eqI a b = (a == b) := by
  cases a with
  | ofNat m =>
    cases b with
    | ofNat n =>
      show Nat.beq m n = _
      rw [Bool.eq_iff_iff]
      simp [Nat.beq_eq]
      omega
    | negSucc n => show false = _; rw [Bool.eq_iff_iff]; simp
  | negSucc m =>
    cases b with
    | ofNat n => show false = _; rw [Bool.eq_iff_iff]; simp
    | negSucc n =>
      show Nat.beq m n = _
      rw [Bool.eq_iff_iff]
      simp [Nat.beq_eq]

theorem blt_iff (m n : Nat) : Nat.blt m n = true ↔ m < n := by
  unfold Nat.blt
  rw [Nat.ble_eq]
  omega

theorem ltI_eq (a b : Int) : ltI a b = decide (a < b) := by
  cases a with
  | ofNat m =>
    cases b with
    | ofNat n => show Nat.blt m n = _; rw [Bool.eq_iff_iff, blt_iff]; simp
    | negSucc n => show false = _; rw [Bool.eq_iff_iff]; simp; omega
  | negSucc m =>
    cases b with
    | ofNat n => show true = _; rw [Bool.eq_iff_iff]; simp; omega
    | negSucc n => show Nat.blt n m = _; rw [Bool.eq_iff_iff, blt_iff]; simp; omega

theorem addI_eq (a b : Int) : addI a b = a + b := by
  cases a <;> cases b <;> rfl
theorem mulI_eq (a b : Int) : mulI a b = a * b := by
  cases a <;> cases b <;> rfl
theorem subI_eq (a b : Int) : subI a b = a - b := by
  cases a with
  | ofNat m =>
    cases b with
    | ofNat n =>
      show Bool.rec (motive := fun _ => Int) (.negSucc (Nat.sub (Nat.sub n m) 1)) (.ofNat (Nat.sub m n)) (Nat.ble n m) = _
      cases hb : Nat.ble n m with
      | true => have := Nat.le_of_ble_eq_true hb; show ((m - n : Nat) : Int) = (m : Int) - (n : Int); omega
      | false =>
        have : ¬ n ≤ m := fun h => by rw [Nat.ble_eq_true_of_le h] at hb; cases hb
        show Int.negSucc (n - m - 1) = (m : Int) - (n : Int)
        omega
    | negSucc n => rfl
  | negSucc m => cases b <;> rfl

theorem wrap64_in (n : Int) (h1 : -9223372036854775808 ≤ n) (h2 : n ≤ 9223372036854775807) : IntKind.wrap .i64 n = n := by
  have e : IntKind.wrap .i64 n = if n % 18446744073709551616 ≥ 9223372036854775808 then n % 18446744073709551616 - 18446744073709551616 else n % 18446744073709551616 := by
    show (if (true && decide (n % (18446744073709551616 : Int) ≥ 9223372036854775808)) = true then n % (18446744073709551616 : Int) - 18446744073709551616 else n % (18446744073709551616 : Int)) = _
    simp
  rw [e]
  split <;> omega

theorem wrap64I_eq (n : Int) : wrap64I n = IntKind.wrap .i64 n := by
  cases n with
  | ofNat m =>
    show Bool.rec (motive := fun _ => Int) (IntKind.wrap .i64 (.ofNat m)) (.ofNat m) (Nat.blt m 9223372036854775808) = _
    cases hb : Nat.blt m 9223372036854775808 with
    | false => rfl
    | true =>
      have := (blt_iff _ _).1 hb
      exact (wrap64_in _ (by show (-9223372036854775808 : Int) ≤ (m : Int); omega) (by show (m : Int) ≤ _; omega)).symm
  | negSucc m =>
    show Bool.rec (motive := fun _ => Int) (IntKind.wrap .i64 (.negSucc m)) (.negSucc m) (Nat.blt m 9223372036854775808) = _
    cases hb : Nat.blt m 9223372036854775808 with
    | false => rfl
    | true =>
      have := (blt_iff _ _).1 hb
      show Int.negSucc m = _
      exact (wrap64_in _ (by omega) (by omega)).symm

theorem natI_eq {n : Int} {m : Nat} (h : natI n = some m) : n = m := by
  cases n with
  | ofNat k => cases h; rfl
  | negSucc k => cases h

theorem conc_anyI {v : AV} {n : Int} {c : Value} (h : anyI v = some n) (hc : conc Y ρ v = some c) : ∃ k, c = .int k n := by
  cases v <;> first | (cases h; cases hc; exact ⟨_, rfl⟩) | cases h

theorem conc_kindOf {v : AV} {k : IntKind} {n : Int} {c : Value} (h : kindOf v = some (k, n)) (hc : conc Y ρ v = some c) : c = .int k n := by
  cases v <;> first | (cases h; cases hc; rfl) | cases h

theorem eqKind_eq {k k' : IntKind} (h : eqKind k k' = true) : k = k' := by
  cases k <;> cases k' <;> first | rfl | cases h

/-! ### Strings -/
theorem okBytes_cons (b : Nat) (s : List Nat) : okBytes (b :: s) = true ↔ b < 256 ∧ okBytes s = true := by simp [okBytes]

theorem bytesOf_ok (s : ByteArray) : okBytes (bytesOf s) = true ∧ bytesV (bytesOf s) = s := by
  constructor
  · simp only [okBytes, bytesOf, List.all_map, List.all_eq_true]
    intro x _
    simpa using x.toNat_lt
  · simp only [bytesV, bytesOf, List.map_map]
    have : (UInt8.ofNat ∘ UInt8.toNat) = id := by funext x; simp
    rw [this]
    simp

theorem bytesV_toList (s : List Nat) : (bytesV s).data.toList = s.map UInt8.ofNat := by simp [bytesV]
theorem bytesV_size (s : List Nat) : (bytesV s).size = s.length := by simp [bytesV, ByteArray.size]

theorem ofNat_inj {a b : Nat} (ha : a < 256) (hb : b < 256) (h : UInt8.ofNat a = UInt8.ofNat b) : a = b := by
  have := congrArg UInt8.toNat h
  simpa [Nat.mod_eq_of_lt ha, Nat.mod_eq_of_lt hb] using this

theorem toNat_ofNat {a : Nat} (ha : a < 256) : (UInt8.ofNat a).toNat = a := by simp [Nat.mod_eq_of_lt ha]

theorem eqStr_eq : ∀ (a b : List Nat), okBytes a = true → okBytes b = true → eqStr a b = (a.map UInt8.ofNat == b.map UInt8.ofNat)
  | [], [], _, _ => by simp [eqStr]
  | [], _ :: _, _, _ => by simp [eqStr]
  | _ :: _, [], _, _ => by simp [eqStr]
  | x :: a, y :: b, ha, hb => by
    rw [okBytes_cons] at ha hb
    simp only [eqStr, List.map_cons]
    have ih := eqStr_eq a b ha.2 hb.2
    cases hxy : Nat.beq x y with
    | true =>
      have := Nat.eq_of_beq_eq_true hxy
      subst this
      simp [ih]
    | false =>
      have hne : x ≠ y := Nat.ne_of_beq_eq_false hxy
      have : UInt8.ofNat x ≠ UInt8.ofNat y := fun h => hne (ofNat_inj ha.1 hb.1 h)
      simp [this]

theorem ltStr_eq : ∀ (a b : List Nat), okBytes a = true → okBytes b = true → ltStr a b = Op.bytesLess (a.map UInt8.ofNat) (b.map UInt8.ofNat)
  | [], [], _, _ => rfl
  | [], _ :: _, _, _ => rfl
  | _ :: _, [], _, _ => rfl
  | x :: a, y :: b, ha, hb => by
    rw [okBytes_cons] at ha hb
    simp only [ltStr, List.map_cons, Op.bytesLess]
    have ih := ltStr_eq a b ha.2 hb.2
    have e : (decide (UInt8.ofNat x < UInt8.ofNat y)) = Nat.blt x y := by
      rw [Bool.eq_iff_iff, blt_iff, decide_eq_true_iff, UInt8.lt_iff_toNat_lt, toNat_ofNat ha.1, toNat_ofNat hb.1]
    rw [e]
    cases hlt : Nat.blt x y with
    | true => simp
    | false =>
      cases hxy : Nat.beq x y with
      | true =>
        have := Nat.eq_of_beq_eq_true hxy
        subst this
        simp [ih]
      | false =>
        have hne : x ≠ y := Nat.ne_of_beq_eq_false hxy
        have : UInt8.ofNat x ≠ UInt8.ofNat y := fun h => hne (ofNat_inj ha.1 hb.1 h)
        simp [this]

theorem okBytes_append {a b : List Nat} (ha : okBytes a = true) (hb : okBytes b = true) : okBytes (a ++ b) = true := by
  simp only [okBytes, List.all_append, Bool.and_eq_true] at *
  exact ⟨ha, hb⟩

theorem bytesV_append (a b : List Nat) : bytesV (a ++ b) = bytesV a ++ bytesV b := by
  apply ByteArray.ext
  simp [bytesV]

theorem okBytes_sub {a : List Nat} (ha : okBytes a = true) (l n : Nat) : okBytes ((a.drop l).take n) = true := by
  simp only [okBytes, List.all_eq_true] at *
  intro x hx
  exact ha x (List.mem_of_mem_drop (List.mem_of_mem_take hx))

theorem bytesV_extract (a : List Nat) (l h : Nat) : bytesV ((a.drop l).take (h - l)) = (bytesV a).extract l h := by
  apply ByteArray.ext
  rw [ByteArray.data_extract]
  apply Array.ext'
  simp [bytesV]

theorem conc_str {s : List Nat} {c : Value} (h : conc Y ρ (.str s) = some c) : okBytes s = true ∧ c = .string (bytesV s) := by
  simp only [conc] at h
  split at h
  · rename_i h0; cases h; exact ⟨h0, rfl⟩
  · cases h

theorem conc_of_str {s : List Nat} (h : okBytes s = true) : conc Y ρ (.str s) = some (.string (bytesV s)) := by
  simp [conc, h]

/-! ### Constants -/
theorem ofPlain_ok {v : Value} {a : AV} (h : ofPlain v = some a) : conc Y ρ a = some v ∧ isCell a = true := by
  unfold ofPlain at h
  split at h <;> first | cases h | skip
  · exact ⟨rfl, rfl⟩
  · exact ⟨conc_mkInt _ _, isCell_mkInt _ _⟩
  · rename_i s
    obtain ⟨h1, h2⟩ := bytesOf_ok s
    exact ⟨by rw [conc_of_str h1, h2], rfl⟩
  · exact ⟨rfl, rfl⟩
  · exact ⟨rfl, rfl⟩
  · exact ⟨rfl, rfl⟩
  · exact ⟨rfl, rfl⟩
  · exact ⟨rfl, rfl⟩

theorem ofPlains_ok : ∀ {l : List Value} {a : List AV}, ofPlains l = some a → concs Y ρ a = some l ∧ a.all isCell = true
  | [], a, h => by cases h; exact ⟨rfl, rfl⟩
  | v :: r, a, h => by
    simp only [ofPlains] at h
    split at h
    · cases h
    · rename_i x hx
      split at h
      · cases h
      · rename_i l hl
        cases h
        obtain ⟨h1, h2⟩ := ofPlain_ok (Y := Y) (ρ := ρ) hx
        obtain ⟨h3, h4⟩ := ofPlains_ok hl
        exact ⟨concs_cons.2 ⟨v, r, h1, h3, rfl⟩, by simp [h2, h4]⟩

theorem ofConst_ok {v : Value} {a : AV} (h : ofConst v = some a) : conc Y ρ a = some v := by
  unfold ofConst at h
  split at h
  · split at h
    · rename_i cs l hl
      cases h
      obtain ⟨h1, h2⟩ := ofPlains_ok (Y := Y) (ρ := ρ) hl
      simp [conc, h1, h2]
    · cases h
  · split at h
    · rename_i cs l hl
      cases h
      obtain ⟨h1, _⟩ := ofPlains_ok (Y := Y) (ρ := ρ) hl
      simp [conc, h1]
    · cases h
  · split at h
    · rename_i t v x hx
      cases h
      simp [conc, (ofPlain_ok (Y := Y) (ρ := ρ) hx).1]
    · cases h
  · exact (ofPlain_ok h).1
end basics

/-! ### The tables -/
/-- the fields of a struct, flat: no blank one, one behind the other -/
def flatFields (P : Program) (at_ : TypeId → Option (List Nat)) : List Field → Nat → Option (List Nat)
  | [], _ => some []
  | f :: r, off =>
    if f.name = "_" ∨ f.offset ≠ off then none else
    match at_ f.type, flatFields P at_ r (off + P.cellsOf f.type) with
    | some ks, some l => if P.cellsOf f.type = ks.length ∧ (P.info? f.type).isSome = true then some (ks ++ l) else none
    | _, _ => none

/-- types whose '==' compares flat cells: a bool (0), an integer (1), a string (2), or a struct of such fields: the kinds of the cells -/
def flatAt (P : Program) : Nat → TypeId → Option (List Nat)
  | 0, _ => none
  | d + 1, t =>
    match P.underlying t with
    | some .bool => some [0]
    | some (.int _) => some [1]
    | some .string => some [2]
    | some (.struct fs) => if P.stoodInHeld t then none else flatFields P (flatAt P d) fs.toList 0
    | _ => none

/-- the bound of a piece -/
def AtIs (Y : Sy) (n d : Nat) : Option AV → Prop
  | none => n = d
  | some a => ∃ k, ∀ ρ, conc Y ρ a = some (.int k n)

def OrcOk (Y : Sy) : Orc → Prop
  | .bin op x y z => ∃ cx cy cz, (∀ ρ, conc Y ρ x = some cx) ∧ (∀ ρ, conc Y ρ y = some cy) ∧ (∀ ρ, conc Y ρ z = some cz) ∧ ((∃ a b, cx = .string a ∧ cy = .string b) ∨ ∃ k m k' n, cx = .int k m ∧ cy = .int k' n) ∧ ∀ (P : Program) t w, (binOp op t cx cy).run P w = .ok cz w
  | .cut x lo hi z => ∃ s l h, (∀ ρ, conc Y ρ x = some (.string s)) ∧ l ≤ h ∧ h ≤ s.size ∧ AtIs Y l 0 lo ∧ AtIs Y h s.size hi ∧ ∀ ρ, conc Y ρ z = some (.string (s.extract l h))
  | .idx x i z => ∃ (s : ByteArray) (n : Nat) (k : IntKind) (b : UInt8), (∀ ρ, conc Y ρ x = some (.string s)) ∧ (∀ ρ, conc Y ρ i = some (.int k n)) ∧ s[n]? = some b ∧ ∀ ρ, conc Y ρ z = some (.int .u8 b.toNat)
  | .eqa ks x y b => ∃ x' y' cx cy, (∀ ρ, concs Y ρ x = some cx) ∧ (∀ ρ, concs Y ρ y = some cy) ∧ (∀ ρ, concs Y ρ x' = some cx) ∧ (∀ ρ, concs Y ρ y' = some cy) ∧ eqCells ks x' y' = some b

structure EnvOk (Y : Sy) (E : Env) : Prop where
  ft : ∀ f fn, E.ft.get f = some fn → E.P.funcs[f]? = some fn
  tt : ∀ t i, E.tt.get t = some i → E.P.info? t = some i
  mixed : E.P.follows .mixedOrders = true
  eqs : ∀ t ks, findEq E.eqs t = some ks → flatAt E.P 20 t = some ks ∧ E.P.eqGuardType E.P.depth t = false
  named : ∀ f fn, E.ft.get f = some fn → fn.body.isSome = true → (fn.name == "runtime.NumGoroutine") = false
  some_types : 0 < E.P.types.size
  facts : ∀ e l h, (e, l, h) ∈ E.facts → l ≤ e.val Y ∧ e.val Y ≤ h
  orc : ∀ q, q ∈ E.orc → OrcOk Y q

theorem size_info {E : Env} {t : TypeId} {n : Nat} (hn : E.size t = some n) : ∃ i, E.info t = some i ∧ i.size = n := by
  unfold Env.size at hn
  cases ht : E.tt.get t with
  | none => rw [ht] at hn; cases hn
  | some i => rw [ht] at hn; cases hn; exact ⟨i, ht, rfl⟩

section tables
variable {Y : Sy} {E : Env} {ρ : Rho} {h : H} {w : World} (hE : EnvOk Y E)
include hE

theorem und_ok {t : TypeId} {d : TypeDesc} (hd : E.und t = some d) : E.P.underlying t = some d := by
  unfold Env.und at hd
  cases ht : E.tt.get t with
  | none => rw [ht] at hd; cases hd
  | some i =>
    rw [ht] at hd
    have h1 := hE.tt t i ht
    unfold Program.underlying
    rw [h1]
    dsimp only at hd
    split at hd
    · rename_i n u hdesc
      split at hd
      · rename_i j hj
        cases hd
        have h2 := hE.tt u j hj
        obtain ⟨desc, _⟩ := i
        simp only at hdesc
        subst hdesc
        simp [h2]
      · cases hd
    · rename_i d' hne
      cases hd
      obtain ⟨desc, _⟩ := i
      dsimp only
      cases desc <;> first | rfl | exact absurd rfl (hne _ _)

theorem run_und {t : TypeId} {d : TypeDesc} (hd : E.und t = some d) : (underlying t).run E.P w = .ok d w := by
  simp [underlying, und_ok hE hd]

theorem run_info {t : TypeId} {i : TypeInfo} (hi : E.info t = some i) : (typeInfo t).run E.P w = .ok i w := by
  simp [typeInfo, hE.tt t i hi]

theorem run_size {t : TypeId} {n : Nat} (hn : E.size t = some n) : (sizeOf t).run E.P w = .ok n w := by
  obtain ⟨i, h1, h2⟩ := size_info hn
  simp [sizeOf, run_info hE h1, h2]

theorem run_zero {t : TypeId} {z : AV} (hz : E.zero t = some z) : ∃ cz, (zeroValue t).run E.P w = .ok cz w ∧ conc Y ρ z = some cz := by
  unfold Env.zero at hz
  cases ht : E.tt.get t with
  | none => rw [ht] at hz; cases hz
  | some i =>
    rw [ht] at hz
    dsimp only at hz
    cases hzz : i.zero with
    | none => rw [hzz] at hz; cases hz
    | some v =>
      rw [hzz] at hz
      exact ⟨v, by simp [zeroValue, run_info hE ht, hzz], ofConst_ok hz⟩

theorem run_zeros {t : TypeId} {z : List AV} (hz : E.zeros t = some z) : ∃ cz cs, (zeroValue t).run E.P w = .ok cz w ∧ concs Y ρ z = some cs ∧ cz.cells = cs.toArray ∧ z.all isCell = true := by
  unfold Env.zeros at hz
  cases h0 : E.zero t with
  | none => rw [h0] at hz; cases hz
  | some z0 =>
    rw [h0] at hz
    obtain ⟨cz, h1, h2⟩ := run_zero (Y := Y) (ρ := ρ) (w := w) hE h0
    obtain ⟨cs, h3, h4, h5⟩ := cellsOf_conc hz h2
    exact ⟨cz, cs, h1, h3, h4, h5⟩

theorem run_isAgg {t : TypeId} {d : TypeDesc} (hd : E.und t = some d) : (isAgg t).run E.P w = .ok (isAggD d) w := by
  simp only [isAgg, Sem.run_bind, run_und hE hd, Result.andThen_ok]
  cases d <;> rfl

end tables
end Go.AE
