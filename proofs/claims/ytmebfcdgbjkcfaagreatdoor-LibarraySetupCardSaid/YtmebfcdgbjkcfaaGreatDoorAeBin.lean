/-
  Binary operations, slices, literals.
-/
import Derived.Test.YtmebfcdgbjkcfaaGreatDoorAeEq
namespace Go.AE

section
variable {Y : Sy} {E : Env} {ρ : Rho} {w : World}

theorem someI_ok {k : IntKind} {n : Int} {v : AV} (h : someI k n = some v) : conc Y ρ v = some (.int k n) := by
  simp only [someI, forceI_eq] at h
  cases h
  exact conc_mkInt _ _

theorem some64_ok {n : Int} {v : AV} (h : some64 n = some v) : conc Y ρ v = some (.int .i64 (IntKind.wrap .i64 n)) := by
  simp only [some64, forceI_eq, wrap64I_eq] at h
  cases h
  rfl

theorem not_decide (a b : Int) : (!decide (a < b)) = decide (b ≤ a) := by
  by_cases h : a < b <;> simp [h] <;> omega

theorem op64_ok {op : BinOp} {a b : Int} {v : AV} {t : TypeId} (hs : isShift op = false) (h : op64 op a b = some v) : Yields Y E ρ w (binOp op t (.int .i64 a) (.int .i64 b)) v := by
  cases op <;> simp only [op64] at h
  case add => rw [addI_eq] at h; exact ⟨_, by simp [binOp, Op.intArith], some64_ok h⟩
  case sub => rw [subI_eq] at h; exact ⟨_, by simp [binOp, Op.intArith], some64_ok h⟩
  case mul => rw [mulI_eq] at h; exact ⟨_, by simp [binOp, Op.intArith], some64_ok h⟩
  case quo =>
    rw [eqI_eq] at h
    split at h
    · cases h
    · rename_i hb
      have hb' : ¬ b = 0 := by simpa using hb
      exact ⟨_, by simp [binOp, Op.intDiv, hb'], some64_ok h⟩
  case rem =>
    rw [eqI_eq] at h
    split at h
    · cases h
    · rename_i hb
      have hb' : ¬ b = 0 := by simpa using hb
      exact ⟨_, by simp [binOp, Op.intDiv, hb'], someI_ok h⟩
  case and => exact ⟨_, by simp [binOp, Op.intBits]; rfl, someI_ok h⟩
  case or => exact ⟨_, by simp [binOp, Op.intBits]; rfl, someI_ok h⟩
  case xor => exact ⟨_, by simp [binOp, Op.intBits]; rfl, someI_ok h⟩
  case andNot => exact ⟨_, by simp [binOp, Op.intBits]; rfl, someI_ok h⟩
  case eql => cases h; exact ⟨.bool (a == b), by simp [binOp, Op.intCmp], by simp [conc, eqI_eq]⟩
  case neq => cases h; exact ⟨.bool (a != b), by simp [binOp, Op.intCmp], by simp [conc, eqI_eq, bne]⟩
  case lss => cases h; exact ⟨.bool (decide (a < b)), by simp [binOp, Op.intCmp], by simp [conc, ltI_eq]⟩
  case leq => cases h; exact ⟨.bool (decide (a ≤ b)), by simp [binOp, Op.intCmp], by simp [conc, ltI_eq, not_decide]⟩
  case gtr => cases h; exact ⟨.bool (decide (a > b)), by simp [binOp, Op.intCmp], by simp [conc, ltI_eq]⟩
  case geq => cases h; exact ⟨.bool (decide (a ≥ b)), by simp [binOp, Op.intCmp], by simp [conc, ltI_eq, not_decide]⟩
  case shl => cases hs
  case shr => cases hs

theorem intOp_ok {op : BinOp} {k : IntKind} {a b : Int} {v : AV} {t : TypeId} (h : intOpA op k a b = some v) : Yields Y E ρ w (binOp op t (.int k a) (.int k b)) v := by
  cases op <;> simp only [intOpA] at h
  case add => exact ⟨_, by simp [binOp, Op.intArith], someI_ok h⟩
  case sub => exact ⟨_, by simp [binOp, Op.intArith], someI_ok h⟩
  case mul => exact ⟨_, by simp [binOp, Op.intArith], someI_ok h⟩
  case quo =>
    rw [eqI_eq] at h
    split at h
    · cases h
    · rename_i hb
      have hb' : ¬ b = 0 := by simpa using hb
      exact ⟨_, by simp [binOp, Op.intDiv, hb'], someI_ok h⟩
  case rem =>
    rw [eqI_eq] at h
    split at h
    · cases h
    · rename_i hb
      have hb' : ¬ b = 0 := by simpa using hb
      exact ⟨_, by simp [binOp, Op.intDiv, hb'], someI_ok h⟩
  case and => exact ⟨_, by simp [binOp, Op.intBits], someI_ok h⟩
  case or => exact ⟨_, by simp [binOp, Op.intBits], someI_ok h⟩
  case xor => exact ⟨_, by simp [binOp, Op.intBits], someI_ok h⟩
  case andNot => exact ⟨_, by simp [binOp, Op.intBits], someI_ok h⟩
  case eql => cases h; exact ⟨.bool (a == b), by simp [binOp, Op.intCmp], by simp [conc, eqI_eq]⟩
  case neq => cases h; exact ⟨.bool (a != b), by simp [binOp, Op.intCmp], by simp [conc, eqI_eq, bne]⟩
  case lss => cases h; exact ⟨.bool (decide (a < b)), by simp [binOp, Op.intCmp], by simp [conc, ltI_eq]⟩
  case leq => cases h; exact ⟨.bool (decide (a ≤ b)), by simp [binOp, Op.intCmp], by simp [conc, ltI_eq, not_decide]⟩
  case gtr => cases h; exact ⟨.bool (decide (a > b)), by simp [binOp, Op.intCmp], by simp [conc, ltI_eq]⟩
  case geq => cases h; exact ⟨.bool (decide (a ≥ b)), by simp [binOp, Op.intCmp], by simp [conc, ltI_eq, not_decide]⟩
  case shl => cases h
  case shr => cases h

theorem shift_ok {op : BinOp} {k k' : IntKind} {a b : Int} {v : AV} {t : TypeId} (h : shiftA op k a b = some v) : Yields Y E ρ w (binOp op t (.int k a) (.int k' b)) v := by
  unfold shiftA at h
  split at h
  · cases h
  · rename_i y hy
    have := natI_eq hy
    subst this
    have hb : ¬ ((y : Int) < 0) := by omega
    split at h
    · refine ⟨_, ?_, someI_ok h⟩
      simp only [binOp, Op.shift, hb, if_false, Int.toNat_natCast, Sem.run_pure]
      simp
    · refine ⟨_, ?_, someI_ok h⟩
      simp only [binOp, Op.shift, hb, if_false, Int.toNat_natCast, Sem.run_pure]
      simp
    · cases h

theorem str_ok {op : BinOp} {a b : List Nat} {v : AV} {t : TypeId} (h : strOpA op a b = some v) (ha : okBytes a = true) (hb : okBytes b = true) : Yields Y E ρ w (binOp op t (.string (bytesV a)) (.string (bytesV b))) v := by
  have heq := eqStr_bytes ha hb
  have hlt : ltStr a b = Op.bytesLess (bytesV a).toList (bytesV b).toList := by
    rw [ByteArray.toList_eq, ByteArray.toList_eq, bytesV_toList, bytesV_toList, ltStr_eq a b ha hb]
  cases op <;> simp only [strOpA] at h
  case add =>
    split at h
    · rename_i hle
      cases h
      have hle' := Nat.le_of_ble_eq_true hle
      refine ⟨.string (bytesV a ++ bytesV b), ?_, by rw [conc_of_str (okBytes_append ha hb), bytesV_append]⟩
      have hsz : ¬ (((bytesV a).size + (bytesV b).size : Nat) : Int) > IntKind.i64.max := by
        rw [bytesV_size, bytesV_size]
        have : IntKind.i64.max = 9223372036854775807 := by decide
        rw [this]
        have h' : a.length + b.length ≤ 4611686018427387904 := hle'
        omega
      simp only [binOp, Op.stringOp, hsz, if_false, Sem.run_pure]
    · cases h
  case eql => cases h; exact ⟨.bool ((bytesV a).toList == (bytesV b).toList), by simp [binOp, Op.stringOp], by simp [conc, heq]⟩
  case neq => cases h; exact ⟨.bool !((bytesV a).toList == (bytesV b).toList), by simp [binOp, Op.stringOp], by simp [conc, heq]⟩
  case lss => cases h; exact ⟨.bool (Op.bytesLess (bytesV a).toList (bytesV b).toList), by simp [binOp, Op.stringOp], by simp [conc, hlt]⟩
  case leq => cases h; exact ⟨.bool (Op.bytesLess (bytesV a).toList (bytesV b).toList || (bytesV a).toList == (bytesV b).toList), by simp [binOp, Op.stringOp], by simp [conc, hlt, heq]⟩
  case gtr => cases h; exact ⟨.bool !(Op.bytesLess (bytesV a).toList (bytesV b).toList || (bytesV a).toList == (bytesV b).toList), by simp [binOp, Op.stringOp], by simp [conc, hlt, heq]⟩
  case geq => cases h; exact ⟨.bool !(Op.bytesLess (bytesV a).toList (bytesV b).toList), by simp [binOp, Op.stringOp], by simp [conc, hlt]⟩
  all_goals cases h

def otherV : Value → Bool
  | .int _ _ => false
  | .string _ => false
  | .float _ _ => false
  | .complex _ _ _ => false
  | _ => true

def otherA : AV → Bool
  | .i64 _ => false
  | .int _ _ => false
  | .str _ => false
  | .sint _ _ _ _ => false
  | .sstr _ _ _ => false
  | .opq _ => false
  | .when _ _ _ => false
  | _ => true

def opqA : AV → Bool
  | .opq _ => true
  | .when _ _ _ => true
  | _ => false

theorem conc_other {v : AV} {c : Value} (h : otherA v = true) (hc : conc Y ρ v = some c) : otherV c = true := by
  cases v with
  | i64 n => cases h
  | int k n => cases h
  | str s => cases h
  | sint k e lo hi => cases h
  | sstr i lo hi => cases h
  | ptr b o => obtain ⟨L, _, rfl⟩ := conc_ptr hc; rfl
  | slice b o n c => obtain ⟨L, _, rfl⟩ := conc_slice hc; rfl
  | gslice b o n c => obtain ⟨L, _, rfl⟩ := conc_gslice hc; rfl
  | eslice b o l s p => obtain ⟨_, _, rfl⟩ := conc_eslice hc; rfl
  | oslice i => cases conc_oslice hc; rfl
  | opq i => cases h
  | «when» e ks u => cases h
  | uslice i b o lo hi => cases (conc_uslice hc).1; rfl
  | map b => obtain ⟨L, _, rfl⟩ := conc_map hc; rfl
  | iface t u => obtain ⟨c, _, rfl⟩ := conc_iface hc; rfl
  | agg l => obtain ⟨cs, _, rfl, _⟩ := conc_agg hc; rfl
  | tuple l => obtain ⟨cs, _, rfl⟩ := conc_tuple hc; rfl
  | func fn a c =>
    simp only [conc] at hc
    split at hc
    · cases hc; rfl
    · cases hc
  | _ => cases hc; rfl

/-- '==' that is no number's and no string's -/
theorem binOp_eql {t : TypeId} {x y : Value} (hx : otherV x = true) :
    binOp .eql t x y = (do pure (.bool (← Op.equal t x y))) ∧ binOp .neq t x y = (do pure (.bool (!(← Op.equal t x y)))) := by
  cases x with
  | int k n => cases hx
  | string s => cases hx
  | float k n => cases hx
  | complex k n m => cases hx
  | _ => exact ⟨rfl, rfl⟩

theorem eqA_other {t : TypeId} {x y : AV} {b : Bool} (h : eqA E t x y = some b) : (x = .niliface → y ≠ .niliface) ∧ (∀ l m, x = .agg l → y = .agg m → ∃ ks, findEq E.eqs t = some ks) := by
  constructor
  · rintro rfl rfl
    unfold eqA at h
    split at h <;> first | (cases h; done) | (simp at h; done) | skip
    split at h
    · rename_i k _
      unfold eqKd at h
      split at h <;> first | (cases h; done) | (simp [eqBool, eqInt, eqText] at h; done)
    · cases h
  · rintro l m rfl rfl
    unfold eqA at h
    split at h <;> first | (cases h; done) | (simp at h; done) | skip
    · dsimp only at h
      split at h
      · rename_i ks hks; exact ⟨ks, hks⟩
      · cases h
    · split at h
      · rename_i k _
        unfold eqKd at h
        split at h <;> first | (cases h; done) | (simp [eqBool, eqInt, eqText] at h; done)
      · cases h

theorem eqKd_opq {k : Nat} {x y : AV} {b : Bool} (h : eqKd k x y = some b) : opqA x = false ∧ opqA y = false := by
  constructor
  · cases x <;> first | rfl | skip
    all_goals
      unfold eqKd at h
      split at h
      · cases y <;> cases h
      · cases y <;> cases h
      · cases y <;> cases h
      · cases h
  · cases y <;> first | rfl | skip
    all_goals
      unfold eqKd at h
      split at h
      · cases x <;> cases h
      · cases x <;> cases h
      · cases x <;> cases h
      · cases h

theorem eqA_opq {t : TypeId} {x y : AV} {b : Bool} (h : eqA E t x y = some b) : opqA x = false ∧ opqA y = false := by
  constructor
  · cases hx : opqA x with
    | false => rfl
    | true =>
      exfalso
      cases x <;> first | (cases hx; done) | skip
      all_goals
        unfold eqA at h
        split at h
        · cases y <;> cases h
        · cases y <;> cases h
        · cases y <;> cases h
        · cases y <;> cases h
        · cases y <;> cases h
        · cases y <;> cases h
        · split at h
          · exact absurd (eqKd_opq h).1 (by simp [opqA])
          · cases h
        · cases h
  · cases hy : opqA y with
    | false => rfl
    | true =>
      exfalso
      cases y <;> first | (cases hy; done) | skip
      all_goals
        unfold eqA at h
        split at h
        · cases x <;> cases h
        · cases x <;> cases h
        · cases x <;> cases h
        · cases x <;> cases h
        · cases x <;> cases h
        · cases x <;> cases h
        · split at h
          · exact absurd (eqKd_opq h).2 (by simp [opqA])
          · cases h
        · cases h

theorem eqGuard_ok (hE : EnvOk Y E) {op : BinOp} {t : TypeId} {x y : AV} {cx cy : Value} {ox oy : Operand} {b : Bool} (h : eqA E t x y = some b) (hx : conc Y ρ x = some cx) (hy : conc Y ρ y = some cy) :
    (eqGuard op t ox oy cx cy).run E.P w = .ok () w := by
  obtain ⟨h1, h2⟩ := eqA_other h
  obtain ⟨o1, o2⟩ := eqA_opq h
  by_cases ha : ∃ l m, x = .agg l ∧ y = .agg m
  · obtain ⟨l, m, rfl, rfl⟩ := ha
    obtain ⟨ks, hks⟩ := h2 l m rfl rfl
    obtain ⟨_, hg⟩ := hE.eqs t ks hks
    obtain ⟨cs, _, rfl, _⟩ := conc_agg hx
    obtain ⟨ds, _, rfl, _⟩ := conc_agg hy
    exact run_eqGuard_agg w op t ox oy _ _ hg
  · refine eqGuard_plain (fun hn => ?_) (fun l m hlm => ?_)
    · obtain ⟨rfl, rfl⟩ := hn
      have e1 : x = .niliface := by
        cases x <;> first | (cases o1; done) | skip
        all_goals simp only [conc] at hx
        all_goals first | rfl | (cases hx; done) | (rw [Option.map_eq_some_iff] at hx; obtain ⟨_, _, e⟩ := hx; cases e; done) | (rw [Option.bind_eq_some_iff] at hx; obtain ⟨_, _, e⟩ := hx; split at e <;> cases e; done) | (rw [Option.bind_eq_some_iff] at hx; obtain ⟨_, _, e⟩ := hx; split at e <;> first | (cases e; done) | (split at e <;> cases e; done)) | (split at hx <;> first | (cases hx; done) | (split at hx <;> first | (cases hx; done) | (rw [Option.bind_eq_some_iff] at hx; obtain ⟨_, _, e⟩ := hx; split at e <;> cases e; done)))
      have e2 : y = .niliface := by
        cases y <;> first | (cases o2; done) | skip
        all_goals simp only [conc] at hy
        all_goals first | rfl | (cases hy; done) | (rw [Option.map_eq_some_iff] at hy; obtain ⟨_, _, e⟩ := hy; cases e; done) | (rw [Option.bind_eq_some_iff] at hy; obtain ⟨_, _, e⟩ := hy; split at e <;> cases e; done) | (rw [Option.bind_eq_some_iff] at hy; obtain ⟨_, _, e⟩ := hy; split at e <;> first | (cases e; done) | (split at e <;> cases e; done)) | (split at hy <;> first | (cases hy; done) | (split at hy <;> first | (cases hy; done) | (rw [Option.bind_eq_some_iff] at hy; obtain ⟨_, _, e⟩ := hy; split at e <;> cases e; done)))
      exact h1 e1 e2
    · obtain ⟨rfl, rfl⟩ := hlm
      have e1 : ∃ l, x = .agg l := by
        cases x <;> first | (cases o1; done) | skip
        all_goals simp only [conc] at hx
        all_goals first | exact ⟨_, rfl⟩ | (cases hx; done) | (rw [Option.map_eq_some_iff] at hx; obtain ⟨_, _, e⟩ := hx; cases e; done) | (rw [Option.bind_eq_some_iff] at hx; obtain ⟨_, _, e⟩ := hx; split at e <;> cases e; done) | (rw [Option.bind_eq_some_iff] at hx; obtain ⟨_, _, e⟩ := hx; split at e <;> first | (cases e; done) | (split at e <;> cases e; done)) | (split at hx <;> first | (cases hx; done) | (split at hx <;> first | (cases hx; done) | (rw [Option.bind_eq_some_iff] at hx; obtain ⟨_, _, e⟩ := hx; split at e <;> cases e; done)))
      have e2 : ∃ l, y = .agg l := by
        cases y <;> first | (cases o2; done) | skip
        all_goals simp only [conc] at hy
        all_goals first | exact ⟨_, rfl⟩ | (cases hy; done) | (rw [Option.map_eq_some_iff] at hy; obtain ⟨_, _, e⟩ := hy; cases e; done) | (rw [Option.bind_eq_some_iff] at hy; obtain ⟨_, _, e⟩ := hy; split at e <;> cases e; done) | (rw [Option.bind_eq_some_iff] at hy; obtain ⟨_, _, e⟩ := hy; split at e <;> first | (cases e; done) | (split at e <;> cases e; done)) | (split at hy <;> first | (cases hy; done) | (split at hy <;> first | (cases hy; done) | (rw [Option.bind_eq_some_iff] at hy; obtain ⟨_, _, e⟩ := hy; split at e <;> cases e; done)))
      obtain ⟨l, rfl⟩ := e1
      obtain ⟨m, rfl⟩ := e2
      exact ha ⟨l, m, rfl, rfl⟩

theorem eqGuard_int {op : BinOp} {t : TypeId} {ox oy : Operand} {k k' : IntKind} {a b : Int} : (eqGuard op t ox oy (.int k a) (.int k' b)).run E.P w = .ok () w :=
  eqGuard_plain (fun h => by cases h.1) (fun _ _ h => by cases h.1)

theorem eqGuard_str {op : BinOp} {t : TypeId} {ox oy : Operand} {a b : ByteArray} : (eqGuard op t ox oy (.string a) (.string b)).run E.P w = .ok () w :=
  eqGuard_plain (fun h => by cases h.1) (fun _ _ h => by cases h.1)

theorem symOf_none {v : AV} (h : symOf v = none) : otherA v = true ∨ opqA v = true ∨ (∃ s, v = .str s) ∨ (∃ i lo hi, v = .sstr i lo hi) := by
  cases v <;> first | (cases h; done) | exact .inl rfl | exact .inr (.inl rfl) | exact .inr (.inr (.inl ⟨_, rfl⟩)) | exact .inr (.inr (.inr ⟨_, _, _, rfl⟩))

theorem equal_nilIface (hE : EnvOk Y E) {t : TypeId} {ms : Array (String × TypeId)} (hd : E.und t = some (.interface ms)) : (Op.equal t .nilIface .nilIface).run E.P w = .ok true w := by
  unfold Op.equal
  obtain ⟨n, e0⟩ : ∃ n, Op.maxDepth = n + 1 := ⟨9999, rfl⟩
  rw [e0, Op.equalIn]
  simp only [Sem.run_bind, run_und hE hd, Result.andThen_ok]
  rfl

theorem eqInt_sym {x y : AV} {b : Bool} (h : eqInt x y = some b) : (∃ p, symOf x = some p) ∧ ∃ q, symOf y = some q := by
  unfold eqInt at h
  split at h
  · exact ⟨⟨_, rfl⟩, _, rfl⟩
  · exact ⟨⟨_, rfl⟩, _, rfl⟩
  · unfold eqSyms at h
    split at h
    · rename_i h1 h2
      exact ⟨⟨_, h1⟩, _, h2⟩
    · cases h

theorem eqA_sym {t : TypeId} {x y : AV} {b : Bool} (h : eqA E t x y = some b) (hy : symOf x = none ∨ symOf y = none) : symOf x = none := by
  rcases hy with hy | hy
  · exact hy
  have kd : ∀ k, eqKd k x y = some b → symOf x = none := by
    intro k hk
    unfold eqKd at hk
    split at hk
    · unfold eqBool at hk; split at hk <;> first | rfl | (cases hk; done)
    · obtain ⟨_, q, hq⟩ := eqInt_sym hk
      rw [hy] at hq; cases hq
    · unfold eqText at hk; split at hk <;> first | rfl | (cases hk; done)
    · cases hk
  unfold eqA at h
  split at h
  · split at h <;> first | rfl | (cases h; done)
  · split at h <;> first | rfl | (cases h; done)
  · split at h <;> first | rfl | (cases h; done)
  · split at h <;> first | rfl | (cases h; done)
  · split at h <;> first | rfl | (cases h; done)
  · split at h <;> first | rfl | (cases h; done)
  · split at h
    · exact kd _ h
    · cases h
  · cases h

/-- strings -/
theorem eqText_ok {x y : AV} {cx cy : Value} {b : Bool} (hk : eqText x y = some b) (hx : conc Y ρ x = some cx) (hy : conc Y ρ y = some cy) : ∃ s u, cx = .string s ∧ cy = .string u ∧ b = (s.toList == u.toList) := by
  unfold eqText at hk
  split at hk
  · cases hk
    obtain ⟨h1, rfl⟩ := conc_str hx
    obtain ⟨h2, rfl⟩ := conc_str hy
    exact ⟨_, _, rfl, rfl, eqStr_bytes h1 h2⟩
  · obtain ⟨rfl, a1, a2⟩ := conc_sstr hx
    obtain ⟨rfl, b1, b2⟩ := conc_sstr hy
    split at hk
    · rename_i hij
      have := Nat.eq_of_beq_eq_true hij
      subst this
      cases hk
      exact ⟨_, _, rfl, rfl, by simp⟩
    · exact ⟨_, _, rfl, rfl, eqLen_ok hk a1 a2 b1 b2⟩
  · have hne := conc_sstr_ne hx
    obtain ⟨rfl, a1, a2⟩ := conc_sstr hx
    obtain ⟨_, rfl⟩ := conc_str hy
    exact ⟨_, _, rfl, rfl, (eqStrC_ok hk a1 a2 hne).1⟩
  · have hne := conc_sstr_ne hy
    obtain ⟨_, rfl⟩ := conc_str hx
    obtain ⟨rfl, a1, a2⟩ := conc_sstr hy
    exact ⟨_, _, rfl, rfl, (eqStrC_ok hk a1 a2 hne).2⟩
  · cases hk

/-- strings, by eqA -/
theorem eqA_text {t : TypeId} {x y : AV} {cx cy : Value} {b : Bool} (hx0 : (∃ s, x = .str s) ∨ ∃ i lo hi, x = .sstr i lo hi) (h : eqA E t x y = some b) (hx : conc Y ρ x = some cx) (hy : conc Y ρ y = some cy) :
    ∃ s u, cx = .string s ∧ cy = .string u ∧ b = (s.toList == u.toList) := by
  have key : ∀ k, eqKd k x y = some b → ∃ s u, cx = .string s ∧ cy = .string u ∧ b = (s.toList == u.toList) := by
    intro k hk
    unfold eqKd at hk
    split at hk
    · exfalso
      unfold eqBool at hk
      rcases hx0 with ⟨s, rfl⟩ | ⟨i, lo, hi, rfl⟩ <;> simp at hk
    · exfalso
      obtain ⟨⟨p, hp⟩, _⟩ := eqInt_sym hk
      rcases hx0 with ⟨s, rfl⟩ | ⟨i, lo, hi, rfl⟩ <;> cases hp
    · exact eqText_ok hk hx hy
    · cases hk
  unfold eqA at h
  rcases hx0 with ⟨s, rfl⟩ | ⟨i, lo, hi, rfl⟩
  · split at h <;> first | (cases h; done) | (simp at h; done) | skip
    split at h
    · exact key _ h
    · cases h
  · split at h <;> first | (cases h; done) | (simp at h; done) | skip
    split at h
    · exact key _ h
    · cases h

/-- '==' and '!=' by eqA -/
theorem eqA_bin (hE : EnvOk Y E) {t : TypeId} {x y : AV} {cx cy : Value} {b : Bool} (hk : symOf x = none) (h : eqA E t x y = some b) (hx : conc Y ρ x = some cx) (hy : conc Y ρ y = some cy) :
    (binOp .eql t cx cy).run E.P w = .ok (.bool b) w ∧ (binOp .neq t cx cy).run E.P w = .ok (.bool !b) w := by
  rcases symOf_none hk with h1 | h1 | h1
  · obtain ⟨e1, e2⟩ := binOp_eql (t := t) (y := cy) (conc_other h1 hx)
    rw [e1, e2]
    have := eqA_ok (w := w) hE h hx hy
    exact ⟨by simp [this], by simp [this]⟩
  · exact absurd h1 (by rw [(eqA_opq h).1]; simp)
  · obtain ⟨s, u, rfl, rfl, rfl⟩ := eqA_text h1 h hx hy
    exact ⟨by simp [binOp, Op.stringOp], by simp [binOp, Op.stringOp]⟩

theorem binSlowK_ok (hE : EnvOk Y E) {op : BinOp} {t : TypeId} {ox oy : Operand} {x y v : AV} {cx cy : Value} (h : binSlowK E op t (isConstO ox || isConstO oy) x y = some v) (hx : conc Y ρ x = some cx) (hy : conc Y ρ y = some cy) :
    Yields Y E ρ w (do eqGuard op t ox oy cx cy; binOp op t cx cy) v := by
  unfold binSlowK at h
  split at h
  · rename_i k a k' b hk hk'
    have := conc_kindOf hk hx
    subst this
    have := conc_kindOf hk' hy
    subst this
    split at h
    · obtain ⟨cv, h1, h2⟩ := shift_ok (Y := Y) (ρ := ρ) (w := w) (E := E) (t := t) (k' := k') h
      exact ⟨cv, by simp [eqGuard_int, h1], h2⟩
    · split at h
      · rename_i hkk
        have := eqKind_eq hkk
        subst this
        obtain ⟨cv, h1, h2⟩ := intOp_ok (Y := Y) (ρ := ρ) (w := w) (E := E) (t := t) h
        exact ⟨cv, by simp [eqGuard_int, h1], h2⟩
      · cases h
  · split at h
    · rename_i p q hp hq
      obtain ⟨⟨k, m, k', n, rfl, rfl⟩, cv, h1, h2⟩ := symOp_ok (w := w) (t := t) hE hp hq hx hy h
      exact ⟨cv, by simp [eqGuard_int, h1], h2⟩
    rename_i hno
    have hk : symOf x = none ∨ symOf y = none := by
      cases h1 : symOf x with
      | none => exact .inl rfl
      | some p =>
        cases h2 : symOf y with
        | none => exact .inr rfl
        | some q => exact absurd h2 (hno p q h1)
    split at h
    · obtain ⟨ha, rfl⟩ := conc_str hx
      obtain ⟨hb, rfl⟩ := conc_str hy
      obtain ⟨cv, h1, h2⟩ := str_ok (Y := Y) (ρ := ρ) (w := w) (E := E) (t := t) h ha hb
      exact ⟨cv, by simp [eqGuard_str, h1], h2⟩
    · split at h
      · rename_i ms hc hd
        cases h
        cases hx
        cases hy
        refine ⟨.bool true, ?_, rfl⟩
        simp only [Sem.run_bind, eqGuard_const hc, Result.andThen_ok, (binOp_eql (t := t) (x := .nilIface) (y := .nilIface) rfl).1, equal_nilIface hE hd, Sem.run_pure]
      · cases h
    · split at h
      · rename_i ms hc hd
        cases h
        cases hx
        cases hy
        refine ⟨.bool false, ?_, rfl⟩
        simp only [Sem.run_bind, eqGuard_const hc, Result.andThen_ok, (binOp_eql (t := t) (x := .nilIface) (y := .nilIface) rfl).2, equal_nilIface hE hd, Sem.run_pure, Bool.not_true]
      · cases h
    · split at h
      · rename_i b hb
        cases h
        obtain ⟨h1, _⟩ := eqA_bin (w := w) hE (eqA_sym hb hk) hb hx hy
        exact ⟨.bool b, by simp [eqGuard_ok hE hb hx hy, h1], rfl⟩
      · cases h
    · split at h
      · rename_i b hb
        cases h
        obtain ⟨_, h1⟩ := eqA_bin (w := w) hE (eqA_sym hb hk) hb hx hy
        exact ⟨.bool !b, by simp [eqGuard_ok hE hb hx hy, h1], rfl⟩
      · cases h
    · cases h

theorem orcBin_ok (hE : EnvOk Y E) {op : BinOp} {t : TypeId} {ox oy : Operand} {x y v : AV} {cx cy : Value} (h : orcBin op x y E.orc = some v) (hx : conc Y ρ x = some cx) (hy : conc Y ρ y = some cy) :
    Yields Y E ρ w (do eqGuard op t ox oy cx cy; binOp op t cx cy) v := by
  obtain ⟨dx, dy, dz, h1, h2, h3, h4, h5⟩ := hE.orc _ (orcBin_mem h)
  obtain rfl := Option.some.inj (hx.symm.trans (h1 ρ))
  obtain rfl := Option.some.inj (hy.symm.trans (h2 ρ))
  refine ⟨dz, ?_, h3 ρ⟩
  rcases h4 with ⟨a, b, rfl, rfl⟩ | ⟨k, m, k', n, rfl, rfl⟩
  · simp only [Sem.run_bind, eqGuard_str, Result.andThen_ok, h5]
  · simp only [Sem.run_bind, eqGuard_int, Result.andThen_ok, h5]

theorem binSlow_ok (hE : EnvOk Y E) {op : BinOp} {t : TypeId} {ox oy : Operand} {x y v : AV} {cx cy : Value} (h : binSlow E op t (isConstO ox || isConstO oy) x y = some v) (hx : conc Y ρ x = some cx) (hy : conc Y ρ y = some cy) :
    Yields Y E ρ w (do eqGuard op t ox oy cx cy; binOp op t cx cy) v := by
  unfold binSlow at h
  split at h
  · rename_i h0
    cases h
    exact binSlowK_ok hE h0 hx hy
  · exact orcBin_ok hE h hx hy

/-- a binary operation -/
theorem bin_ok (hE : EnvOk Y E) {op : BinOp} {t : TypeId} {ox oy : Operand} {x y v : AV} {cx cy : Value} (h : binOpA E op t (isConstO ox || isConstO oy) x y = some v) (hx : conc Y ρ x = some cx) (hy : conc Y ρ y = some cy) :
    Yields Y E ρ w (do eqGuard op t ox oy cx cy; binOp op t cx cy) v := by
  unfold binOpA at h
  cases hs : isShift op with
  | true => rw [hs] at h; exact binSlow_ok hE h hx hy
  | false =>
    rw [hs] at h
    dsimp only at h
    cases ha : asI x with
    | none => rw [ha] at h; exact binSlow_ok hE h hx hy
    | some a =>
      rw [ha] at h
      dsimp only at h
      cases hb : asI y with
      | none => rw [hb] at h; exact binSlow_ok hE h hx hy
      | some b =>
        rw [hb] at h
        dsimp only at h
        rw [asI_eq ha] at hx
        rw [asI_eq hb] at hy
        cases hx
        cases hy
        obtain ⟨cv, h1, h2⟩ := op64_ok (Y := Y) (ρ := ρ) (w := w) (E := E) (t := t) hs h
        exact ⟨cv, by simp [eqGuard_int, h1], h2⟩

end
end Go.AE
