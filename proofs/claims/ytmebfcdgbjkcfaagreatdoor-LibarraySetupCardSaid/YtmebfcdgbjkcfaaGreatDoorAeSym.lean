/-
  Numbers and strings that are not known.
-/
import Derived.Test.YtmebfcdgbjkcfaaGreatDoorAeTab
import Derived.WideShapes4
import Derived.IntWalk
namespace Go.AE

section
variable {Y : Sy} {E : Env} {ρ : Rho} {w : World}

theorem kLo_eq (k : IntKind) : kLo k = k.min := by cases k <;> decide
theorem kHi_eq (k : IntKind) : kHi k = k.max := by cases k <;> decide

theorem wrap_in (k : IntKind) (n : Int) : kLo k ≤ k.wrap n ∧ k.wrap n ≤ kHi k := by
  rw [kLo_eq, kHi_eq]
  exact (Lit.wf_int_iff k _).1 (WideShapes.wf_wrap k n)

theorem wrap_id {k : IntKind} {n : Int} (h1 : kLo k ≤ n) (h2 : n ≤ kHi k) : k.wrap n = n := by
  cases k
  · exact IntWalk.i8_in n ⟨h1, h2⟩
  · exact IntWalk.i16_in n ⟨h1, h2⟩
  · exact IntWalk.i32_in n ⟨h1, h2⟩
  · exact IntWalk.i64_in n ⟨h1, h2⟩
  · exact IntWalk.u8_in n ⟨h1, h2⟩
  · exact IntWalk.u16_in n ⟨h1, h2⟩
  · exact IntWalk.u32_in n ⟨h1, h2⟩
  · exact IntWalk.u64_in n ⟨h1, h2⟩

theorem eqOp_eq {a b : BinOp} (h : eqOp a b = true) : a = b := by
  unfold eqOp at h
  split at h <;> first | rfl | cases h

theorem eqX_eq : ∀ {a b : SX}, eqX a b = true → a = b := by
  intro a
  induction a with
  | var i => intro b h; cases b <;> simp only [eqX] at h <;> first | (cases h; done) | exact congrArg _ (Nat.eq_of_beq_eq_true h)
  | len i => intro b h; cases b <;> simp only [eqX] at h <;> first | (cases h; done) | exact congrArg _ (Nat.eq_of_beq_eq_true h)
  | con n => intro b h; cases b <;> simp only [eqX] at h <;> first | (cases h; done) | (rw [eqI_eq] at h; exact congrArg _ (by simpa using h))
  | conv k a ih =>
    intro b h
    cases b <;> simp only [eqX, Bool.and_eq_true] at h <;> first | (cases h; done) | skip
    rw [eqKind_eq h.1, ih h.2]
  | bin op k a b iha ihb =>
    intro c h
    cases c <;> simp only [eqX, Bool.and_eq_true] at h <;> first | (cases h; done) | skip
    obtain ⟨h1, h2, h3, h4⟩ := h
    rw [eqOp_eq h1, eqKind_eq h2, iha h3, ihb h4]
  | byte i j =>
    intro b h
    cases b <;> simp only [eqX, Bool.and_eq_true] at h <;> first | (cases h; done) | skip
    rw [Nat.eq_of_beq_eq_true h.1, Nat.eq_of_beq_eq_true h.2]
  | slen i => intro b h; cases b <;> simp only [eqX] at h <;> first | (cases h; done) | exact congrArg _ (Nat.eq_of_beq_eq_true h)

theorem eqIs_eq : ∀ {a b : List Int}, eqIs a b = true → a = b
  | [], [], _ => rfl
  | x :: l, y :: m, h => by
    simp only [eqIs] at h
    split at h
    · rename_i h1
      rw [eqI_eq] at h1
      rw [eqIs_eq h, of_decide_eq_true h1]
    · cases h
  | [], _ :: _, h => by cases h
  | _ :: _, [], h => by cases h

theorem eqQ_eq {a b : Q} (h : eqQ a b = true) : a = b := by
  unfold eqQ at h
  split at h
  · rw [Nat.eq_of_beq_eq_true h]
  · split at h
    · rename_i h1
      rw [eqX_eq h1, eqIs_eq h]
    · cases h
  · split at h
    · rename_i h1 h2
      rw [eqX_eq h1, eqIs_eq h2, eqIs_eq h]
    · cases h
  · cases h

theorem eqBy_eq : ∀ {a b : List Nat}, eqStr a b = true → a = b
  | [], [], _ => rfl
  | x :: l, y :: m, h => by
    simp only [eqStr] at h
    split at h
    · rename_i h1
      rw [eqBy_eq h, Nat.eq_of_beq_eq_true h1]
    · cases h
  | [], _ :: _, h => by cases h
  | _ :: _, [], h => by cases h

theorem eqI_to {a b : Int} (h : eqI a b = true) : a = b := by
  rw [eqI_eq] at h
  simpa using h

theorem eqP_eq {a b : AV} (h : eqP a b = true) : a = b := by
  unfold eqP at h
  split at h
  · rename_i x y
    cases x <;> cases y <;> first | rfl | cases h
  · rw [eqI_to h]
  · split at h
    · rename_i h1
      rw [eqKind_eq h1, eqI_to h]
    · cases h
  · rw [eqBy_eq h]
  · split at h
    · rename_i h1 h2 h3
      rw [eqKind_eq h1, eqX_eq h2, eqI_to h3, eqI_to h]
    · cases h
  · split at h
    · rename_i h1 h2
      rw [Nat.eq_of_beq_eq_true h1, Nat.eq_of_beq_eq_true h2, Nat.eq_of_beq_eq_true h]
    · cases h
  · cases h

theorem eqPo_eq {a b : Option AV} (h : eqPo a b = true) : a = b := by
  unfold eqPo at h
  split at h
  · rfl
  · rw [eqP_eq h]
  · cases h

theorem eqOpC_eq {a b : BinOp} (h : eqOpC a b = true) : a = b := by
  unfold eqOpC at h
  split at h <;> first | rfl | cases h

theorem orcBin_mem {op : BinOp} {x y z : AV} : ∀ {l : List Orc}, orcBin op x y l = some z → Orc.bin op x y z ∈ l
  | [], h => by cases h
  | .bin op' x' y' z' :: r, h => by
    simp only [orcBin] at h
    split at h
    · rename_i h1 h2 h3
      cases h
      rw [eqOpC_eq h1, eqP_eq h2, eqP_eq h3]
      exact List.mem_cons_self
    · exact List.mem_cons_of_mem _ (orcBin_mem h)
  | .cut _ _ _ _ :: r, h => List.mem_cons_of_mem _ (orcBin_mem (l := r) h)
  | .idx _ _ _ :: r, h => List.mem_cons_of_mem _ (orcBin_mem (l := r) h)
  | .eqa _ _ _ _ :: r, h => List.mem_cons_of_mem _ (orcBin_mem (l := r) h)

theorem orcCut_mem {x z : AV} {lo hi : Option AV} : ∀ {l : List Orc}, orcCut x lo hi l = some z → Orc.cut x lo hi z ∈ l
  | [], h => by cases h
  | .cut x' lo' hi' z' :: r, h => by
    simp only [orcCut] at h
    split at h
    · rename_i h1 h2 h3
      cases h
      rw [eqP_eq h1, eqPo_eq h2, eqPo_eq h3]
      exact List.mem_cons_self
    · exact List.mem_cons_of_mem _ (orcCut_mem h)
  | .bin _ _ _ _ :: r, h => List.mem_cons_of_mem _ (orcCut_mem (l := r) h)
  | .idx _ _ _ :: r, h => List.mem_cons_of_mem _ (orcCut_mem (l := r) h)
  | .eqa _ _ _ _ :: r, h => List.mem_cons_of_mem _ (orcCut_mem (l := r) h)

theorem orcIdx_mem {x i z : AV} : ∀ {l : List Orc}, orcIdx x i l = some z → Orc.idx x i z ∈ l
  | [], h => by cases h
  | .idx x' i' z' :: r, h => by
    simp only [orcIdx] at h
    split at h
    · rename_i h1 h2
      cases h
      rw [eqP_eq h1, eqP_eq h2]
      exact List.mem_cons_self
    · exact List.mem_cons_of_mem _ (orcIdx_mem h)
  | .bin _ _ _ _ :: r, h => List.mem_cons_of_mem _ (orcIdx_mem (l := r) h)
  | .cut _ _ _ _ :: r, h => List.mem_cons_of_mem _ (orcIdx_mem (l := r) h)
  | .eqa _ _ _ _ :: r, h => List.mem_cons_of_mem _ (orcIdx_mem (l := r) h)

theorem eqPs_eq : ∀ {a b : List AV}, eqPs a b = true → a = b
  | [], [], _ => rfl
  | x :: l, y :: m, h => by
    simp only [eqPs] at h
    split at h
    · rename_i h1
      rw [eqPs_eq h, eqP_eq h1]
    · cases h
  | [], _ :: _, h => by cases h
  | _ :: _, [], h => by cases h

theorem eqNs_eq : ∀ {a b : List Nat}, eqNs a b = true → a = b
  | [], [], _ => rfl
  | x :: l, y :: m, h => by
    simp only [eqNs] at h
    split at h
    · rename_i h1
      rw [eqNs_eq h, Nat.eq_of_beq_eq_true h1]
    · cases h
  | [], _ :: _, h => by cases h
  | _ :: _, [], h => by cases h

theorem orcEqa_mem {ks : List Nat} {x y : List AV} {b : Bool} : ∀ {l : List Orc}, orcEqa ks x y l = some b → Orc.eqa ks x y b ∈ l
  | [], h => by cases h
  | .eqa ks' x' y' b' :: r, h => by
    simp only [orcEqa] at h
    split at h
    · rename_i h1 h2 h3
      cases h
      rw [eqNs_eq h1, eqPs_eq h2, eqPs_eq h3]
      exact List.mem_cons_self
    · exact List.mem_cons_of_mem _ (orcEqa_mem h)
  | .bin _ _ _ _ :: r, h => List.mem_cons_of_mem _ (orcEqa_mem (l := r) h)
  | .cut _ _ _ _ :: r, h => List.mem_cons_of_mem _ (orcEqa_mem (l := r) h)
  | .idx _ _ _ :: r, h => List.mem_cons_of_mem _ (orcEqa_mem (l := r) h)

theorem symOf_conc {v : AV} {k : IntKind} {e : SX} {lo hi : Int} {c : Value} (h : symOf v = some (k, e, lo, hi)) (hc : conc Y ρ v = some c) : c = .int k (e.val Y) ∧ lo ≤ e.val Y ∧ e.val Y ≤ hi := by
  unfold symOf at h
  split at h
  · cases h; cases hc; exact ⟨rfl, Int.le_refl _, Int.le_refl _⟩
  · cases h; cases hc; exact ⟨rfl, Int.le_refl _, Int.le_refl _⟩
  · cases h
    simp only [conc] at hc
    split at hc
    · rename_i hb; cases hc; exact ⟨rfl, hb.1, hb.2⟩
    · cases hc
  · cases h

theorem ltI_iff {a b : Int} : ltI a b = true ↔ a < b := by rw [ltI_eq]; simp
theorem ltI_not {a b : Int} : ltI a b = false ↔ b ≤ a := by rw [ltI_eq]; simp
theorem eqI_iff {a b : Int} : eqI a b = true ↔ a = b := by rw [eqI_eq]; simp

theorem eqSym_ok {e e' : SX} {lo hi lo' hi' : Int} {b : Bool} (h : eqSym e lo hi e' lo' hi' = some b) (h1 : lo ≤ e.val Y) (h2 : e.val Y ≤ hi) (h3 : lo' ≤ e'.val Y) (h4 : e'.val Y ≤ hi') : b = (e.val Y == e'.val Y) := by
  unfold eqSym at h
  split at h
  · rename_i hx
    cases h
    rw [eqX_eq hx]
    simp
  · split at h
    · split at h
      · rename_i hx hy g1 g2 g3
        cases h
        rw [eqI_iff] at g1 g2 g3
        have : e.val Y = e'.val Y := by omega
        simp [this]
      · cases h
    · rename_i hno
      cases h
      have : e.val Y ≠ e'.val Y := by
        intro he
        by_cases g1 : ltI hi lo' = true
        · rw [ltI_iff] at g1; omega
        · by_cases g2 : ltI hi' lo = true
          · rw [ltI_iff] at g2; omega
          · exact hno (by simpa using g1) (by simpa using g2)
      simp [this]

theorem eqSyms_ok {x y : AV} {cx cy : Value} {b : Bool} (h : eqSyms x y = some b) (hx : conc Y ρ x = some cx) (hy : conc Y ρ y = some cy) : ∃ k m n, cx = .int k m ∧ cy = .int k n ∧ b = (m == n) := by
  unfold eqSyms at h
  split at h
  · rename_i k e lo hi k' e' lo' hi' h1 h2
    split at h
    · rename_i hk
      have := eqKind_eq hk
      subst this
      obtain ⟨rfl, a1, a2⟩ := symOf_conc h1 hx
      obtain ⟨rfl, b1, b2⟩ := symOf_conc h2 hy
      exact ⟨k, _, _, rfl, rfl, eqSym_ok h a1 a2 b1 b2⟩
    · cases h
  · cases h

theorem conc_sstr {i lo hi : Nat} {c : Value} (h : conc Y ρ (.sstr i lo hi) = some c) : c = .string (Y.strs i) ∧ lo ≤ (Y.strs i).size ∧ (Y.strs i).size ≤ hi := by
  simp only [conc] at h
  split at h
  · rename_i hb; cases h; exact ⟨rfl, hb.1, hb.2.1⟩
  · cases h

theorem conc_sstr_ne {i lo hi : Nat} {c : Value} (h : conc Y ρ (.sstr i lo hi) = some c) : neOk i (Y.strs i) = true := by
  simp only [conc] at h
  split at h
  · rename_i hb; exact hb.2.2
  · cases h

theorem bytes_nil {a : ByteArray} (h : a.size = 0) : a.toList = [] := by
  rw [ByteArray.toList_eq]
  have : a.data.size = 0 := h
  exact Array.toList_eq_nil_iff.2 (Array.eq_empty_of_size_eq_zero this)

theorem bytes_ne {a b : ByteArray} (h : a.size ≠ b.size) : a.toList ≠ b.toList := by
  rw [ByteArray.toList_eq, ByteArray.toList_eq]
  intro e
  apply h
  have := congrArg List.length e
  simpa using this

theorem eqLen_ok {a b : ByteArray} {lo hi lo' hi' : Nat} {r : Bool} (h : eqLen lo hi lo' hi' = some r) (h1 : lo ≤ a.size) (h2 : a.size ≤ hi) (h3 : lo' ≤ b.size) (h4 : b.size ≤ hi') : r = (a.toList == b.toList) := by
  unfold eqLen at h
  split at h
  · split at h
    · rename_i g1 g2
      cases h
      have e1 := Nat.eq_of_beq_eq_true g1
      have e2 := Nat.eq_of_beq_eq_true g2
      rw [bytes_nil (a := a) (by omega), bytes_nil (a := b) (by omega)]
      rfl
    · cases h
  · rename_i hno
    cases h
    have : a.toList ≠ b.toList := by
      apply bytes_ne
      intro he
      by_cases g1 : Nat.blt hi lo' = true
      · rw [blt_iff] at g1; omega
      · by_cases g2 : Nat.blt hi' lo = true
        · rw [blt_iff] at g2; omega
        · exact hno (by cases h : Nat.blt hi lo' with | true => exact absurd h g1 | false => rfl) (by cases h : Nat.blt hi' lo with | true => exact absurd h g2 | false => rfl)
    simp [this]

theorem eqStr_same : ∀ {a b : List Nat}, eqStr a b = true → a = b
  | [], [], _ => rfl
  | a :: x, b :: y, h => by
    simp only [eqStr] at h
    cases hb : Nat.beq a b with
    | false => rw [hb] at h; cases h
    | true => rw [hb] at h; rw [Nat.eq_of_beq_eq_true hb, eqStr_same h]
  | [], _ :: _, h => by cases h
  | _ :: _, [], h => by cases h

theorem memS_mem {b : List Nat} : ∀ {l : List (List Nat)}, memS b l = true → b ∈ l
  | [], h => by cases h
  | c :: r, h => by
    simp only [memS] at h
    cases hb : eqStr b c with
    | true => rw [eqStr_same hb]; simp
    | false => rw [hb] at h; exact List.mem_cons_of_mem _ (memS_mem h)

theorem eqStrC_ok {i lo hi : Nat} {b : List Nat} {s : ByteArray} {r : Bool} (h : eqStrC i lo hi b = some r) (h1 : lo ≤ s.size) (h2 : s.size ≤ hi) (hne : neOk i s = true) :
    r = (s.toList == (bytesV b).toList) ∧ r = ((bytesV b).toList == s.toList) := by
  unfold eqStrC at h
  have hb : (bytesV b).size = b.length := bytesV_size b
  split at h
  · rename_i r' he
    cases h
    have e := eqLen_ok (b := bytesV b) he h1 h2 (by omega) (by omega)
    exact ⟨e, by rw [e]; exact Bool.eq_iff_iff.2 ⟨fun k => by simpa using (by simpa using k : s.toList = (bytesV b).toList).symm, fun k => by simpa using (by simpa using k : (bytesV b).toList = s.toList).symm⟩⟩
  · split at h
    · rename_i h3 h4
      cases h
      unfold neOk at hne
      rw [h3] at hne
      simp only [Bool.not_true, Bool.false_or] at hne
      have h5 := List.all_eq_true.1 hne b (memS_mem h4)
      have h6 : ¬ s.toList = (bytesV b).toList := by simpa using h5
      exact ⟨by symm; simpa using h6, by symm; simpa using fun e => h6 e.symm⟩
    · cases h

theorem mkS_ok {k : IntKind} {e : SX} {lo hi : Int} (h1 : lo ≤ e.val Y) (h2 : e.val Y ≤ hi) : conc Y ρ (mkS k e lo hi) = some (.int k (e.val Y)) := by
  unfold mkS
  simp only [forceI_eq]
  split
  · rename_i he
    rw [eqI_iff] at he
    have : e.val Y = lo := by omega
    rw [this]
    exact conc_mkInt _ _
  · simp [conc, h1, h2]

theorem lookX_mem {e : SX} {p : Int × Int} : ∀ {l : List (SX × Int × Int)}, lookX e l = some p → (e, p.1, p.2) ∈ l
  | [], h => by cases h
  | (e', a, b) :: r, h => by
    simp only [lookX] at h
    split at h
    · rename_i hx
      cases h
      rw [eqX_eq hx]
      simp
    · exact List.mem_cons_of_mem _ (lookX_mem h)

theorem mkSym_ok (hE : EnvOk Y E) {k : IntKind} {e : SX} {lo hi : Int} (h1 : lo ≤ e.val Y) (h2 : e.val Y ≤ hi) : conc Y ρ (mkSym E k e lo hi) = some (.int k (e.val Y)) := by
  unfold mkSym
  split
  · rename_i l h hl
    obtain ⟨g1, g2⟩ := hE.facts _ _ _ (lookX_mem hl)
    exact mkS_ok g1 g2
  · exact mkS_ok h1 h2

theorem mkIn_ok (hE : EnvOk Y E) {k : IntKind} {e : SX} {l h n : Int} (he : e.val Y = k.wrap n) (h1 : l ≤ n) (h2 : n ≤ h) : conc Y ρ (mkIn E k e l h) = some (.int k (e.val Y)) := by
  unfold mkIn
  split
  · rename_i g1 g2
    rw [ltI_not] at g1 g2
    have : k.wrap n = n := wrap_id (by omega) (by omega)
    exact mkSym_ok hE (by rw [he, this]; exact h1) (by rw [he, this]; exact h2)
  · have := wrap_in k n
    exact mkSym_ok hE (by rw [he]; exact this.1) (by rw [he]; exact this.2)

theorem symConv_ok (hE : EnvOk Y E) {k : IntKind} {e : SX} {lo hi : Int} (h1 : lo ≤ e.val Y) (h2 : e.val Y ≤ hi) : conc Y ρ (symConv E k e lo hi) = some (.int k (k.wrap (e.val Y))) := by
  unfold symConv
  split
  · rename_i g1 g2
    rw [ltI_not] at g1 g2
    rw [wrap_id (k := k) (n := e.val Y) (by omega) (by omega)]
    exact mkSym_ok hE h1 h2
  · have := wrap_in k (e.val Y)
    exact mkSym_ok hE (e := .conv k e) this.1 this.2

theorem ltSym_ok {a b lo hi lo' hi' : Int} {r : Bool} (h : ltSym lo hi lo' hi' = some r) (h1 : lo ≤ a) (h2 : a ≤ hi) (h3 : lo' ≤ b) (h4 : b ≤ hi') : r = decide (a < b) := by
  unfold ltSym at h
  split at h
  · rename_i g
    cases h
    rw [ltI_iff] at g
    have : a < b := by omega
    simp [this]
  · split at h
    · cases h
    · rename_i g
      cases h
      rw [ltI_not] at g
      have : ¬ a < b := by omega
      simp [this]

theorem boolK_eq {r : Option Bool} {v : AV} (h : boolK r = some v) : ∃ b, r = some b ∧ v = .bool b := by
  unfold boolK at h
  split at h
  · cases h; exact ⟨_, rfl, rfl⟩
  · cases h

theorem notK_eq {r : Option Bool} {v : AV} (h : notK r = some v) : ∃ b, r = some b ∧ v = .bool (!b) := by
  unfold notK at h
  split at h
  · cases h; exact ⟨_, rfl, rfl⟩
  · cases h

theorem sym_dec (a b : Int) : (!decide (a < b)) = decide (b ≤ a) := by
  by_cases h : a < b <;> simp [h] <;> omega

theorem symBin_ok (hE : EnvOk Y E) {op : BinOp} {k : IntKind} {e e' : SX} {lo hi lo' hi' : Int} {v : AV} {t : TypeId} (h : symBin E op k e lo hi e' lo' hi' = some v) (h1 : lo ≤ e.val Y) (h2 : e.val Y ≤ hi) (h3 : lo' ≤ e'.val Y) (h4 : e'.val Y ≤ hi') :
    ∃ cv, (binOp op t (.int k (e.val Y)) (.int k (e'.val Y))).run E.P w = .ok cv w ∧ conc Y ρ v = some cv := by
  cases op <;> simp only [symBin] at h
  case add =>
    cases h
    rw [addI_eq, addI_eq]
    exact ⟨.int k (binN .add k (e.val Y) (e'.val Y)), by simp [binOp, Op.intArith, binN], mkIn_ok hE (e := .bin .add k e e') (n := e.val Y + e'.val Y) rfl (by omega) (by omega)⟩
  case sub =>
    cases h
    rw [subI_eq, subI_eq]
    exact ⟨.int k (binN .sub k (e.val Y) (e'.val Y)), by simp [binOp, Op.intArith, binN], mkIn_ok hE (e := .bin .sub k e e') (n := e.val Y - e'.val Y) rfl (by omega) (by omega)⟩
  case mul =>
    split at h
    · rename_i g1 g2
      cases h
      rw [ltI_not] at g1 g2
      rw [mulI_eq, mulI_eq]
      exact ⟨.int k (binN .mul k (e.val Y) (e'.val Y)), by simp [binOp, Op.intArith, binN], mkIn_ok hE (e := .bin .mul k e e') (n := e.val Y * e'.val Y) rfl (Int.mul_le_mul h1 h3 g2 (by omega)) (Int.mul_le_mul h2 h4 (by omega) (by omega))⟩
    cases h
    have := wrap_in k (e.val Y * e'.val Y)
    exact ⟨.int k (binN .mul k (e.val Y) (e'.val Y)), by simp [binOp, Op.intArith, binN], mkSym_ok hE (e := .bin .mul k e e') this.1 this.2⟩
  case and =>
    cases h
    have := wrap_in k ((BitVec.ofInt k.bits (e.val Y) &&& BitVec.ofInt k.bits (e'.val Y)).toNat)
    exact ⟨.int k (binN .and k (e.val Y) (e'.val Y)), by simp [binOp, Op.intBits, binN], mkSym_ok hE (e := .bin .and k e e') this.1 this.2⟩
  case or =>
    cases h
    have := wrap_in k ((BitVec.ofInt k.bits (e.val Y) ||| BitVec.ofInt k.bits (e'.val Y)).toNat)
    exact ⟨.int k (binN .or k (e.val Y) (e'.val Y)), by simp [binOp, Op.intBits, binN], mkSym_ok hE (e := .bin .or k e e') this.1 this.2⟩
  case xor =>
    cases h
    have := wrap_in k ((BitVec.ofInt k.bits (e.val Y) ^^^ BitVec.ofInt k.bits (e'.val Y)).toNat)
    exact ⟨.int k (binN .xor k (e.val Y) (e'.val Y)), by simp [binOp, Op.intBits, binN], mkSym_ok hE (e := .bin .xor k e e') this.1 this.2⟩
  case andNot =>
    cases h
    have := wrap_in k ((BitVec.ofInt k.bits (e.val Y) &&& ~~~BitVec.ofInt k.bits (e'.val Y)).toNat)
    exact ⟨.int k (binN .andNot k (e.val Y) (e'.val Y)), by simp [binOp, Op.intBits, binN], mkSym_ok hE (e := .bin .andNot k e e') this.1 this.2⟩
  case rem =>
    split at h
    · rename_i g1 g2
      cases h
      rw [ltI_iff] at g1
      rw [ltI_not] at g2
      have hb : ¬ e'.val Y = 0 := by omega
      have ha : 0 ≤ e.val Y := by omega
      have hr1 : 0 ≤ (e.val Y).tmod (e'.val Y) := Int.tmod_nonneg _ ha
      have hr2 : (e.val Y).tmod (e'.val Y) < e'.val Y := Int.tmod_lt_of_pos _ (by omega)
      rw [subI_eq]
      exact ⟨.int k (binN .rem k (e.val Y) (e'.val Y)), by simp [binOp, Op.intDiv, hb, binN], mkSym_ok hE (e := .bin .rem k e e') hr1 (by show (e.val Y).tmod (e'.val Y) ≤ _; omega)⟩
    · cases h
  case eql =>
    obtain ⟨b, hb, rfl⟩ := boolK_eq h
    have := eqSym_ok hb h1 h2 h3 h4
    exact ⟨.bool b, by simp [binOp, Op.intCmp, this], rfl⟩
  case neq =>
    obtain ⟨b, hb, rfl⟩ := notK_eq h
    have := eqSym_ok hb h1 h2 h3 h4
    exact ⟨.bool (!b), by simp [binOp, Op.intCmp, this, bne], rfl⟩
  case lss =>
    obtain ⟨b, hb, rfl⟩ := boolK_eq h
    have := ltSym_ok hb h1 h2 h3 h4
    exact ⟨.bool b, by simp [binOp, Op.intCmp, this], rfl⟩
  case gtr =>
    obtain ⟨b, hb, rfl⟩ := boolK_eq h
    have := ltSym_ok hb h3 h4 h1 h2
    exact ⟨.bool b, by simp [binOp, Op.intCmp, this], rfl⟩
  case leq =>
    obtain ⟨b, hb, rfl⟩ := notK_eq h
    have := ltSym_ok hb h3 h4 h1 h2
    exact ⟨.bool (!b), by simp [binOp, Op.intCmp, this, sym_dec], rfl⟩
  case geq =>
    obtain ⟨b, hb, rfl⟩ := notK_eq h
    have := ltSym_ok hb h1 h2 h3 h4
    exact ⟨.bool (!b), by simp [binOp, Op.intCmp, this, sym_dec], rfl⟩
  all_goals cases h

theorem fdiv_pow {a : Int} (h : 0 ≤ a) (m : Nat) : 0 ≤ a.fdiv ((2 ^ m : Nat) : Int) ∧ a.fdiv ((2 ^ m : Nat) : Int) ≤ a := by
  have hp : (0 : Int) < ((2 ^ m : Nat) : Int) := by exact_mod_cast Nat.two_pow_pos m
  rw [Int.fdiv_eq_ediv_of_nonneg _ (by omega)]
  exact ⟨Int.ediv_nonneg h (by omega), Int.ediv_le_self _ h⟩

theorem symShr_ok (hE : EnvOk Y E) {op : BinOp} {k k' : IntKind} {e e' : SX} {lo hi : Int} {v : AV} {t : TypeId} (h : symShr E op k e lo hi e' = some v) (h1 : lo ≤ e.val Y) (h2 : e.val Y ≤ hi) :
    ∃ cv, (binOp op t (.int k (e.val Y)) (.int k' (e'.val Y))).run E.P w = .ok cv w ∧ conc Y ρ v = some cv := by
  unfold symShr at h
  split at h
  · rename_i n
    split at h
    · rename_i g1 g2
      cases h
      rw [ltI_not] at g1 g2
      have hb : ¬ (n < 0) := by omega
      have hd := fdiv_pow (a := e.val Y) (by omega) (min n.toNat k.bits)
      refine ⟨_, ?_, mkSym_ok hE (e := .bin .shr k e (.con n)) hd.1 (Int.le_trans hd.2 h2)⟩
      simp only [SX.val, binN]
      simp only [binOp, Op.shift, hb, if_false, Sem.run_pure]
      simp
    · cases h
  · cases h

theorem symOp_ok (hE : EnvOk Y E) {op : BinOp} {x y : AV} {p q : IntKind × SX × Int × Int} {cx cy : Value} {v : AV} {t : TypeId} (hp : symOf x = some p) (hq : symOf y = some q) (hx : conc Y ρ x = some cx) (hy : conc Y ρ y = some cy) (h : symOp E op p q = some v) :
    (∃ k m k' n, cx = .int k m ∧ cy = .int k' n) ∧ ∃ cv, (binOp op t cx cy).run E.P w = .ok cv w ∧ conc Y ρ v = some cv := by
  obtain ⟨k, e, lo, hi⟩ := p
  obtain ⟨k', e', lo', hi'⟩ := q
  obtain ⟨rfl, a1, a2⟩ := symOf_conc hp hx
  obtain ⟨rfl, b1, b2⟩ := symOf_conc hq hy
  refine ⟨⟨_, _, _, _, rfl, rfl⟩, ?_⟩
  simp only [symOp] at h
  split at h
  · exact symShr_ok hE h a1 a2
  · split at h
    · rename_i hk
      have := eqKind_eq hk
      subst this
      exact symBin_ok hE h a1 a2 b1 b2
    · cases h

end
end Go.AE
