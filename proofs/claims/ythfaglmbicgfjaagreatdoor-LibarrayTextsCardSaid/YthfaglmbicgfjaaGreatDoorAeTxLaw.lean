/-
  The law LibarrayTexts: every call returns true.
-/
import Derived.Test.YthfaglmbicgfjaaGreatDoorAeTxRun0
import Derived.Test.YthfaglmbicgfjaaGreatDoorAeTxRun1
import Derived.Test.YthfaglmbicgfjaaGreatDoorAeTxRun2
namespace Go.Proofs.YthfaglmbicgfjaaGreatDoor
open Go.AE
set_option maxRecDepth 100000

/-! ### The numbers -/
theorem u64_nonneg (n : Int) : 0 ≤ IntKind.u64.wrap n := (wrap_in .u64 n).1

def iOf (a : Int) (n : Nat) : Nat := ((IntKind.u64.wrap a).tmod ((n : Int) + 1)).toNat
def jOf (a b : Int) (n : Nat) : Nat := iOf a n + ((IntKind.u64.wrap b).tmod ((n : Int) - iOf a n + 1)).toNat

theorem tmod_in {x m : Int} (hx : 0 ≤ x) (hm : 0 < m) : 0 ≤ x.tmod m ∧ x.tmod m < m := ⟨Int.tmod_nonneg _ hx, Int.tmod_lt_of_pos _ hm⟩

theorem iOf_le (a : Int) (n : Nat) : iOf a n ≤ n := by
  have h := tmod_in (u64_nonneg a) (m := (n : Int) + 1) (by omega)
  unfold iOf
  omega

theorem jOf_le (a b : Int) (n : Nat) : iOf a n ≤ jOf a b n ∧ jOf a b n ≤ n := by
  have h1 := iOf_le a n
  have h := tmod_in (u64_nonneg b) (m := (n : Int) - iOf a n + 1) (by omega)
  unfold jOf
  omega

/-- what the symbols stand for -/
def syT (a b m : Int) (r : Nat) (s t : ByteArray) : Sy :=
  syL [a, b, r, 0, 0, 0, 0, 0, 0, m] [s, ByteArray.empty, ByteArray.empty, s.extract (iOf a s.size) (jOf a b s.size), s.extract (iOf a s.size) (iOf a s.size + 1), s.extract 0 (iOf a s.size), s.extract (iOf a s.size) s.size, t]

section
variable {a b m : Int} {r : Nat} {s t : ByteArray}

theorem i64_id {n : Int} (h1 : lo64 ≤ n) (h2 : n ≤ hi64) : IntKind.i64.wrap n = n := wrap_id (k := .i64) h1 h2

theorem eI_val (hs : s.size ≤ 200) : eI.val (syT a b m r s t) = (iOf a s.size : Int) := by
  have h := tmod_in (u64_nonneg a) (m := (s.size : Int) + 1) (by omega)
  show (IntKind.u64.wrap a).tmod (IntKind.i64.wrap ((s.size : Int) + 1)) = _
  rw [i64_id (by unfold lo64; omega) (by unfold hi64; omega)]
  unfold iOf
  omega

theorem eD_val (hs : s.size ≤ 200) : eD.val (syT a b m r s t) = (s.size : Int) - iOf a s.size + 1 := by
  have h := iOf_le a s.size
  show IntKind.i64.wrap (IntKind.i64.wrap ((s.size : Int) - eI.val (syT a b m r s t)) + 1) = _
  rw [eI_val hs, i64_id (n := (s.size : Int) - iOf a s.size) (by unfold lo64; omega) (by unfold hi64; omega), i64_id (by unfold lo64; omega) (by unfold hi64; omega)]

theorem eJ_val (hs : s.size ≤ 200) : eJ.val (syT a b m r s t) = (jOf a b s.size : Int) := by
  have h1 := iOf_le a s.size
  have h := tmod_in (u64_nonneg b) (m := (s.size : Int) - iOf a s.size + 1) (by omega)
  show IntKind.i64.wrap (eI.val (syT a b m r s t) + (IntKind.u64.wrap b).tmod (eD.val (syT a b m r s t))) = _
  rw [eI_val hs, eD_val hs, i64_id (by unfold lo64; omega) (by unfold hi64; omega)]
  unfold jOf
  omega

theorem tx_facts (hs : s.size ≤ 200) : ∀ e l h, (e, l, h) ∈ txFacts → l ≤ e.val (syT a b m r s t) ∧ e.val (syT a b m r s t) ≤ h := by
  have h1 := iOf_le a s.size
  have h2 := jOf_le a b s.size
  refine facts_cons ?_ ?_ (facts_cons ?_ ?_ facts_nil)
  · rw [eD_val hs]; omega
  · rw [eD_val hs]; omega
  · rw [eJ_val hs]; omega
  · rw [eJ_val hs]; omega

/-! ### Single operations -/
theorem orcs_app {Y : Sy} {l l' : List Orc} (h : ∀ q ∈ l, OrcOk Y q) (h' : ∀ q ∈ l', OrcOk Y q) : ∀ q ∈ l ++ l', OrcOk Y q := fun q hq => by
  rcases List.mem_append.1 hq with g | g
  · exact h q g
  · exact h' q g
theorem orcs_nil' {Y : Sy} : ∀ q ∈ ([] : List Orc), OrcOk Y q := fun _ h => by cases h

theorem orc_cut {Y : Sy} {x z : AV} {lo hi : Option AV} {u : ByteArray} {l h : Nat} (hx : IsS Y x u) (h1 : l ≤ h) (h2 : h ≤ u.size) (hl : AtIs Y l 0 lo) (hh : AtIs Y h u.size hi) (hz : IsS Y z (u.extract l h)) : OrcOk Y (.cut x lo hi z) := ⟨u, l, h, hx, h1, h2, hl, hh, hz⟩

theorem at_n {Y : Sy} {x : AV} {n d : Nat} (h : IsI Y x .i64 n) : AtIs Y n d (some x) := ⟨_, h⟩

theorem orc_geq {Y : Sy} {x y : AV} {k : IntKind} {a b : Int} {r : Bool} (hx : IsI Y x k a) (hy : IsI Y y k b) (hr : decide (b ≤ a) = r) : OrcOk Y (.bin .geq x y (.bool r)) :=
  ⟨_, _, .bool r, hx, hy, fun _ => rfl, .inr ⟨_, _, _, _, rfl, rfl⟩, fun P t w => by subst hr; simp [binOp, Op.intCmp]⟩

abbrev YT (a b m : Int) (r : Nat) (s t : ByteArray) : Sy := syT a b m r s t

theorem isS_s (hs : s.size ≤ 200) : IsS (syT a b m r s t) aS s := isS_sym (i := 0) rfl (Nat.zero_le _) hs rfl
theorem isS_p (hs : s.size ≤ 200) : IsS (syT a b m r s t) aP (s.extract (iOf a s.size) (jOf a b s.size)) := by
  have h2 := jOf_le a b s.size
  exact isS_sym (i := 3) rfl (Nat.zero_le _) (by rw [part_size h2.1 h2.2]; omega) rfl
theorem isS_c (_hs : s.size ≤ 200) (h : iOf a s.size < s.size) : IsS (syT a b m r s t) aC (s.extract (iOf a s.size) (iOf a s.size + 1)) :=
  isS_sym (i := 4) rfl (by rw [part_size (by omega) (by omega)]; omega) (by rw [part_size (by omega) (by omega)]; omega) rfl
theorem isS_f (hs : s.size ≤ 200) : IsS (syT a b m r s t) aF (s.extract 0 (iOf a s.size)) := by
  have h1 := iOf_le a s.size
  exact isS_sym (i := 5) rfl (Nat.zero_le _) (by rw [part_size (by omega) (by omega)]; omega) rfl
theorem isS_b (hs : s.size ≤ 200) : IsS (syT a b m r s t) aB (s.extract (iOf a s.size) s.size) := by
  have h1 := iOf_le a s.size
  exact isS_sym (i := 6) rfl (Nat.zero_le _) (by rw [part_size (by omega) (by omega)]; omega) rfl
theorem isS_t (ht : 201 ≤ t.size) (ht2 : t.size ≤ most) : IsS (syT a b m r s t) aT t := isS_sym (i := 7) rfl ht ht2 rfl

theorem isI_L (hs : s.size ≤ 200) : IsI (syT a b m r s t) aL .i64 (s.size : Nat) := isI_sym (e := .len 0) rfl (by omega) (by omega)
theorem isI_I (hs : s.size ≤ 200) : IsI (syT a b m r s t) aI .i64 (iOf a s.size : Nat) := by
  have h1 := iOf_le a s.size
  exact isI_sym (eI_val hs) (by omega) (by omega)
theorem isI_J (hs : s.size ≤ 200) : IsI (syT a b m r s t) aJ .i64 (jOf a b s.size : Nat) := by
  have h1 := jOf_le a b s.size
  exact isI_sym (eJ_val hs) (by omega) (by omega)
theorem isI_R (hr : r ≤ 200) : IsI (syT a b m r s t) aR .i64 (r : Nat) := isI_sym (e := .var 2) rfl (by omega) (by omega)
theorem isI_RL (hs : s.size ≤ 200) (hr : r ≤ 200) : IsI (syT a b m r s t) aRL .i64 ((r + (jOf a b s.size - iOf a s.size) : Nat) : Int) := by
  have h2 := jOf_le a b s.size
  have hp := part_size h2.1 h2.2
  refine isI_sym ?_ (by omega) (by omega)
  show IntKind.i64.wrap ((r : Int) + ((s.extract (iOf a s.size) (jOf a b s.size)).size : Int)) = _
  rw [hp, i64_id (by unfold lo64; omega) (by unfold hi64; omega)]
  omega
theorem isI_I1 (hs : s.size ≤ 200) : IsI (syT a b m r s t) aI1 .i64 ((iOf a s.size + 1 : Nat) : Int) := by
  have h1 := iOf_le a s.size
  refine isI_sym ?_ (by omega) (by omega)
  show IntKind.i64.wrap (eI.val (syT a b m r s t) + 1) = _
  rw [eI_val hs, i64_id (by unfold lo64; omega) (by unfold hi64; omega)]
  omega

theorem oA_ok (hs : s.size ≤ 200) (hr : r ≤ iOf a s.size) (hx : s.extract r (r + (jOf a b s.size - iOf a s.size)) = s.extract (iOf a s.size) (jOf a b s.size)) {ij il z : Bool} (hij : decide (iOf a s.size < jOf a b s.size) = ij) (hil : decide (iOf a s.size < s.size) = il) (hz : decide (0 < iOf a s.size) = z) :
    ∀ q ∈ oA ij il z, OrcOk (syT a b m r s t) q := by
  have h1 := iOf_le a s.size
  have h2 := jOf_le a b s.size
  unfold oA
  refine orcs_cons (orc_lss (isI_L hs) (isI_I hs) (decide_eq_false (by omega))) ?_
  refine orcs_cons (orc_lss (isI_L hs) (isI_J hs) (decide_eq_false (by omega))) ?_
  refine orcs_cons (orc_lss (isI_I hs) (isI_J hs) (by rw [← hij]; exact decide_eq_decide.2 (by omega))) ?_
  refine orcs_cons (orc_cut (isS_s hs) h2.1 h2.2 (at_n (isI_I hs)) (at_n (isI_J hs)) (isS_p hs)) ?_
  refine orcs_cons (orc_gtr (isI_R (by omega)) (isI_I hs) (decide_eq_false (by omega))) ?_
  refine orcs_cons (orc_cut (isS_s hs) (l := r) (h := r + (jOf a b s.size - iOf a s.size)) (by omega) (by omega) (at_n (isI_R (by omega))) (at_n (isI_RL hs (by omega))) (by rw [hx]; exact isS_p hs)) ?_
  refine orcs_cons (orc_lss (isI_I hs) (isI_L hs) (by rw [← hil]; exact decide_eq_decide.2 (by omega))) ?_
  refine orcs_cons (orc_cut (isS_s hs) (l := 0) (h := iOf a s.size) (by omega) h1 (at_n (isI_64 0)) (at_n (isI_I hs)) (isS_f hs)) ?_
  refine orcs_cons (orc_cut (isS_s hs) (l := iOf a s.size) (h := s.size) h1 (by omega) (at_n (isI_I hs)) (at_n (isI_L hs)) (isS_b hs)) ?_
  refine orcs_cons (orc_cat (isS_f hs) (isS_b hs) (by rw [part_size (by omega) (by omega), part_size (by omega) (by omega)]; omega) (by rw [cat_part h1]; exact isS_s hs)) ?_
  refine orcs_cons (orc_lss (isI_L hs) (isI_L hs) (decide_eq_false (by omega))) ?_
  refine orcs_cons (orc_lss (isI_64 0) (isI_I hs) (by rw [← hz]; exact decide_eq_decide.2 (by omega))) ?_
  exact orcs_nil'

theorem oIJ_ok (hs : s.size ≤ 200) {ij : Bool} (hij : decide (iOf a s.size < jOf a b s.size) = ij) : ∀ q ∈ oIJ ij, OrcOk (syT a b m r s t) q := by
  have h1 := iOf_le a s.size
  have h2 := jOf_le a b s.size
  cases ij with
  | true => exact orcs_nil'
  | false =>
    have h := of_decide_eq_false hij
    have e : jOf a b s.size = iOf a s.size := by omega
    refine orcs_cons (orc_cut (isS_s hs) (l := iOf a s.size) (h := iOf a s.size) (Nat.le_refl _) h1 (at_n (isI_I hs)) (at_n (isI_I hs)) ?_) orcs_nil'
    have := isS_p (a := a) (b := b) (m := m) (r := r) (t := t) hs
    rw [e] at this
    exact this

theorem oIL_ok (hs : s.size ≤ 200) {il : Bool} (hil : decide (iOf a s.size < s.size) = il) : ∀ q ∈ oIL il, OrcOk (syT a b m r s t) q := by
  have h1 := iOf_le a s.size
  cases il with
  | true =>
    have h := of_decide_eq_true hil
    refine orcs_cons (orc_geq (isI_I hs) (isI_L hs) (decide_eq_false (by omega))) ?_
    refine orcs_cons (orc_cut (isS_s hs) (l := iOf a s.size) (h := iOf a s.size + 1) (by omega) h (at_n (isI_I hs)) (at_n (isI_I1 hs)) (isS_c hs h)) ?_
    refine orcs_cons (orc_lss (isI_L hs) (isI_I1 hs) (decide_eq_false (by omega))) ?_
    exact orcs_cons (orc_lss (isI_I hs) (isI_I1 hs) (decide_eq_true (by omega))) orcs_nil'
  | false =>
    have h := of_decide_eq_false hil
    have e : iOf a s.size = s.size := by omega
    have hj := jOf_le a b s.size
    have ej : jOf a b s.size = s.size := by omega
    have sf : (s.extract 0 (iOf a s.size)).size = iOf a s.size := by rw [part_size (by omega) (by omega)]; omega
    have sp : (s.extract (iOf a s.size) (jOf a b s.size)).size = jOf a b s.size - iOf a s.size := part_size hj.1 hj.2
    refine orcs_cons (orc_cat (isS_f hs) (isS_p hs) (by omega) ?_) orcs_nil'
    rw [ej, cat_part h1]
    exact isS_s hs

theorem oZ_ok (hs : s.size ≤ 200) {z : Bool} (hz : decide (0 < iOf a s.size) = z) : ∀ q ∈ oZ z, OrcOk (syT a b m r s t) q := by
  cases z with
  | true => exact orcs_nil'
  | false =>
    have h := of_decide_eq_false hz
    have e : iOf a s.size = 0 := by omega
    refine orcs_cons (orc_cut (isS_s hs) (l := 0) (h := 0) (Nat.le_refl _) (Nat.zero_le _) (at_n (isI_64 0)) (at_n (isI_64 0)) ?_) orcs_nil'
    have := isS_f (a := a) (b := b) (m := m) (r := r) (t := t) hs
    intro ρ
    rw [this ρ, e]

theorem extract_all (u : ByteArray) : u.extract 0 u.size = u := ByteArray.extract_zero_size

theorem oSmall_ok (hs : s.size ≤ 200) : ∀ q ∈ oBig false, OrcOk (syT a b m r s t) q :=
  orcs_cons (orc_cut (isS_s hs) (l := 0) (h := s.size) (Nat.zero_le _) (Nat.le_refl _) rfl (at_n (isI_L hs)) (by rw [extract_all]; exact isS_s hs)) orcs_nil'

theorem oLarge_ok (hs : s = t.extract 0 200) (ht : 201 ≤ t.size) (ht2 : t.size ≤ most) : ∀ q ∈ oBig true, OrcOk (syT a b m r s t) q := by
  have hz : s.size = 200 := by rw [hs, part_size (by omega) (by omega)]
  refine orcs_cons (orc_cut (isS_t ht ht2) (l := 0) (h := 200) (Nat.zero_le _) (by omega) rfl (at_n (isI_64 200)) ?_) orcs_nil'
  rw [← hs]
  exact isS_s (by omega)
end

/-! ### The law -/
abbrev Says (t : ByteArray) (a b : Int) (w : World) : Prop := Calls Tryz.prog 3 #[.string t, .int .i64 a, .int .i64 b] w fun e w' => e = .returned (.bool true) ∧ RowKit.Below w.heap.size w w'

theorem run_any (big ij il z : Bool) (h : ij = true → il = true) : evSm (envG txFacts (txOrcs big ij il z)) [] [qAwake, qIdx] 300 100 (.fn 3) (txArgs big) (heapG gTx 2) (fun v _ => sameV v (.bool true)) = true := by
  cases big <;> cases ij <;> cases il <;> cases z
  · exact rn0000
  · exact rn0001
  · exact rn0010
  · exact rn0011
  · cases h rfl
  · cases h rfl
  · exact rn0110
  · exact rn0111
  · exact rn1000
  · exact rn1001
  · exact rn1010
  · exact rn1011
  · cases h rfl
  · cases h rfl
  · exact rn1110
  · exact rn1111

theorem texts_with {t s : ByteArray} {a b m : Int} {w : World} (hv : Vars w m) (ha : lo64 ≤ a ∧ a ≤ hi64) (hb : lo64 ≤ b ∧ b ≤ hi64) (big : Bool) (hs : s.size ≤ 200) (hbig : ∀ r, ∀ q ∈ oBig big, OrcOk (syT a b m r s t) q)
    (harg : ∀ r ρ, conc (syT a b m r s t) ρ (bif big then aT else aS) = some (.string t)) : Says t a b w := by
  have h2 := jOf_le a b s.size
  obtain ⟨r, hr1, hr2, hr3⟩ := idx_part h2.1 h2.2
  have hil : decide (iOf a s.size < jOf a b s.size) = true → decide (iOf a s.size < s.size) = true := fun h => decide_eq_true (by have := of_decide_eq_true h; omega)
  have hos := orcs_app (oA_ok (m := m) (t := t) hs hr2 hr3 rfl rfl rfl) (orcs_app (hbig r) (orcs_app (oIJ_ok hs rfl) (orcs_app (oIL_ok hs rfl) (oZ_ok hs rfl))))
  have hss : SumsOk (syT a b m r s t) (envG txFacts (txOrcs big (decide (iOf a s.size < jOf a b s.size)) (decide (iOf a s.size < s.size)) (decide (0 < iOf a s.size)))) [qAwake, qIdx] :=
    SumsOk.cons (qAwake_ok _ _ _) (SumsOk.cons (qIdx_ok (isS_s hs) hs (isS_p hs) hr1 (by omega) rfl) SumsOk.nil)
  refine (laid_run (envG_ok (tx_facts hs) hos) KnownOk.nil hss (Nat.le_refl 2) (run_any big _ _ _ hil) (cargs := [.string t, .int .i64 a, .int .i64 b]) ?_ (laidW_of hv rfl)).mono fun e w' he => ?_
  · exact concs_cons.2 ⟨_, _, harg r _, concs_cons.2 ⟨_, _, isI_sym (e := .var 0) rfl ha.1 ha.2 _, concs_cons.2 ⟨_, _, isI_sym (e := .var 1) rfl hb.1 hb.2 _, rfl, rfl⟩, rfl⟩, rfl⟩
  · obtain ⟨cv, rfl, h1, h2⟩ := he
    cases h1
    exact ⟨rfl, h2⟩

/-- every call returns true -/
theorem texts_calls {t : ByteArray} {a b m : Int} {w : World} (hv : Vars w m) (ht : t.size ≤ most) (ha : lo64 ≤ a ∧ a ≤ hi64) (hb : lo64 ≤ b ∧ b ≤ hi64) : Says t a b w := by
  by_cases h : t.size ≤ 200
  · exact texts_with hv ha hb false h (fun r => oSmall_ok h) (fun r ρ => isS_s h ρ)
  · refine texts_with (s := t.extract 0 200) hv ha hb true (by rw [part_size (by omega) (by omega)]; omega) (fun r => oLarge_ok rfl (by omega) ht) (fun r ρ => isS_t (by omega) ht ρ)

end Go.Proofs.YthfaglmbicgfjaaGreatDoor
