/-
  Proved: for every text and every cut the call AsmAgain returns true and changes nothing that was there before it, the package variables as the program's text lays them ('Rows.AsmAgainCardSaid'). No further conditions. The functions that the statement reaches are walked one by one (the texts AeBs.., AeAg..); the examples of the specification are evaluated by the kernel with a verified evaluator (AeKit..). The frame of this text follows the kit's worked examples of a row that lists variables and of a tied card.
-/
import Derived.Test.YtfngechoipngmaaGreatDoorRows
import Derived.Test.YtfngechoipngmaaGreatDoorTie
import Derived.Test.YtfngechoipngmaaGreatDoorCards
import Derived.WalkKit
import Derived.ProofKit
import Derived.OpenShut
import Derived.LaidMore
import Derived.Lay
import Derived.Stop.Joined
import Derived.SevenTiedAt
import Derived.Deep.DeepHandedRow
import Derived.JoinedCond
import Derived.MakeChecks
import Derived.Handed
import Derived.Lib.LaidU8
import Derived.Lib.LaidTab
import Derived.LaidLaws
import Derived.ChangeMaps5
import Derived.Test.YtfngechoipngmaaGreatDoorAeAgainRow
import Derived.Test.YtfngechoipngmaaGreatDoorAeAgLaw
import Derived.Test.YtfngechoipngmaaGreatDoorAeAgGoes
namespace Go.AE

/-- where no function of a program starts a goroutine -/
theorem goes_false {P : Program} (h : P.funcs.any Func.goes = false) (f : FuncId) : P.goes f = false := by
  have hf : ∀ (g : FuncId) (fn : Func), P.funcs[g]? = some fn → fn.goes = false := by
    intro g fn hg
    rw [Array.any_eq_false] at h
    obtain ⟨hlt, rfl⟩ := Array.getElem?_eq_some_iff.1 hg
    cases hx : (P.funcs[g]).goes with
    | false => rfl
    | true => exact absurd hx (h g hlt)
  unfold Program.goes
  rw [h, Bool.and_false, Bool.or_false]
  refine Bool.eq_false_iff.2 fun hx => ?_
  simp only [List.any_eq_true] at hx
  obtain ⟨g, _, hg⟩ := hx
  cases he : P.funcs[g]? with
  | none => rw [he] at hg; cases hg
  | some fn =>
    rw [he] at hg
    have := hf g fn he
    simp only [Option.any_some] at hg
    rw [this] at hg
    cases hg

theorem goesBy_false {P : Program} (h : P.funcs.any Func.goes = false) (c : OpenClaim) : c.goesBy P = false := by
  unfold OpenClaim.goesBy Program.goesAt Program.goesFrom
  have e1 : (P.funcNamed c.func).any P.goes = false := by
    cases P.funcNamed c.func with
    | none => rfl
    | some f => exact goes_false h f
  have e2 : P.inits.toList.any P.goes = false := by
    rw [List.any_eq_false]
    intro f _
    rw [goes_false h f]
    decide
  rw [e1, e2]
  cases c.start <;> rfl

end Go.AE

namespace Go.Proofs.YtfngechoipngmaaGreatDoor
open Go.ChangeShapes Go.WideShapes
set_option maxRecDepth 100000

theorem kinds_type : (Tryz.prog.globals[0]?).map (·.type) = some 105 := by kernel_rfl
theorem kinds_named : Tryz.prog.globalNamed "pantomime/asm.kinds" = some 0 := by kernel_rfl
theorem pow_type : (Tryz.prog.globals[2]?).map (·.type) = some 158 := by kernel_rfl
theorem pow_named : Tryz.prog.globalNamed "internal/strconv.uint64pow10" = some 2 := by kernel_rfl
theorem err_named : Tryz.prog.globalNamed "strconv.ErrRange" = some 6 := by kernel_rfl

theorem list4v {l : List Value} {a b c d : Value} (h : l.length = 4) (h0 : (l.drop 0).take 1 = [a]) (h1 : (l.drop 1).take 1 = [b]) (h2 : (l.drop 2).take 1 = [c]) (h3 : (l.drop 3).take 1 = [d]) : l = [a, b, c, d] := by
  match l, h with
  | [x0, x1, x2, x3], _ => simp at h0 h1 h2 h3; simp [h0, h1, h2, h3]

/-- what the table of operand kinds holds -/
theorem kinds_cells {W : World} {base fuel : Nat} {sp : Nat → Bool} {held : Bool} {enc : TypeId × Value → Unit} {cs : List Value} {p : List MemPlace}
    (h : DataW.trod enc Tryz.prog W base sp held fuel 105 cs = some (.agg [.lit (.string []), .lit (.string [60]), .lit (.string [62]), .lit (.string [63])], p)) : cs = kindCells.toList := by
  obtain ⟨xs, m, _, hx, hl, hn, hi⟩ := DataW.trod_array Tryz.underlying105 h
  have hC : Tryz.prog.cellsOf 105 = 4 := by kernel_rfl
  have hC9 : Tryz.prog.cellsOf 9 = 1 := by kernel_rfl
  rw [hC] at hl
  simp only [hC9, Nat.mul_one] at hi
  match xs, hn with
  | [x0, x1, x2, x3], _ =>
    have g0 := hi 0 (by decide)
    have g1 := hi 1 (by decide)
    have g2 := hi 2 (by decide)
    have g3 := hi 3 (by decide)
    obtain ⟨s0, e0, f0, _⟩ := DataW.trod_string Tryz.underlying9 g0
    obtain ⟨s1, e1, f1, _⟩ := DataW.trod_string Tryz.underlying9 g1
    obtain ⟨s2, e2, f2, _⟩ := DataW.trod_string Tryz.underlying9 g2
    obtain ⟨s3, e3, f3, _⟩ := DataW.trod_string Tryz.underlying9 g3
    subst f0 f1 f2 f3
    simp only [Prod.mk.injEq, DataW.agg.injEq, List.map_cons, List.map_nil, List.cons.injEq, DataW.lit.injEq, Lit.string.injEq, and_true] at hx
    obtain ⟨⟨k0, k1, k2, k3⟩, _⟩ := hx
    have q : ∀ (s : ByteArray) (l : List UInt8), l = s.data.toList → s = ⟨l.toArray⟩ := fun s l h => ByteArray.ext (Array.ext' h.symm)
    rw [list4v hl e0 e1 e2 e3, q s0 _ k0, q s1 _ k1, q s2 _ k2, q s3 _ k3]
    rfl

/-- the package variables that the run reads -/
theorem vars_g {W : World} (h : laidMetH Tryz.prog Rows.asmAgainRow.laid W) : G W := by
  rw [MakeChecks.laidMetH_plain _ _ _ (by kernel_rfl)] at h
  have hk : Rows.asmAgainRow.laid[5]? = some ("pantomime/asm.kinds", .agg [.lit (.string []), .lit (.string [60]), .lit (.string [62]), .lit (.string [63])]) := rfl
  have hp : Rows.asmAgainRow.laid[2]? = some ("internal/strconv.uint64pow10", Lib.tabData .u64 Lib.pow10Tab) := rfl
  have he : Rows.asmAgainRow.laid[3]? = some ("strconv.ErrRange", Rows.laid_strconv_ErrRange) := rfl
  refine ⟨?_, ?_, ?_⟩
  · obtain ⟨g, t, cs, fuel, p, hg, ht, hvar, hd⟩ := Lib.laidMet.reads h (List.mem_of_getElem? he)
    unfold World.var? at hvar
    rw [err_named] at hvar
    simp only [Option.bind_some] at hvar
    rcases Nat.lt_or_ge 6 W.heap.size with h6 | h6
    · exact h6
    · rw [Array.getElem?_eq_none h6] at hvar
      cases hvar
  · obtain ⟨g, t, cs, fuel, p, hg, ht, hvar, hd⟩ := Lib.laidMet.reads h (List.mem_of_getElem? hp)
    obtain rfl := Option.some.inj (pow_named.symm.trans hg)
    obtain rfl := Option.some.inj (pow_type.symm.trans ht)
    have hc := Lib.cells_of_tab (n := 20) Tryz.underlying158 Tryz.underlying134 (by kernel_rfl) (by kernel_rfl) hd
    unfold World.var? at hvar
    rw [pow_named] at hvar
    simp only [Option.bind_some] at hvar
    split at hvar
    · rename_i cs' t fr hb
      cases hvar
      refine ⟨t, fr, ?_⟩
      rw [hb, ← Array.toArray_toList (xs := cs), hc]
      rfl
    · cases hvar
  · obtain ⟨g, t, cs, fuel, p, hg, ht, hvar, hd⟩ := Lib.laidMet.reads h (List.mem_of_getElem? hk)
    obtain rfl := Option.some.inj (kinds_named.symm.trans hg)
    obtain rfl := Option.some.inj (kinds_type.symm.trans ht)
    have hc := kinds_cells hd
    unfold World.var? at hvar
    rw [kinds_named] at hvar
    simp only [Option.bind_some] at hvar
    split at hvar
    · rename_i cs' t fr hb
      cases hvar
      refine ⟨t, fr, ?_⟩
      rw [hb, ← Array.toArray_toList (xs := cs), hc]
    · cases hvar

theorem syn_named : Tryz.prog.globalNamed "strconv.ErrSyntax" = some 5 := by kernel_rfl
theorem syn_type : (Tryz.prog.globals[5]?).map (·.type) = some 53 := by kernel_rfl
theorem rng_type : (Tryz.prog.globals[6]?).map (·.type) = some 53 := by kernel_rfl

/-- an error's variable -/
theorem err_cell {W : World} {b fuel : Nat} {sp : Nat → Bool} {enc : TypeId × Value → Unit} {cs : Array Value} {t : TypeId} {fr : Nat × Nat} {nm : String} {d : DataW Unit} {p : List MemPlace} (hb : W.heap[b]? = some (.cells cs t fr))
    (h : DataW.trod enc Tryz.prog W 0 sp false fuel 53 cs.toList = some (.iface nm d, p)) : ∃ ev, W.cell? ⟨b, 0, none⟩ = some ev ∧ (ev = .nilIface ∨ ∃ te pe, ev = .iface te pe) := by
  obtain ⟨_, u, v, hcs, _, _⟩ := iface_of_trod Tryz.underlying53 h
  refine ⟨.iface u v, ?_, .inr ⟨u, v, rfl⟩⟩
  rw [Lib.cell_of_heap hb, ← Array.getElem?_toList, hcs]
  rfl

theorem vars_of {W : World} (h0 : laidMetH Tryz.prog Rows.asmAgainRow.laid W) : GE W := by
  have hg := vars_g h0
  have h := h0
  rw [MakeChecks.laidMetH_plain _ _ _ (by kernel_rfl)] at h
  have h3 : Rows.asmAgainRow.laid[3]? = some ("strconv.ErrRange", Rows.laid_strconv_ErrRange) := rfl
  have h4 : Rows.asmAgainRow.laid[4]? = some ("strconv.ErrSyntax", Rows.laid_strconv_ErrSyntax) := rfl
  refine ⟨hg, ?_, ?_⟩
  · obtain ⟨g, t, cs, fuel, p, hg, ht, hvar, hd⟩ := Lib.laidMet.reads h (List.mem_of_getElem? h4)
    obtain rfl := Option.some.inj (syn_named.symm.trans hg)
    obtain rfl := Option.some.inj (syn_type.symm.trans ht)
    unfold World.var? at hvar
    rw [syn_named] at hvar
    simp only [Option.bind_some] at hvar
    split at hvar
    · rename_i cs' t fr hb
      cases hvar
      exact err_cell hb hd
    · cases hvar
  · obtain ⟨g, t, cs, fuel, p, hg, ht, hvar, hd⟩ := Lib.laidMet.reads h (List.mem_of_getElem? h3)
    obtain rfl := Option.some.inj (err_named.symm.trans hg)
    obtain rfl := Option.some.inj (rng_type.symm.trans ht)
    unfold World.var? at hvar
    rw [err_named] at hvar
    simp only [Option.bind_some] at hvar
    split at hvar
    · rename_i cs' t fr hb
      cases hvar
      exact err_cell hb hd
    · cases hvar

theorem wf64 {n : Int} (h : (Lit.int .i64 n).wf = true) : inI n := by
  simp only [Lit.wf, Bool.and_eq_true, decide_eq_true_eq] at h
  have e1 : IntKind.i64.min = -9223372036854775808 := by decide
  have e2 : IntKind.i64.max = 9223372036854775807 := by decide
  rw [e1, e2] at h
  exact h

theorem own : ownKnob Tryz.prog.godebug = none := by kernel_rfl
theorem laid : laidOutB Tryz.prog = true := by kernel_rfl

end Go.Proofs.YtfngechoipngmaaGreatDoor

namespace Go.Proofs.YtfngechoipngmaaGreatDoor.asmAgain
open Go.ChangeShapes Go.WideShapes Go.ChangeAt Go.RowKit
set_option maxRecDepth 100000

theorem funcs_goes : Tryz.prog.funcs.any Func.goes = false := by kernel_rfl

theorem card_goes : false = Rows.asmAgainRow.goesBy Tryz.pinned.checked.prog := (AE.goesBy_false funcs_goes _).symm

/-- there is an input that fits -/
theorem witness (os : Os) (H : Type) (enc : TypeId × Value → H) :
    ∃ (w : World) (tape : Tape) (i : Input), w.os = os ∧ (w.forCall tape i).Shaped Tryz.prog ∧ i.vars = [] ∧ Input.okWide Tryz.prog (w.forCall tape i) .any w.heap.size 4 i ∧
      (OpenSpec.ofChange Rows.asmAgainSpec).preRow enc Tryz.prog Tryz.f4 Rows.asmAgainRow.domain false Rows.asmAgainRow.laid (w.forCall tape i).memory i.args ∧ ({} : Assume).holds Tryz.prog (lone (Frame.enter Tryz.prog 4 i.args .normal) [] (w.forCall tape i)) := by
  have hok : Input.okWideB Tryz.prog ((World.laidAll Tryz.prog os Rows.asmAgainRow.laid).forCall (fun _ _ => 0) ⟨#[], #[.string ⟨#[]⟩, .int .i64 0], []⟩) 4 ⟨#[], #[.string ⟨#[]⟩, .int .i64 0], []⟩ = true := by kernel_rfl
  refine ⟨World.laidAll Tryz.prog os Rows.asmAgainRow.laid, fun _ _ => 0, ⟨#[], #[.string ⟨#[]⟩, .int .i64 0], []⟩, World.laidAll_os _ _ _, World.shaped_of_ZipB (by kernel_rfl) (by kernel_rfl), (Input.okWide_of_okWideB (base := 0) hok).1, (Input.okWide_of_okWideB hok).2, ?_, ?_⟩
  · exact OpenSpec.preRow_of_cond 8 (x := ([.lit (.string []), .lit (.int .i64 0)], [], [])) (by kernel_rfl) (by kernel_rfl) (fun k hk => by cases hk) (by kernel_rfl)
      (by rw [MakeChecks.laidMetH_plain _ _ _ (by kernel_rfl)]; exact laidMet_laidAll _ (by kernel_rfl) (by kernel_rfl))
  · simp only [Assume.holds]
    exact ⟨by simp, by simp, fun _ => Modest.zero, by simp, by simp⟩

theorem lifted (os : Os) (started : os.Started) (H : Type) (enc : TypeId × Value → H) (F : Stop.Interp) :
    ReturnsInHanded {} Tryz.checked os 4 .any ((OpenSpec.ofChange Rows.asmAgainSpec).preRow enc Tryz.prog Tryz.f4 Rows.asmAgainRow.domain false Rows.asmAgainRow.laid) (((OpenSpec.ofChange Rows.asmAgainSpec).at F).post enc Tryz.prog Tryz.f4 false true false false) := by
  refine returnsInHanded_of_row (C := Tryz.checked) (s := OpenSpec.ofChange Rows.asmAgainSpec) own started (by kernel_rfl) Tryz.func4 (witness os H enc) ?_
  intro W base args ds gs before hval0 hW _ _ hreach hL _ _
  have hval : ∀ (j : Nat) t v, Tryz.f4.params[j]? = some t → args[j]? = some v → Value.okWide Tryz.prog W .any base t v := hval0
  have hW' : DataW.Whole enc Tryz.prog Tryz.f4.params.toList Rows.asmAgainSpec.vars false W args.toList ds gs before := hW
  obtain ⟨p, q, hA0, hV, rfl, hfz, hnd⟩ := hW
  have hA : DataW.TrodAll enc Tryz.prog W 0 (fun _ => true) true Tryz.f4.params.toList args.toList ds p := hA0
  have hA1 := hA
  rw [Tryz.params4] at hA hval
  obtain ⟨v0, vs0, d0, ds0, p0, q0, hargs, rfl, rfl, h0, r0⟩ := trodAll_cons hA
  obtain ⟨v1, vs1, d1, ds1, p1, q1, rfl, rfl, rfl, h1, r1⟩ := trodAll_cons r0
  obtain ⟨rfl, rfl, rfl⟩ := trodAll_nil r1
  obtain rfl : args = #[v0, v1] := by cases args; simp_all
  obtain ⟨rfl, rfl⟩ := trodVars_none hV
  obtain ⟨m1, rfl, rfl, rfl, w1⟩ := open_int Tryz.underlying3 (hval 1 3 v1 rfl rfl) h1
  obtain ⟨s0, rfl, rfl, rfl, w0⟩ := Go.ChangeMaps.open_string Tryz.underlying9 (hval 0 9 v0 rfl rfl) h0
  have hlt := hW'.lt
  have hG := vars_of hL
  refine (again_ret s0 m1 (wf64 w1) W hG (fun W' h => goes_ret W' h.g)).mono fun e W' ⟨he, hg⟩ => ?_
  subst he
  refine ⟨_, rfl, AE.post_of_below (pa := [] ++ ([] ++ [])) (pv := []) hW' (fun _ _ _ => (trodAll_cons_mk (shut_bool Tryz.underlying4 _) trodAll_mk0)) (fun sp hsp => ?_) (fun _ _ => rfl) rfl
    hg (ok_one (by kernel_rfl) rfl (okWide_bool_mk Tryz.underlying4 _))⟩
  exact AE.trodAll_stays laid hg (by kernel_rfl) hA1 (fun x hx => by simp at hx) fun x hx => by simp at hx

theorem over : Rows.AsmAgainSaid :=
  OpenClaim.holds_of_cond 4 Tryz.f4 rfl rfl rfl rfl rfl rfl rfl ⟨rfl, rfl, rfl, rfl, rfl⟩ rfl rfl rfl rfl rfl named Tryz.func4 closed instanced wrapped
    (fun os started H enc _ F => by rw [OpenClaim.pre_eq_preRow]; exact lifted os started H enc F)

/-- the statement -/
theorem proved : Rows.AsmAgainCardSaid :=
  Claim7.holds_tied_plain_at .later [] [.data, .data, .data, .sentinel, .sentinel, .data] true _ _
    over (fun _ h => by cases h) (by as_aux_lemma => kernel_rfl) (fun _ h => by cases h) asmAgain_row_tie rfl ⟨rfl, rfl⟩ (by as_aux_lemma => kernel_rfl) rfl
    (fun f fn hf hfn => by
      obtain rfl : f = 4 := Option.some.inj (named.symm.trans hf) |>.symm
      obtain rfl : fn = Tryz.f4 := (Option.some.inj (Tryz.func4.symm.trans hfn)).symm
      exact ⟨by as_aux_lemma => kernel_rfl, fun j t ht => by
        rw [Tryz.params4] at ht
        have hm : t ∈ [9, 3] := by simpa using Array.mem_of_getElem? ht
        have hall : ([9, 3].all fun u => !Tryz.prog.wantsStandIn u) = true := by as_aux_lemma => kernel_rfl
        exact (show Tryz.prog.wantsStandIn t = false by simpa using List.all_eq_true.1 hall t hm)⟩)
    card_goes
#print axioms proved
end Go.Proofs.YtfngechoipngmaaGreatDoor.asmAgain
