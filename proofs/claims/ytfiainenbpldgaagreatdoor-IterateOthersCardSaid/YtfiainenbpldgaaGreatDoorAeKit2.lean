/-
  AeOps: The operations that only compute.
  AeEq: '==' and the binary operations.
  AeBin: Binary operations, slices, literals.
  AeSlice: Slice expressions, literals.
  AeMake: Literals, and what is made: the values and the rows.
  AeAlloc: What makes one block, and what reads one.
  AeMap: Maps.
  AeAct: What changes the heap: stores, maps, ranges.
  AeApp: append and copy.
  AeAppend: append, copy: what they do.
  AeNext: copy; the next entry of a range.
-/
import Derived.Test.YtfiainenbpldgaaGreatDoorAeKit1
import Derived.Laws.StructEq
import Derived.Deep.AppendSrc

namespace Go.AE

section
variable {Y : Sy} {E : Env} {ρ : Rho} {w : World}

/-- a value of the model's for a value of the evaluator's -/
def Yields (Y : Sy) (E : Env) (ρ : Rho) (w : World) (s : Sem Value) (v : AV) : Prop := ∃ cv, s.run E.P w = .ok cv w ∧ conc Y ρ v = some cv

theorem pick_ok {c a b v : AV} {cc ca cb : Value} (h : pickA c a b = some v) (hc : conc Y ρ c = some cc) (ha : conc Y ρ a = some ca) (hb : conc Y ρ b = some cb) :
    Yields Y E ρ w (do pure (if ← asBool cc then ca else cb)) v := by
  unfold pickA at h
  split at h
  · cases h; cases hc; exact ⟨ca, by simp [asBool], ha⟩
  · cases h; cases hc; exact ⟨cb, by simp [asBool], hb⟩
  · rename_i e ks e' ks'
    split at h
    · rename_i h1 h2
      cases h
      obtain rfl := eqX_eq h1
      obtain rfl := eqIs_eq h2
      cases hc
      cases hb
      simp only [conc] at ha
      cases hi : inV (e.val Y) ks with
      | true =>
        rw [hi, if_pos rfl] at ha
        cases ha
        exact ⟨.bool false, by simp [asBool, Q.val, hi], rfl⟩
      | false => exact ⟨.bool false, by simp [asBool, Q.val, hi], rfl⟩
    · cases h
  · cases h

theorem fieldAddr_ok (hE : EnvOk Y E) {s : TypeId} {f : Nat} {x v : AV} {cx : Value} (h : fieldAddrP E s f x = some v) (hx : conc Y ρ x = some cx) : Yields Y E ρ w (Instr.fieldAt s cx f) v := by
  unfold fieldAddrP at h
  cases hund : E.und s with
  | none => rw [hund] at h; cases h
  | some d =>
    rw [hund] at h
    cases d with
    | struct fields =>
      dsimp only at h
      cases hfd : fields.toList[f]? with
      | none => rw [hfd] at h; cases h
      | some fd =>
        rw [hfd] at h
        dsimp only at h
        cases hn : E.size fd.type with
        | none => rw [hn] at h; cases h
        | some n =>
          rw [hn] at h
          dsimp only at h
          cases hn0 : Nat.beq n 0 with
          | true => rw [hn0] at h; cases h
          | false =>
            rw [hn0] at h
            dsimp only at h
            cases hp : asP x with
            | none => rw [hp] at h; cases h
            | some p =>
              rw [hp] at h
              rw [asP_eq hp] at hx
              simp only [conc, Option.map_eq_some_iff] at hx
              obtain ⟨L, hL, rfl⟩ := hx
              simp only [forceN_eq] at h
              cases h
              have hn1 : n ≠ 0 := Nat.ne_of_beq_eq_false hn0
              have hfd' : fields[f]? = some fd := by rw [← hfd, Array.getElem?_toList]
              refine ⟨.pointer (some (L.addr (p.2 + fd.offset))), ?_, by simp [conc, hL]⟩
              simp [Instr.fieldAt, run_und hE hund, hfd', Instr.sureAddr, fieldPlace, run_size hE hn, hn1, addr_add]
    | _ => cases h

theorem part_ok (hE : EnvOk Y E) {t : TypeId} {l : List AV} {cs : List Value} {off : Nat} {v : AV} (h : partA E t l off = some v) (hl : concs Y ρ l = some cs) (hcell : l.all isCell = true) :
    Yields Y E ρ w (part t cs.toArray off) v := by
  unfold partA at h
  split at h
  · cases h
  · rename_i d hd
    split at h
    · rename_i hagg
      split at h
      · rename_i n hn
        cases h
        have hsub : ((l.drop off).take n).all isCell = true := by
          rw [List.all_eq_true] at hcell ⊢
          exact fun x hx => hcell x (List.mem_of_mem_drop (List.mem_of_mem_take hx))
        refine ⟨.agg ((cs.drop off).take n).toArray, ?_, by simp [conc, hsub, concs_take (concs_drop hl off) n]⟩
        simp [part, run_isAgg hE hd, hagg, run_size hE hn]
      · cases h
    · rename_i hagg
      obtain ⟨cv, h1, h2⟩ := concs_getElem hl off v h
      refine ⟨cv, ?_, h1⟩
      simp [part, run_isAgg hE hd, hagg, h2]

theorem conc_agg {l : List AV} {c : Value} (h : conc Y ρ (.agg l) = some c) : ∃ cs, concs Y ρ l = some cs ∧ c = .agg cs.toArray ∧ l.all isCell = true := by
  simp only [conc] at h
  split at h
  · rename_i h0
    split at h
    · rename_i cs h1; cases h; exact ⟨cs, h1, rfl, h0⟩
    · cases h
  · cases h

theorem conc_tuple {l : List AV} {c : Value} (h : conc Y ρ (.tuple l) = some c) : ∃ cs, concs Y ρ l = some cs ∧ c = .tuple cs.toArray := by
  simp only [conc] at h
  split at h
  · rename_i cs h1; cases h; exact ⟨cs, h1, rfl⟩
  · cases h

theorem field_ok (hE : EnvOk Y E) {t : TypeId} {f : Nat} {x v : AV} {cx : Value} (h : fieldA E t x f = some v) (hx : conc Y ρ x = some cx) : Yields Y E ρ w (Instr.field t cx f) v := by
  unfold fieldA at h
  split at h
  · rename_i fields l hund
    split at h
    · rename_i fd hfd
      obtain ⟨cs, h1, rfl, h2⟩ := conc_agg hx
      obtain ⟨cv, h3, h4⟩ := part_ok (w := w) hE h h1 h2
      have hfd' : fields[f]? = some fd := by rw [← hfd, Array.getElem?_toList]
      exact ⟨cv, by simp [Instr.field, run_und hE hund, hfd', asAgg, h3], h4⟩
    · cases h
  · cases h

theorem extract_ok {x v : AV} {i : Nat} {cx : Value} (h : extractA x i = some v) (hx : conc Y ρ x = some cx) : Yields Y E ρ w (Instr.extract cx i) v := by
  unfold extractA at h
  split at h
  · obtain ⟨cs, h1, rfl⟩ := conc_tuple hx
    obtain ⟨cv, h2, h3⟩ := concs_getElem h1 i v h
    exact ⟨cv, by simp [Instr.extract, h3], h2⟩
  · cases h

theorem conc_ptr {b o : Nat} {c : Value} (h : conc Y ρ (.ptr b o) = some c) : ∃ L, ρ b = some L ∧ c = .pointer (some (L.addr o)) := by
  simp only [conc, Option.map_eq_some_iff] at h
  obtain ⟨L, h1, h2⟩ := h
  exact ⟨L, h1, h2.symm⟩
theorem conc_slice {b o n c : Nat} {cv : Value} (h : conc Y ρ (.slice b o n c) = some cv) : ∃ L, ρ b = some L ∧ cv = .slice (some (L.addr o)) n c := by
  simp only [conc, Option.map_eq_some_iff] at h
  obtain ⟨L, h1, h2⟩ := h
  exact ⟨L, h1, h2.symm⟩
theorem conc_gslice' {b o n p : Nat} {cv : Value} (h : conc Y ρ (.gslice b o n p) = some cv) : ∃ L, ρ b = some L ∧ cv = .slice (some (L.addr o)) n (L.cap - p) ∧ n ≤ L.cap - p := by
  simp only [conc, Option.bind_eq_some_iff] at h
  obtain ⟨L, h1, h2⟩ := h
  split at h2
  · rename_i hle; cases h2; exact ⟨L, h1, rfl, hle⟩
  · cases h2
theorem conc_gslice {b o n p : Nat} {cv : Value} (h : conc Y ρ (.gslice b o n p) = some cv) : ∃ L, ρ b = some L ∧ cv = .slice (some (L.addr o)) n (L.cap - p) :=
  let ⟨L, h1, h2, _⟩ := conc_gslice' h
  ⟨L, h1, h2⟩
theorem conc_oslice {i : Nat} {cv : Value} (h : conc Y ρ (.oslice i) = some cv) : cv = .slice (Y.sls i).1 (Y.sls i).2.1 (Y.sls i).2.2 := by
  simp only [conc] at h
  cases h
  rfl

theorem conc_uslice {i b o lo hi : Nat} {cv : Value} (h : conc Y ρ (.uslice i b o lo hi) = some cv) :
    cv = .slice (Y.sls i).1 (Y.sls i).2.1 (Y.sls i).2.2 ∧ lo ≤ (Y.sls i).2.1 ∧ (Y.sls i).2.1 ≤ hi ∧
      (lo ≠ 0 → ∃ L, ρ b = some L ∧ (Y.sls i).1 = some (L.addr o) ∧ (Y.sls i).2.1 ≤ L.cap ∧ (Y.sls i).2.2 = L.cap) := by
  simp only [conc] at h
  split at h
  · rename_i h1
    split at h
    · rename_i h2
      cases h
      exact ⟨rfl, h1.1, h1.2, fun h3 => absurd h2 h3⟩
    · rw [Option.bind_eq_some_iff] at h
      obtain ⟨L, hL, h⟩ := h
      split at h
      · rename_i h3
        cases h
        exact ⟨rfl, h1.1, h1.2, fun _ => ⟨L, hL, h3.1, h3.2.1, h3.2.2⟩⟩
      · cases h
  · cases h

theorem conc_eslice {b o l s p : Nat} {cv : Value} (h : conc Y ρ (.eslice b o l s p) = some cv) : ∃ a c, cv = .slice (some a) 0 c := by
  simp only [conc, Option.bind_eq_some_iff] at h
  obtain ⟨L, _, h⟩ := h
  split at h
  · split at h <;> (cases h; exact ⟨_, _, rfl⟩)
  · cases h
theorem conc_of_gslice {b o n p : Nat} {L : Loc} (hL : ρ b = some L) (hle : n ≤ L.cap - p) : conc Y ρ (.gslice b o n p) = some (.slice (some (L.addr o)) n (L.cap - p)) := by
  simp [conc, hL, hle]
theorem conc_map {b : Nat} {cv : Value} (h : conc Y ρ (.map b) = some cv) : ∃ L, ρ b = some L ∧ cv = .map (some L.blk) := by
  simp only [conc, Option.map_eq_some_iff] at h
  obtain ⟨L, h1, h2⟩ := h
  exact ⟨L, h1, h2.symm⟩
theorem conc_iface {t : TypeId} {v : AV} {cv : Value} (h : conc Y ρ (.iface t v) = some cv) : ∃ c, conc Y ρ v = some c ∧ cv = .iface t c := by
  simp only [conc] at h
  split at h
  · rename_i c h1; cases h; exact ⟨c, h1, rfl⟩
  · cases h

theorem asIx_conc {v : AV} {n : Int} {c : Value} (h : asIx v = some n) (hc : conc Y ρ v = some c) : ∃ kd, c = .int kd n := by
  unfold asIx at h
  split at h
  · cases h; cases hc; exact ⟨_, rfl⟩
  · cases h
    unfold conc at hc
    cases hc
    exact ⟨_, rfl⟩
  · cases h

theorem indexAddr_ok (hE : EnvOk Y E) {t : TypeId} {x i v : AV} {cx ci : Value} (h : indexAddrP E t x i = some v) (hx : conc Y ρ x = some cx) (hi : conc Y ρ i = some ci) : Yields Y E ρ w (Instr.indexAt t cx ci) v := by
  unfold indexAddrP at h
  cases hd : E.und t with
  | none => rw [hd] at h; cases h
  | some d =>
    rw [hd] at h
    dsimp only at h
    cases he : elemOfD d with
    | none => rw [he] at h; cases h
    | some e =>
      rw [he] at h
      dsimp only at h
      cases hs : E.size e with
      | none => rw [hs] at h; cases h
      | some s =>
        rw [hs] at h
        dsimp only at h
        cases hq : spanOf d x with
        | none => rw [hq] at h; cases h
        | some q =>
          rw [hq] at h
          cases hn : asIx i with
          | none => simp only [hn] at h; cases h
          | some n =>
            simp only [hn] at h
            cases hm : natI n with
            | none => simp only [hm] at h; cases h
            | some m =>
              simp only [hm] at h
              cases hlt : Nat.blt m q.2.2 with
              | false => simp only [hlt] at h; cases h
              | true =>
                simp only [hlt, forceN_eq] at h
                have hlt' := (blt_iff _ _).1 hlt
                have hn' := natI_eq hm
                subst hn'
                obtain ⟨kd, rfl⟩ := asIx_conc hn hi
                have hcond : 0 ≤ (m : Int) ∧ (m : Int) < (q.2.2 : Int) := by omega
                cases h
                have hund := run_und (w := w) hE hd
                have hsz := run_size (w := w) hE hs
                unfold spanOf at hq
                split at hq
                · cases hq
                  cases he
                  obtain ⟨L, hL, rfl⟩ := conc_slice hx
                  refine ⟨.pointer (some (L.addr _)), ?_, by simp only [conc, hL]; rfl⟩
                  simp only [Instr.indexAt, asIntOf, Sem.run_bind, Sem.run_pure, Result.andThen_ok, hund, Sem.run_ite]
                  rw [if_pos hcond]
                  simp [hsz, addr_add]
                · cases hq
                  cases he
                  obtain ⟨L, hL, rfl⟩ := conc_gslice hx
                  refine ⟨.pointer (some (L.addr _)), ?_, by simp only [conc, hL]; rfl⟩
                  simp only [Instr.indexAt, asIntOf, Sem.run_bind, Sem.run_pure, Result.andThen_ok, hund, Sem.run_ite]
                  rw [if_pos hcond]
                  simp [hsz, addr_add]
                · cases hq
                  cases he
                  obtain ⟨rfl, g1, _, g2⟩ := conc_uslice hx
                  have hn0 : ∀ {x : Nat}, m < x → x ≠ 0 := fun h => by omega
                  obtain ⟨L, hL, ha, _, _⟩ := g2 (hn0 hlt')
                  refine ⟨.pointer (some (L.addr _)), ?_, by simp only [conc, hL]; rfl⟩
                  rw [ha]
                  simp only [Instr.indexAt, asIntOf, Sem.run_bind, Sem.run_pure, Result.andThen_ok, hund, Sem.run_ite]
                  rw [if_pos (by dsimp only at hcond; omega)]
                  simp [hsz, addr_add]
                · cases hq
                  cases he
                  obtain ⟨L, hL, rfl⟩ := conc_ptr hx
                  refine ⟨.pointer (some (L.addr _)), ?_, by simp only [conc, hL]; rfl⟩
                  simp only [Instr.indexAt, asIntOf, Instr.sureAddr, Sem.run_bind, Sem.run_pure, Result.andThen_ok, hund, Sem.run_ite]
                  rw [if_pos hcond]
                  simp [hsz, addr_add]
                · cases hq

theorem indexK_ok (hE : EnvOk Y E) {t : TypeId} {x i v : AV} {cx ci : Value} (h : indexK E t x i = some v) (hx : conc Y ρ x = some cx) (hi : conc Y ρ i = some ci) : Yields Y E ρ w (Instr.index t cx ci) v := by
  unfold indexK at h
  split at h
  · rename_i n hn
    obtain ⟨k, rfl⟩ := conc_anyI hn hi
    split at h
    · cases h
    · rename_i m hm
      have hn' := natI_eq hm
      subst hn'
      split at h
      · rename_i s hund
        obtain ⟨hok, rfl⟩ := conc_str hx
        split at h
        · rename_i b hb
          cases h
          have hlt : m < s.length := by
            rcases Nat.lt_or_ge m s.length with h' | h'
            · exact h'
            · rw [List.getElem?_eq_none h'] at hb; cases hb
          have hb256 : b < 256 := by
            have := List.all_eq_true.1 hok b (List.mem_of_getElem? hb)
            simpa using this
          refine ⟨.int .u8 b, ?_, rfl⟩
          have hget : (bytesV s)[m]? = some (UInt8.ofNat b) := by
            have h1 : (bytesV s).data[m]? = some (UInt8.ofNat b) := by simp [bytesV, hb]
            have h2 : m < (bytesV s).size := by rw [bytesV_size]; exact hlt
            rw [Array.getElem?_eq_some_iff] at h1
            obtain ⟨h3, h4⟩ := h1
            have h5 : (bytesV s)[m]? = some (bytesV s)[m] := getElem?_pos (bytesV s) m h2
            rw [h5, ← h4]
            rfl
          simp only [Instr.index, asIntOf, Sem.run_bind, Sem.run_pure, Result.andThen_ok, run_und hE hund]
          have h0 : (0 : Int) ≤ (m : Int) := by omega
          simp only [h0, if_true, Int.toNat_natCast, hget, Sem.run_pure, toNat_ofNat hb256]
        · cases h
      · rename_i si lo hi hund
        obtain ⟨rfl, a1, _⟩ := conc_sstr hx
        split at h
        · rename_i hlt
          cases h
          have hlt' : m < (Y.strs si).size := Nat.lt_of_lt_of_le ((blt_iff _ _).1 hlt) a1
          have hget : (Y.strs si)[m]? = some (Y.strs si)[m] := getElem?_pos (Y.strs si) m hlt'
          have hval : SX.val Y (.byte si m) = ((Y.strs si)[m].toNat : Int) := by
            show (((Y.strs si)[m]?.getD 0).toNat : Int) = _
            rw [hget]
            rfl
          have hb := (Y.strs si)[m].toNat_lt
          refine ⟨.int .u8 ((Y.strs si)[m].toNat : Int), ?_, ?_⟩
          · simp only [Instr.index, asIntOf, Sem.run_bind, Sem.run_pure, Result.andThen_ok, run_und hE hund]
            have h0 : (0 : Int) ≤ (m : Int) := by omega
            simp only [h0, if_true, Int.toNat_natCast, hget, Sem.run_pure]
          · rw [← hval]
            exact mkSym_ok hE (e := .byte si m) (by rw [hval]; omega) (by rw [hval]; omega)
        · cases h
      · rename_i len elem l hund
        obtain ⟨cs, h1, rfl, h2⟩ := conc_agg hx
        split at h
        · rename_i s hlt hs
          have hlt' := (blt_iff _ _).1 hlt
          obtain ⟨cv, h3, h4⟩ := part_ok (w := w) hE h h1 h2
          refine ⟨cv, ?_, h4⟩
          have hcond : 0 ≤ (m : Int) ∧ (m : Int) < (len : Int) := by omega
          simp only [Instr.index, asIntOf, Sem.run_bind, Sem.run_pure, Result.andThen_ok, run_und hE hund, Sem.run_ite]
          rw [if_pos hcond]
          simp only [run_size hE hs, Result.andThen_ok, Int.toNat_natCast]
          exact h3
        · cases h
      · cases h
  · cases h

theorem index_ok (hE : EnvOk Y E) {t : TypeId} {x i v : AV} {cx ci : Value} (h : indexA E t x i = some v) (hx : conc Y ρ x = some cx) (hi : conc Y ρ i = some ci) : Yields Y E ρ w (Instr.index t cx ci) v := by
  unfold indexA at h
  split at h
  · rename_i h0
    cases h
    exact indexK_ok hE h0 hx hi
  · split at h
    · rename_i hu
      obtain ⟨s, n, k, b, h1, h2, h3, h4⟩ := hE.orc _ (orcIdx_mem h)
      obtain rfl := Option.some.inj (hx.symm.trans (h1 ρ))
      obtain rfl := Option.some.inj (hi.symm.trans (h2 ρ))
      refine ⟨_, ?_, h4 ρ⟩
      have h0 : (0 : Int) ≤ (n : Int) := by omega
      simp only [Instr.index, asIntOf, Sem.run_bind, Sem.run_pure, Result.andThen_ok, run_und hE hu, h0, if_true, Int.toNat_natCast, h3]
    · cases h

theorem nilCheck_ok {x v : AV} {cx : Value} (h : nilCheckA x = some v) (hx : conc Y ρ x = some cx) (o : Oper) (ρe : Operand → Value) (y : Operand) (ho : o.op = .nilCheck y) (hy : ρe y = cx) :
    ∃ cv, (execOp ρe o).run E.P w = .ok (.value cv) w ∧ conc Y ρ v = some cv := by
  have hv : v = x := by
    cases x <;> first | (cases h; done) | (cases h; rfl) | skip
    case func fn a c =>
      cases fn <;> first | (cases h; done) | (cases h; rfl)
  subst hv
  refine ⟨cx, ?_, hx⟩
  simp only [execOp, ho, hy]
  cases v with
  | nilptr => cases h
  | niliface => cases h
  | nilfunc => cases h
  | func fn a c =>
    simp only [conc] at hx
    split at hx
    · rename_i fn' a' c' h1 _ _
      cases hx
      cases fn with
      | func f => cases h1; rfl
      | yield l =>
        simp only [concFn, Option.map_eq_some_iff] at h1
        obtain ⟨L, _, rfl⟩ := h1
        rfl
      | method n => cases h
      | methodOf t n => cases h
      | via t p f b => cases h
    · cases hx
  | ptr b o => obtain ⟨L, _, rfl⟩ := conc_ptr hx; rfl
  | slice b o n c => obtain ⟨L, _, rfl⟩ := conc_slice hx; rfl
  | gslice b o n c => obtain ⟨L, _, rfl⟩ := conc_gslice hx; rfl
  | map b => obtain ⟨L, _, rfl⟩ := conc_map hx; rfl
  | str s => obtain ⟨_, rfl⟩ := conc_str hx; rfl
  | iface t u => obtain ⟨c, _, rfl⟩ := conc_iface hx; rfl
  | agg l => obtain ⟨cs, _, rfl, _⟩ := conc_agg hx; rfl
  | tuple l => obtain ⟨cs, _, rfl⟩ := conc_tuple hx; rfl
  | sint k e lo hi => obtain ⟨rfl, _, _⟩ := symOf_conc (v := .sint k e lo hi) rfl hx; rfl
  | sstr i lo hi => obtain ⟨rfl, _, _⟩ := conc_sstr hx; rfl
  | eslice b o l s p => obtain ⟨a, c, rfl⟩ := conc_eslice hx; rfl
  | oslice i => cases conc_oslice hx; rfl
  | opq i => cases h
  | «when» e ks u => cases h
  | uslice i b o lo hi => cases (conc_uslice hx).1; rfl
  | _ => cases hx; rfl

theorem unOp_ok {op : UnOp} {x v : AV} {cx : Value} (h : unOpA op x = some v) (hx : conc Y ρ x = some cx) : Yields Y E ρ w (Op.unary op cx) v := by
  unfold unOpA at h
  split at h
  · cases hb : asB x with
    | none => rw [hb] at h; cases h
    | some b =>
      rw [hb] at h
      rw [asB_eq hb] at hx
      cases hx
      cases h
      exact ⟨.bool !b, rfl, by cases b <;> rfl⟩
  · split at h
    · rename_i k n hk
      have := conc_kindOf hk hx
      subst this
      simp only [someI, forceI_eq] at h
      cases h
      refine ⟨.int k (k.wrap (0 - n)), ?_, conc_mkInt _ _⟩
      simp [Op.unary, Op.intArith]
    · cases h
  · split at h
    · rename_i k n hk
      have := conc_kindOf hk hx
      subst this
      simp only [someI, forceI_eq] at h
      cases h
      refine ⟨.int k (k.wrap _), ?_, conc_mkInt _ _⟩
      simp [Op.unary, Op.intBits]
    · cases h
  · cases h

theorem convert_ok (hE : EnvOk Y E) {s d : TypeId} {x v : AV} {cx : Value} (h : convertA E s d x = some v) (hx : conc Y ρ x = some cx) : Yields Y E ρ w (convert s d cx) v := by
  unfold convertA at h
  split at h
  · rename_i ds str h1 h2
    cases h
    obtain ⟨hok, rfl⟩ := conc_str hx
    refine ⟨.string (bytesV str), ?_, conc_of_str hok⟩
    simp only [convert, Sem.run_bind, run_und hE h1, run_und hE h2, Result.andThen_ok]
    rfl
  · rename_i ds k h1 h2
    split at h
    · rename_i n hn
      obtain ⟨k', rfl⟩ := conc_anyI hn hx
      simp only [someI, forceI_eq] at h
      cases h
      refine ⟨.int k (k.wrap n), ?_, conc_mkInt _ _⟩
      simp only [convert, Sem.run_bind, run_und hE h1, run_und hE h2, Result.andThen_ok, Conv.intToInt, Sem.run_pure]
    · split at h
      · rename_i e lo hi _
        cases h
        obtain ⟨rfl, a1, a2⟩ := symOf_conc (v := .sint _ e lo hi) rfl hx
        refine ⟨.int k (k.wrap (e.val Y)), ?_, symConv_ok hE a1 a2⟩
        simp only [convert, Sem.run_bind, run_und hE h1, run_und hE h2, Result.andThen_ok, Conv.intToInt, Sem.run_pure]
      · cases h
  · cases h

theorem makeIface_ok (hE : EnvOk Y E) {t : TypeId} {x v : AV} {cx : Value} (h : makeIfaceA E t x = some v) (hx : conc Y ρ x = some cx) : Yields Y E ρ w (Instr.makeInterface t cx) v := by
  unfold makeIfaceA at h
  split at h
  · cases h
  · rename_i d hne hd
    cases h
    refine ⟨.iface t cx, ?_, by simp [conc, hx]⟩
    simp only [Instr.makeInterface, Sem.run_bind, run_und hE hd, Result.andThen_ok]
    cases d <;> first | rfl | exact absurd rfl (hne _)
  · cases h

theorem cap_ok (hE : EnvOk Y E) {t ty : TypeId} {x v : AV} {cx : Value} {ts : Array TypeId} {args : Array Value} (h : capA E t x = some v) (hx : conc Y ρ x = some cx) (ht : ts[0]? = some t) (ha : args[0]? = some cx) : Yields Y E ρ w (Builtin.cap_ ts ty args) v := by
  unfold capA at h
  split at h
  · rename_i hd
    cases h
    obtain ⟨L, _, rfl⟩ := conc_slice hx
    exact ⟨_, by simp [Builtin.cap_, ht, ha, run_und hE hd, goInt], rfl⟩
  · rename_i hd
    cases h
    cases hx
    exact ⟨_, by simp [Builtin.cap_, ht, ha, run_und hE hd, goInt], rfl⟩
  · rename_i n e hd
    cases h
    exact ⟨_, by simp [Builtin.cap_, ht, ha, run_und hE hd, goInt], rfl⟩
  · cases h

theorem maxFrom_ok : ∀ {l : List AV} {a : Int} {v : AV} {cs : List Value}, maxFrom a l = some v → concs Y ρ l = some cs → Yields Y E ρ w (cs.foldlM Builtin.max2 (.int .i64 a)) v
  | [], a, v, cs, h, hc => by
    rw [concs_nil] at hc
    subst hc
    cases h
    exact ⟨_, rfl, rfl⟩
  | x :: r, a, v, cs, h, hc => by
    obtain ⟨cx, cr, h1, h2, rfl⟩ := concs_cons.1 hc
    simp only [maxFrom] at h
    split at h
    · rename_i b hb
      rw [asI_eq hb] at h1
      cases h1
      obtain ⟨cv, h3, h4⟩ := maxFrom_ok h h2
      refine ⟨cv, ?_, h4⟩
      simp only [List.foldlM_cons, Builtin.max2, pure_bind]
      rw [ltI_eq] at h3
      have e : (if b > a then b else a) = (match decide (a < b) with | true => b | false => a) := by
        by_cases hab : a < b <;> simp [hab]
      rw [e]
      exact h3
    · cases h

theorem max_ok {l : List AV} {v : AV} {cs : List Value} {ts : Array TypeId} {ty : TypeId} (h : maxA l = some v) (hc : concs Y ρ l = some cs) : Yields Y E ρ w (Builtin.max_ ts ty cs.toArray) v := by
  unfold maxA at h
  split at h
  · rename_i x r
    obtain ⟨cx, cr, h1, h2, rfl⟩ := concs_cons.1 hc
    split at h
    · rename_i a ha
      rw [asI_eq ha] at h1
      cases h1
      obtain ⟨cv, h3, h4⟩ := maxFrom_ok (w := w) h h2
      exact ⟨cv, by simpa [Builtin.max_] using h3, h4⟩
    · cases h
  · cases h

theorem minFrom_ok : ∀ {l : List AV} {a : Int} {v : AV} {cs : List Value}, minFrom a l = some v → concs Y ρ l = some cs → Yields Y E ρ w (cs.foldlM Builtin.min2 (.int .i64 a)) v
  | [], a, v, cs, h, hc => by
    rw [concs_nil] at hc
    subst hc
    cases h
    exact ⟨_, rfl, rfl⟩
  | x :: r, a, v, cs, h, hc => by
    obtain ⟨cx, cr, h1, h2, rfl⟩ := concs_cons.1 hc
    simp only [minFrom] at h
    split at h
    · rename_i b hb
      rw [asI_eq hb] at h1
      cases h1
      obtain ⟨cv, h3, h4⟩ := minFrom_ok h h2
      refine ⟨cv, ?_, h4⟩
      simp only [List.foldlM_cons, Builtin.min2, pure_bind]
      rw [ltI_eq] at h3
      have e : (if b < a then b else a) = (match decide (b < a) with | true => b | false => a) := by
        by_cases hab : b < a <;> simp [hab]
      rw [e]
      exact h3
    · cases h

theorem min_ok {l : List AV} {v : AV} {cs : List Value} {ts : Array TypeId} {ty : TypeId} (h : minA l = some v) (hc : concs Y ρ l = some cs) : Yields Y E ρ w (Builtin.min_ ts ty cs.toArray) v := by
  unfold minA at h
  split at h
  · rename_i x r
    obtain ⟨cx, cr, h1, h2, rfl⟩ := concs_cons.1 hc
    split at h
    · rename_i a ha
      rw [asI_eq ha] at h1
      cases h1
      obtain ⟨cv, h3, h4⟩ := minFrom_ok (w := w) h h2
      exact ⟨cv, by simpa [Builtin.min_] using h3, h4⟩
    · cases h
  · cases h

theorem pickLt_ok (w : World) (hE : EnvOk Y E) {x y : AV} {b : Bool} {cx cy : Value} (h : pickLt E x y = some b) (hx : conc Y ρ x = some cx) (hy : conc Y ρ y = some cy) : ∃ k m n, cx = .int k m ∧ cy = .int k n ∧ b = decide (m < n) := by
  unfold pickLt at h
  split at h
  · rename_i k e lo hi k' e' lo' hi' h1 h2
    obtain ⟨rfl, l1, l2⟩ := symOf_conc h1 hx
    obtain ⟨rfl, l3, l4⟩ := symOf_conc h2 hy
    split at h
    · rename_i hk
      have := eqKind_eq hk
      subst this
      refine ⟨k, _, _, rfl, rfl, ?_⟩
      split at h
      · rename_i b' hb
        cases h
        exact ltSym_ok hb l1 l2 l3 l4
      · split at h
        · rename_i b' hb
          cases h
          obtain ⟨dx, dy, dz, k1, k2, k3, _, k5⟩ := hE.orc _ (orcBin_mem hb)
          obtain rfl := Option.some.inj (hx.symm.trans (k1 ρ))
          obtain rfl := Option.some.inj (hy.symm.trans (k2 ρ))
          have e3 : dz = .bool b := (Option.some.inj (k3 ρ)).symm
          subst e3
          have k6 := k5 E.P 0 w
          simp [binOp, Op.intCmp] at k6
          exact k6.symm
        · cases h
    · cases h
  · cases h

theorem minO_ok (hE : EnvOk Y E) {l : List AV} {v : AV} {cs : List Value} {ts : Array TypeId} {ty : TypeId} (h : minO E l = some v) (hc : concs Y ρ l = some cs) : Yields Y E ρ w (Builtin.min_ ts ty cs.toArray) v := by
  unfold minO at h
  split at h
  · rename_i h0
    cases h
    exact min_ok h0 hc
  · split at h
    · rename_i x y
      obtain ⟨cx, r, h1, h2, rfl⟩ := concs_cons.1 hc
      obtain ⟨cy, r', h3, h4, rfl⟩ := concs_cons.1 h2
      rw [concs_nil] at h4
      subst h4
      split at h
      · rename_i hb
        cases h
        obtain ⟨k, m, n, rfl, rfl, hd⟩ := pickLt_ok w hE hb h3 h1
        have hd' : m < n := of_decide_eq_true hd.symm
        exact ⟨_, by simp [Builtin.min_, Builtin.min2, hd'], h3⟩
      · rename_i hb
        cases h
        obtain ⟨k, m, n, rfl, rfl, hd⟩ := pickLt_ok w hE hb h3 h1
        have hd' : ¬ m < n := of_decide_eq_false hd.symm
        exact ⟨_, by simp [Builtin.min_, Builtin.min2, hd'], h1⟩
      · cases h
    · cases h

theorem maxO_ok (hE : EnvOk Y E) {l : List AV} {v : AV} {cs : List Value} {ts : Array TypeId} {ty : TypeId} (h : maxO E l = some v) (hc : concs Y ρ l = some cs) : Yields Y E ρ w (Builtin.max_ ts ty cs.toArray) v := by
  unfold maxO at h
  split at h
  · rename_i h0
    cases h
    exact max_ok h0 hc
  · split at h
    · rename_i x y
      obtain ⟨cx, r, h1, h2, rfl⟩ := concs_cons.1 hc
      obtain ⟨cy, r', h3, h4, rfl⟩ := concs_cons.1 h2
      rw [concs_nil] at h4
      subst h4
      split at h
      · rename_i hb
        cases h
        obtain ⟨k, m, n, rfl, rfl, hd⟩ := pickLt_ok w hE hb h1 h3
        have hd' : m < n := of_decide_eq_true hd.symm
        exact ⟨_, by simp [Builtin.max_, Builtin.max2, hd'], h3⟩
      · rename_i hb
        cases h
        obtain ⟨k, m, n, rfl, rfl, hd⟩ := pickLt_ok w hE hb h1 h3
        have hd' : ¬ m < n := of_decide_eq_false hd.symm
        exact ⟨_, by simp [Builtin.max_, Builtin.max2, hd'], h1⟩
      · cases h
    · cases h

theorem typeAssert_ok (hE : EnvOk Y E) {x v : AV} {xt a : TypeId} {ok : Bool} {cx : Value} (h : typeAssertA E x a ok = some v) (hx : conc Y ρ x = some cx) : Yields Y E ρ w (Instr.typeAssert cx xt a ok) v := by
  unfold typeAssertA at h
  split at h
  · cases h
  · rename_i d hne hd
    cases hx
    split at h
    · split at h
      · rename_i z hz
        cases h
        obtain ⟨cz, h1, h2⟩ := run_zero (Y := Y) (ρ := ρ) (w := w) hE hz
        refine ⟨.tuple #[cz, .bool false], ?_, by simp [conc, concs, h2]⟩
        simp only [Instr.typeAssert, Sem.run_bind, run_und hE hd, Result.andThen_ok]
        cases d <;> first | (simp [h1]; done) | exact absurd rfl (hne _)
      · cases h
    · cases h
  · rename_i d t u hne hd
    obtain ⟨cu, hcu, rfl⟩ := conc_iface hx
    split at h
    · rename_i heq
      have := Nat.eq_of_beq_eq_true heq
      subst this
      cases h
      cases ok with
      | true =>
        refine ⟨.tuple #[cu, .bool true], ?_, by simp [conc, concs, hcu]⟩
        simp only [Instr.typeAssert, Sem.run_bind, run_und hE hd, Result.andThen_ok]
        cases d <;> first | (simp; done) | exact absurd rfl (hne _)
      | false =>
        refine ⟨cu, ?_, hcu⟩
        simp only [Instr.typeAssert, Sem.run_bind, run_und hE hd, Result.andThen_ok]
        cases d <;> first | (simp; done) | exact absurd rfl (hne _)
    · rename_i heq
      have hne' : t ≠ a := Nat.ne_of_beq_eq_false heq
      split at h
      · split at h
        · rename_i z hz
          cases h
          obtain ⟨cz, h1, h2⟩ := run_zero (Y := Y) (ρ := ρ) (w := w) hE hz
          refine ⟨.tuple #[cz, .bool false], ?_, by simp [conc, concs, h2]⟩
          simp only [Instr.typeAssert, Sem.run_bind, run_und hE hd, Result.andThen_ok]
          cases d <;> first | (simp [h1, hne']; done) | exact absurd rfl (hne _)
        · cases h
      · cases h
  · cases h

end
end Go.AE

namespace Go.AE

section
variable {Y : Sy} {E : Env} {ρ : Rho} {w : World}

theorem eqB_eq (a b : Bool) : eqB a b = (a == b) := by cases a <;> cases b <;> rfl

theorem eqStr_bytes {a b : List Nat} (ha : okBytes a = true) (hb : okBytes b = true) : eqStr a b = ((bytesV a).toList == (bytesV b).toList) := by
  rw [ByteArray.toList_eq, ByteArray.toList_eq, bytesV_toList, bytesV_toList, eqStr_eq a b ha hb]

/-- what a value of a basic type may be -/
def kdDesc : Nat → TypeDesc → Prop
  | 0, d => d = .bool
  | 1, d => ∃ k, d = .int k
  | 2, d => d = .string
  | _, _ => False

theorem eqKd_ok {k : Nat} {x y : AV} {cx cy : Value} {b : Bool} (h : eqKd k x y = some b) (hx : conc Y ρ x = some cx) (hy : conc Y ρ y = some cy) {P : Program} {t : TypeId} {d : TypeDesc} (hd : P.underlying t = some d)
    (hk : kdDesc k d) (n : Nat) (w : World) : (Op.equalIn (n + 1) t cx cy).run P w = .ok b w := by
  unfold eqKd at h
  split at h
  · have hd' : d = .bool := hk
    subst hd'
    unfold eqBool at h
    split at h
    · cases h; cases hx; cases hy; rw [eqB_eq]; exact run_equalIn_bool w n t _ _ hd
    · cases h
  · obtain ⟨k', rfl⟩ : ∃ k, d = .int k := hk
    unfold eqInt at h
    split at h
    · cases h; cases hx; cases hy; rw [eqI_eq]; exact run_equalIn_int w n t _ k' _ _ hd
    · split at h
      · rename_i hkk
        have := eqKind_eq hkk
        subst this
        cases h; cases hx; cases hy; rw [eqI_eq]; exact run_equalIn_int w n t _ k' _ _ hd
      · cases h
    · obtain ⟨k, m, n', rfl, rfl, rfl⟩ := eqSyms_ok h hx hy
      exact run_equalIn_int w n t k k' m n' hd
  · have hd' : d = .string := hk
    subst hd'
    unfold eqText at h
    split at h
    · cases h
      obtain ⟨h1, rfl⟩ := conc_str hx
      obtain ⟨h2, rfl⟩ := conc_str hy
      rw [eqStr_bytes h1 h2]
      exact run_equalIn_string w n t _ _ hd
    · obtain ⟨rfl, a1, a2⟩ := conc_sstr hx
      obtain ⟨rfl, b1, b2⟩ := conc_sstr hy
      split at h
      · rename_i hij
        have := Nat.eq_of_beq_eq_true hij
        subst this
        cases h
        rw [run_equalIn_string w n t _ _ hd]
        simp
      · rw [eqLen_ok h a1 a2 b1 b2]
        exact run_equalIn_string w n t _ _ hd
    · have hne := conc_sstr_ne hx
      obtain ⟨rfl, a1, a2⟩ := conc_sstr hx
      obtain ⟨_, rfl⟩ := conc_str hy
      rw [(eqStrC_ok h a1 a2 hne).1]
      exact run_equalIn_string w n t _ _ hd
    · have hne := conc_sstr_ne hy
      obtain ⟨_, rfl⟩ := conc_str hx
      obtain ⟨rfl, a1, a2⟩ := conc_sstr hy
      rw [(eqStrC_ok h a1 a2 hne).2]
      exact run_equalIn_string w n t _ _ hd
    · cases h
  · cases h

theorem kdOf_desc {d : TypeDesc} {k : Nat} (h : kdOf d = some k) : kdDesc k d := by
  unfold kdOf at h
  split at h <;> first | cases h | skip
  · rfl
  · exact ⟨_, rfl⟩
  · rfl

/-- the cells of a value of type t out of a row of cells -/
def partV (P : Program) (t : TypeId) (cs : List Value) (off : Nat) : Value :=
  match P.underlying t with
  | some (.struct _) | some (.array _ _) => .agg (cs.toArray.extract off (off + P.cellsOf t))
  | _ => cs.getD off undef

theorem run_isAgg_of {P : Program} {t : TypeId} {d : TypeDesc} (hd : P.underlying t = some d) (w : World) : (isAgg t).run P w = .ok (isAggD d) w := by
  simp only [isAgg, underlying, Sem.run_bind, run_program, Result.andThen_ok, hd]
  cases d <;> rfl

theorem run_sizeOf_of {P : Program} {t : TypeId} (hi : (P.info? t).isSome = true) (w : World) : (sizeOf t).run P w = .ok (P.cellsOf t) w := by
  obtain ⟨i, hi⟩ := Option.isSome_iff_exists.1 hi
  simp [sizeOf, typeInfo, Program.cellsOf, hi]

theorem eqCells_split : ∀ (ks l : List Nat) (x y : List AV) (b : Bool), eqCells (ks ++ l) x y = some b →
    ∃ b1, eqCells ks (x.take ks.length) (y.take ks.length) = some b1 ∧ (b1 = false → b = false) ∧ (b1 = true → eqCells l (x.drop ks.length) (y.drop ks.length) = some b) := by
  intro ks
  induction ks with
  | nil => intro l x y b h; exact ⟨true, by simp [eqCells], (fun h => by cases h), fun _ => by simpa using h⟩
  | cons k ks ih =>
    intro l x y b h
    cases x with
    | nil => simp [eqCells] at h
    | cons a x =>
      cases y with
      | nil => simp [eqCells] at h
      | cons c y =>
        simp only [List.cons_append, eqCells] at h
        simp only [List.length_cons, List.take_succ_cons, List.drop_succ_cons, eqCells]
        cases hk : eqKd k a c with
        | none => rw [hk] at h; cases h
        | some r =>
          rw [hk] at h
          cases r with
          | false => cases h; exact ⟨false, rfl, fun _ => rfl, (fun h => by cases h)⟩
          | true => exact ih l x y b h

theorem eqCells_lengths : ∀ {ks : List Nat} {x y : List AV}, eqCells ks x y = some true → x.length = ks.length ∧ y.length = ks.length := by
  intro ks
  induction ks with
  | nil => intro x y h; cases x <;> cases y <;> simp [eqCells] at h ⊢
  | cons k ks ih =>
    intro x y h
    cases x with
    | nil => simp [eqCells] at h
    | cons a x =>
      cases y with
      | nil => simp [eqCells] at h
      | cons c y =>
        simp only [eqCells] at h
        cases hk : eqKd k a c with
        | none => rw [hk] at h; cases h
        | some r =>
          rw [hk] at h
          cases r with
          | false => cases h
          | true => obtain ⟨h1, h2⟩ := ih h; simp [h1, h2]

/-- a value of type t with these cells -/
def packV (P : Program) (t : TypeId) (cs : List Value) : Value :=
  match P.underlying t with
  | some (.struct _) => .agg cs.toArray
  | _ => cs.getD 0 undef

theorem part_pack {P : Program} {t : TypeId} {d : Nat} {ks : List Nat} (hf : flatAt P d t = some ks) (hc : P.cellsOf t = ks.length) (hi : (P.info? t).isSome = true) {cs : List Value} {off : Nat}
    (hne : off < cs.length ∨ ∃ fs, P.underlying t = some (.struct fs)) (w : World) : (part t cs.toArray off).run P w = .ok (packV P t ((cs.drop off).take ks.length)) w := by
  cases d with
  | zero => cases hf
  | succ d =>
    simp only [flatAt] at hf
    split at hf
    · rename_i hu
      cases hf
      have hlt : off < cs.length := hne.resolve_right (fun ⟨fs, h⟩ => by rw [hu] at h; cases h)
      simp [part, run_isAgg_of hu, isAggD, packV, hu, hlt, List.getD]
    · rename_i k hu
      cases hf
      have hlt : off < cs.length := hne.resolve_right (fun ⟨fs, h⟩ => by rw [hu] at h; cases h)
      simp [part, run_isAgg_of hu, isAggD, packV, hu, hlt, List.getD]
    · rename_i hu
      cases hf
      have hlt : off < cs.length := hne.resolve_right (fun ⟨fs, h⟩ => by rw [hu] at h; cases h)
      simp [part, run_isAgg_of hu, isAggD, packV, hu, hlt, List.getD]
    · rename_i fs hu
      simp [part, run_isAgg_of hu, isAggD, packV, hu, run_sizeOf_of hi, hc]
    · cases hf

theorem eqFields_flat {P : Program} {d n : Nat}
    (ih : ∀ (t : TypeId) (ks : List Nat), flatAt P d t = some ks → ∀ (x y : List AV) (cx cy : List Value) (b : Bool), concs Y ρ x = some cx → concs Y ρ y = some cy → eqCells ks x y = some b → ∀ w, (Op.equalIn n t (packV P t cx) (packV P t cy)).run P w = .ok b w)
    (X Z : List AV) (cX cZ : List Value) (hX : concs Y ρ X = some cX) (hZ : concs Y ρ Z = some cZ) : ∀ (fs : List Field) (off : Nat) (l : List Nat) (b : Bool) (w : World), flatFields P (flatAt P d) fs off = some l →
      eqCells l (X.drop off) (Z.drop off) = some b → (Op.eqFields n cX.toArray cZ.toArray fs).run P w = .ok b w := by
  intro fs
  induction fs with
  | nil =>
    intro off l b w hf he
    cases hf
    have : b = true := by
      cases hx : X.drop off with
      | nil =>
        cases hz : Z.drop off with
        | nil => rw [hx, hz] at he; simpa [eqCells] using he.symm
        | cons _ _ => rw [hx, hz] at he; simp [eqCells] at he
      | cons _ _ => rw [hx] at he; simp [eqCells] at he
    subst this
    rfl
  | cons f r ihr =>
    intro off l b w hf he
    simp only [flatFields] at hf
    split at hf
    · cases hf
    · rename_i hnb
      simp only [not_or, Decidable.not_not] at hnb
      obtain ⟨hname, hoff⟩ := hnb
      split at hf
      · rename_i ks l' h1 h2
        split at hf
        · rename_i hcond
          obtain ⟨hcells, hinfo⟩ := hcond
          cases hf
          obtain ⟨b1, e1, e2, e3⟩ := eqCells_split ks l' _ _ b he
          have hlenX : ks ≠ [] → off < X.length := by
            intro hk
            cases ks with
            | nil => exact absurd rfl hk
            | cons k ks =>
              rcases Nat.lt_or_ge off X.length with h' | h'
              · exact h'
              · rw [List.drop_eq_nil_of_le h'] at he; simp [eqCells] at he
          have hlenZ : ks ≠ [] → off < Z.length := by
            intro hk
            cases ks with
            | nil => exact absurd rfl hk
            | cons k ks =>
              rcases Nat.lt_or_ge off Z.length with h' | h'
              · exact h'
              · rw [List.drop_eq_nil_of_le h'] at he
                cases hx : X.drop off with
                | nil => rw [hx] at he; simp [eqCells] at he
                | cons _ _ => rw [hx] at he; simp [eqCells] at he
          have hstr : ks = [] → ∃ fs, P.underlying f.type = some (.struct fs) := by
            intro hk
            subst hk
            cases d with
            | zero => cases h1
            | succ d =>
              simp only [flatAt] at h1
              split at h1 <;> first | (cases h1; done) | skip
              rename_i fs hu
              exact ⟨fs, hu⟩
          have p1 := part_pack (w := w) h1 hcells hinfo (cs := cX) (off := off) (by
            by_cases hk : ks = []
            · exact .inr (hstr hk)
            · exact .inl (by rw [concs_length hX]; exact hlenX hk))
          have p2 := part_pack (w := w) h1 hcells hinfo (cs := cZ) (off := off) (by
            by_cases hk : ks = []
            · exact .inr (hstr hk)
            · exact .inl (by rw [concs_length hZ]; exact hlenZ hk))
          have h3 := ih f.type ks h1 _ _ _ _ b1 (concs_take (concs_drop hX off) ks.length) (concs_take (concs_drop hZ off) ks.length) e1 w
          simp only [Op.eqFields, hname, ne_eq, not_false_eq_true, if_true, hoff, Sem.run_bind, p1, p2, h3, Result.andThen_ok, Sem.run_ite]
          cases b1 with
          | false => simp [e2 rfl]
          | true =>
            simp only [Bool.not_true, Bool.false_eq_true, if_false]
            have h4 := e3 rfl
            rw [List.drop_drop, List.drop_drop] at h4
            exact ihr (off + ks.length) l' b w (by rw [← hcells]; exact h2) h4
        · cases hf
      · cases hf

theorem equalIn_flat {P : Program} : ∀ (d n : Nat), d ≤ n → ∀ (t : TypeId) (ks : List Nat), flatAt P d t = some ks → ∀ (x y : List AV) (cx cy : List Value) (b : Bool), concs Y ρ x = some cx → concs Y ρ y = some cy →
    eqCells ks x y = some b → ∀ w, (Op.equalIn n t (packV P t cx) (packV P t cy)).run P w = .ok b w := by
  intro d
  induction d with
  | zero => intro n _ t ks h; cases h
  | succ d ih =>
    intro n hn t ks hf x y cx cy b hx hy he w
    obtain ⟨n, rfl⟩ : ∃ m, n = m + 1 := ⟨n - 1, by omega⟩
    have basic : ∀ k desc, P.underlying t = some desc → kdDesc k desc → (∀ fs, desc ≠ .struct fs) → ks = [k] → (Op.equalIn (n + 1) t (packV P t cx) (packV P t cy)).run P w = .ok b w := by
      intro k desc hu hk hns hks
      subst hks
      cases x with
      | nil => simp [eqCells] at he
      | cons a x =>
        cases y with
        | nil => simp [eqCells] at he
        | cons c y =>
          obtain ⟨ca, cr, h1, _, rfl⟩ := concs_cons.1 hx
          obtain ⟨cc, cs, h2, _, rfl⟩ := concs_cons.1 hy
          have e1 : packV P t (ca :: cr) = ca := by
            unfold packV; rw [hu]; cases desc <;> first | rfl | exact absurd rfl (hns _)
          have e2 : packV P t (cc :: cs) = cc := by
            unfold packV; rw [hu]; cases desc <;> first | rfl | exact absurd rfl (hns _)
          rw [e1, e2]
          simp only [eqCells] at he
          cases hk' : eqKd k a c with
          | none => rw [hk'] at he; cases he
          | some r =>
            rw [hk'] at he
            have hr := eqKd_ok hk' h1 h2 hu hk n w
            cases r with
            | false => cases he; exact hr
            | true =>
              have : b = true := by
                cases x <;> cases y <;> simp [eqCells] at he <;> first | exact he | exact he.symm
              rw [this]; exact hr
    simp only [flatAt] at hf
    split at hf
    · rename_i hu; cases hf; exact basic 0 _ hu rfl (fun _ h => by cases h) rfl
    · rename_i k hu; cases hf; exact basic 1 _ hu ⟨k, rfl⟩ (fun _ h => by cases h) rfl
    · rename_i hu; cases hf; exact basic 2 _ hu rfl (fun _ h => by cases h) rfl
    · rename_i fs hu
      split at hf
      · cases hf
      · rename_i hst
        have e1 : packV P t cx = .agg cx.toArray := by unfold packV; rw [hu]
        have e2 : packV P t cy = .agg cy.toArray := by unfold packV; rw [hu]
        have hfo : P.fieldsOf t = fs := by unfold Program.fieldsOf; rw [hu]
        rw [e1, e2, run_equalIn_agg w n t _ _ (by rw [hfo]; exact hu) (by simpa using hst), hfo]
        exact eqFields_flat (fun t ks h x y cx cy b h1 h2 h3 w => ih n (by omega) t ks h x y cx cy b h1 h2 h3 w) x y cx cy hx hy fs.toList 0 ks b w hf (by simpa using he)
    · cases hf

theorem flat_struct {P : Program} {t : TypeId} {fs : Array Field} {cs : List Value} (hu : P.underlying t = some (.struct fs)) : packV P t cs = .agg cs.toArray := by
  unfold packV; rw [hu]

/-! ### '==' -/
set_option maxHeartbeats 1000000 in
theorem eqA_ok (hE : EnvOk Y E) {t : TypeId} {x y : AV} {cx cy : Value} {b : Bool} (h : eqA E t x y = some b) (hx : conc Y ρ x = some cx) (hy : conc Y ρ y = some cy) :
    (Op.equal t cx cy).run E.P w = .ok b w := by
  unfold Op.equal
  obtain ⟨n, e0, hn⟩ : ∃ n, Op.maxDepth = n + 1 + 1 ∧ 20 ≤ n := ⟨9998, rfl, by decide⟩
  rw [e0]
  clear e0
  unfold eqA at h
  split at h
  · rename_i el hd
    have hu := run_und (w := w) hE hd
    split at h
    · cases h; cases hx; cases hy; (rw [Op.equalIn]; simp only [Sem.run_bind, hu, Result.andThen_ok]; rfl)
    · cases h; cases hx; obtain ⟨L, _, rfl⟩ := conc_ptr hy; (rw [Op.equalIn]; simp only [Sem.run_bind, hu, Result.andThen_ok]; rfl)
    · cases h; cases hy; obtain ⟨L, _, rfl⟩ := conc_ptr hx; (rw [Op.equalIn]; simp only [Sem.run_bind, hu, Result.andThen_ok]; rfl)
    · split at h
      · rename_i n' hb hn'
        have := Nat.eq_of_beq_eq_true hb
        subst this
        split at h
        · cases h
        · rename_i hn0
          have hn1 : n' ≠ 0 := Nat.ne_of_beq_eq_false hn0
          cases h
          obtain ⟨L, hL, rfl⟩ := conc_ptr hx
          obtain ⟨M, hM, rfl⟩ := conc_ptr hy
          rw [hL] at hM
          cases hM
          have hoo : ∀ p q : Nat, (L.addr p == L.addr q) = Nat.beq p q := by
            intro p q
            rw [Bool.eq_iff_iff]
            simp [Loc.addr, Nat.beq_eq]
          rw [Op.equalIn]
          simp only [Sem.run_bind, hu, Result.andThen_ok, run_size hE hn', hn1, ne_eq, not_false_eq_true, if_true, sameAddr]
          rw [← hoo]
          simp [Loc.addr]
      · cases h
    · cases h
  · rename_i el hd
    have hu := run_und (w := w) hE hd
    split at h
    · cases h; cases hx; cases hy; (rw [Op.equalIn]; simp only [Sem.run_bind, hu, Result.andThen_ok]; rfl)
    · cases h; cases hx; obtain ⟨L, _, rfl⟩ := conc_slice hy; (rw [Op.equalIn]; simp only [Sem.run_bind, hu, Result.andThen_ok]; rfl)
    · cases h; cases hx; obtain ⟨L, _, rfl⟩ := conc_gslice hy; (rw [Op.equalIn]; simp only [Sem.run_bind, hu, Result.andThen_ok]; rfl)
    · cases h; cases hy; obtain ⟨L, _, rfl⟩ := conc_slice hx; (rw [Op.equalIn]; simp only [Sem.run_bind, hu, Result.andThen_ok]; rfl)
    · cases h; cases hy; obtain ⟨L, _, rfl⟩ := conc_gslice hx; (rw [Op.equalIn]; simp only [Sem.run_bind, hu, Result.andThen_ok]; rfl)
    · cases h; cases hx; obtain ⟨_, _, rfl⟩ := conc_eslice hy; (rw [Op.equalIn]; simp only [Sem.run_bind, hu, Result.andThen_ok]; rfl)
    · cases h; cases hy; obtain ⟨_, _, rfl⟩ := conc_eslice hx; (rw [Op.equalIn]; simp only [Sem.run_bind, hu, Result.andThen_ok]; rfl)
    · cases h
  · rename_i hd
    have hu := run_und (w := w) hE hd
    split at h
    · cases h; cases hx; cases hy; (rw [Op.equalIn]; simp only [Sem.run_bind, hu, Result.andThen_ok]; rfl)
    · cases h; cases hx; obtain ⟨L, _, rfl⟩ := conc_map hy; (rw [Op.equalIn]; simp only [Sem.run_bind, hu, Result.andThen_ok]; rfl)
    · cases h; cases hy; obtain ⟨L, _, rfl⟩ := conc_map hx; (rw [Op.equalIn]; simp only [Sem.run_bind, hu, Result.andThen_ok]; rfl)
    · cases h
  · rename_i hd
    have hu := run_und (w := w) hE hd
    split at h
    · cases h; cases hx; cases hy; (rw [Op.equalIn]; simp only [Sem.run_bind, hu, Result.andThen_ok]; rfl)
    · cases h; cases hx
      simp only [conc] at hy
      split at hy
      · cases hy; (rw [Op.equalIn]; simp only [Sem.run_bind, hu, Result.andThen_ok]; rfl)
      · cases hy
    · cases h; cases hy
      simp only [conc] at hx
      split at hx
      · cases hx; (rw [Op.equalIn]; simp only [Sem.run_bind, hu, Result.andThen_ok]; rfl)
      · cases hx
    · cases h
  · rename_i hd
    have hu := run_und (w := w) hE hd
    split at h
    · cases h; cases hx; obtain ⟨c, _, rfl⟩ := conc_iface hy; (rw [Op.equalIn]; simp only [Sem.run_bind, hu, Result.andThen_ok]; rfl)
    · cases h; cases hy; obtain ⟨c, _, rfl⟩ := conc_iface hx; (rw [Op.equalIn]; simp only [Sem.run_bind, hu, Result.andThen_ok]; rfl)
    · obtain ⟨c, hc, rfl⟩ := conc_iface hx
      obtain ⟨c', hc', rfl⟩ := conc_iface hy
      split at h
      · rename_i hne
        have hne' := Nat.ne_of_beq_eq_false hne
        cases h
        rw [Op.equalIn]
        simp only [Sem.run_bind, hu, Result.andThen_ok, ne_eq, hne', not_false_eq_true, if_true]
        rfl
      · rename_i heq
        have := Nat.eq_of_beq_eq_true heq
        subst this
        split at h
        · rename_i i d hi hd'
          split at h
          · rename_i k hcomp hk
            have h1 := eqKd_ok h hc hc' (und_ok hE hd') (kdOf_desc hk) n w
            rw [Op.equalIn]
            simp only [Sem.run_bind, hu, Result.andThen_ok, ne_eq, not_true_eq_false, if_false, run_info hE hi, hcomp, Bool.not_true, Bool.false_eq_true]
            exact h1
          · cases h
        · cases h
    · cases h
  · rename_i fs hd
    split at h
    · rename_i a c
      split at h
      · rename_i ks hks
        obtain ⟨hflat, _⟩ := hE.eqs t ks hks
        obtain ⟨ca, h1, rfl, _⟩ := conc_agg hx
        obtain ⟨cc, h2, rfl, _⟩ := conc_agg hy
        unfold eqCellsO at h
        split at h
        · rename_i h0
          cases h
          have := equalIn_flat (Y := Y) (ρ := ρ) 20 (n + 1 + 1) (by omega) t ks hflat a c ca cc b h1 h2 h0 w
          rw [flat_struct (und_ok hE hd), flat_struct (und_ok hE hd)] at this
          exact this
        · obtain ⟨x', y', cx, cy, k1, k2, k3, k4, k5⟩ := hE.orc _ (orcEqa_mem h)
          obtain rfl := Option.some.inj (h1.symm.trans (k1 ρ))
          obtain rfl := Option.some.inj (h2.symm.trans (k2 ρ))
          have := equalIn_flat (Y := Y) (ρ := ρ) 20 (n + 1 + 1) (by omega) t ks hflat x' y' ca cc b (k3 ρ) (k4 ρ) k5 w
          rw [flat_struct (und_ok hE hd), flat_struct (und_ok hE hd)] at this
          exact this
      · cases h
    · cases h
  · rename_i d _ _ _ _ _ _ hd
    split at h
    · rename_i k hk
      exact eqKd_ok h hx hy (und_ok hE hd) (kdOf_desc hk) (n + 1) w
    · cases h
  · cases h

theorem eqGuard_plain {op : BinOp} {t : TypeId} {x y : Operand} {a b : Value} (h1 : ¬ (a = .nilIface ∧ b = .nilIface)) (h2 : ∀ l m, ¬ (a = .agg l ∧ b = .agg m)) : (eqGuard op t x y a b).run E.P w = .ok () w := by
  have key : ∀ c : Bool, (if (!c) = true then (pure () : Sem Unit) else (eqGuard .eql t x y a b)).run E.P w = .ok () w := by
    intro c
    cases c with
    | false => rfl
    | true =>
      cases a with
      | nilIface =>
        cases b with
        | nilIface => exact absurd ⟨rfl, rfl⟩ h1
        | _ => rfl
      | agg l =>
        cases b with
        | agg m => exact absurd ⟨rfl, rfl⟩ (h2 l m)
        | _ => rfl
      | _ => rfl
  cases op with
  | eql => exact key true
  | neq => exact key true
  | _ => rfl

theorem eqGuard_const {op : BinOp} {t : TypeId} {x y : Operand} (h : (isConstO x || isConstO y) = true) : (eqGuard op t x y .nilIface .nilIface).run E.P w = .ok () w := by
  have key : (eqGuard .eql t x y .nilIface .nilIface).run E.P w = .ok () w := by
    cases x with
    | const v => rfl
    | _ =>
      cases y with
      | const v => rfl
      | _ => cases h
  cases op with
  | eql => exact key
  | neq => exact key
  | _ => rfl

end
end Go.AE

namespace Go.AE

section
variable {Y : Sy} {E : Env} {ρ : Rho} {w : World}

theorem someI_ok {k : IntKind} {n : Int} {v : AV} (h : someI k n = some v) : conc Y ρ v = some (.int k n) := by
  simp only [someI, forceI_eq] at h
  cases h
  exact conc_mkInt _ _

theorem some64_ok {n : Int} {v : AV} (h : some64 n = some v) : conc Y ρ v = some (.int .i64 (IntKind.wrap .i64 n)) := by
  simp only [some64, forceI_eq, wrap64I_eq] at h
  cases h
  rfl

theorem not_decide (a b : Int) : (!decide (a < b)) = decide (b ≤ a) := by
  by_cases h : a < b <;> simp [h] <;> omega

theorem op64_ok {op : BinOp} {a b : Int} {v : AV} {t : TypeId} (hs : isShift op = false) (h : op64 op a b = some v) : Yields Y E ρ w (binOp op t (.int .i64 a) (.int .i64 b)) v := by
  cases op <;> simp only [op64] at h
  case add => rw [addI_eq] at h; exact ⟨_, by simp [binOp, Op.intArith], some64_ok h⟩
  case sub => rw [subI_eq] at h; exact ⟨_, by simp [binOp, Op.intArith], some64_ok h⟩
  case mul => rw [mulI_eq] at h; exact ⟨_, by simp [binOp, Op.intArith], some64_ok h⟩
  case quo =>
    rw [eqI_eq] at h
    split at h
    · cases h
    · rename_i hb
      have hb' : ¬ b = 0 := by simpa using hb
      exact ⟨_, by simp [binOp, Op.intDiv, hb'], some64_ok h⟩
  case rem =>
    rw [eqI_eq] at h
    split at h
    · cases h
    · rename_i hb
      have hb' : ¬ b = 0 := by simpa using hb
      exact ⟨_, by simp [binOp, Op.intDiv, hb'], someI_ok h⟩
  case and => exact ⟨_, by simp [binOp, Op.intBits]; rfl, someI_ok h⟩
  case or => exact ⟨_, by simp [binOp, Op.intBits]; rfl, someI_ok h⟩
  case xor => exact ⟨_, by simp [binOp, Op.intBits]; rfl, someI_ok h⟩
  case andNot => exact ⟨_, by simp [binOp, Op.intBits]; rfl, someI_ok h⟩
  case eql => cases h; exact ⟨.bool (a == b), by simp [binOp, Op.intCmp], by simp [conc, eqI_eq]⟩
  case neq => cases h; exact ⟨.bool (a != b), by simp [binOp, Op.intCmp], by simp [conc, eqI_eq, bne]⟩
  case lss => cases h; exact ⟨.bool (decide (a < b)), by simp [binOp, Op.intCmp], by simp [conc, ltI_eq]⟩
  case leq => cases h; exact ⟨.bool (decide (a ≤ b)), by simp [binOp, Op.intCmp], by simp [conc, ltI_eq, not_decide]⟩
  case gtr => cases h; exact ⟨.bool (decide (a > b)), by simp [binOp, Op.intCmp], by simp [conc, ltI_eq]⟩
  case geq => cases h; exact ⟨.bool (decide (a ≥ b)), by simp [binOp, Op.intCmp], by simp [conc, ltI_eq, not_decide]⟩
  case shl => cases hs
  case shr => cases hs

theorem intOp_ok {op : BinOp} {k : IntKind} {a b : Int} {v : AV} {t : TypeId} (h : intOpA op k a b = some v) : Yields Y E ρ w (binOp op t (.int k a) (.int k b)) v := by
  cases op <;> simp only [intOpA] at h
  case add => exact ⟨_, by simp [binOp, Op.intArith], someI_ok h⟩
  case sub => exact ⟨_, by simp [binOp, Op.intArith], someI_ok h⟩
  case mul => exact ⟨_, by simp [binOp, Op.intArith], someI_ok h⟩
  case quo =>
    rw [eqI_eq] at h
    split at h
    · cases h
    · rename_i hb
      have hb' : ¬ b = 0 := by simpa using hb
      exact ⟨_, by simp [binOp, Op.intDiv, hb'], someI_ok h⟩
  case rem =>
    rw [eqI_eq] at h
    split at h
    · cases h
    · rename_i hb
      have hb' : ¬ b = 0 := by simpa using hb
      exact ⟨_, by simp [binOp, Op.intDiv, hb'], someI_ok h⟩
  case and => exact ⟨_, by simp [binOp, Op.intBits], someI_ok h⟩
  case or => exact ⟨_, by simp [binOp, Op.intBits], someI_ok h⟩
  case xor => exact ⟨_, by simp [binOp, Op.intBits], someI_ok h⟩
  case andNot => exact ⟨_, by simp [binOp, Op.intBits], someI_ok h⟩
  case eql => cases h; exact ⟨.bool (a == b), by simp [binOp, Op.intCmp], by simp [conc, eqI_eq]⟩
  case neq => cases h; exact ⟨.bool (a != b), by simp [binOp, Op.intCmp], by simp [conc, eqI_eq, bne]⟩
  case lss => cases h; exact ⟨.bool (decide (a < b)), by simp [binOp, Op.intCmp], by simp [conc, ltI_eq]⟩
  case leq => cases h; exact ⟨.bool (decide (a ≤ b)), by simp [binOp, Op.intCmp], by simp [conc, ltI_eq, not_decide]⟩
  case gtr => cases h; exact ⟨.bool (decide (a > b)), by simp [binOp, Op.intCmp], by simp [conc, ltI_eq]⟩
  case geq => cases h; exact ⟨.bool (decide (a ≥ b)), by simp [binOp, Op.intCmp], by simp [conc, ltI_eq, not_decide]⟩
  case shl => cases h
  case shr => cases h

theorem shift_ok {op : BinOp} {k k' : IntKind} {a b : Int} {v : AV} {t : TypeId} (h : shiftA op k a b = some v) : Yields Y E ρ w (binOp op t (.int k a) (.int k' b)) v := by
  unfold shiftA at h
  split at h
  · cases h
  · rename_i y hy
    have := natI_eq hy
    subst this
    have hb : ¬ ((y : Int) < 0) := by omega
    split at h
    · refine ⟨_, ?_, someI_ok h⟩
      simp only [binOp, Op.shift, hb, if_false, Int.toNat_natCast, Sem.run_pure]
      simp
    · refine ⟨_, ?_, someI_ok h⟩
      simp only [binOp, Op.shift, hb, if_false, Int.toNat_natCast, Sem.run_pure]
      simp
    · cases h

theorem str_ok {op : BinOp} {a b : List Nat} {v : AV} {t : TypeId} (h : strOpA op a b = some v) (ha : okBytes a = true) (hb : okBytes b = true) : Yields Y E ρ w (binOp op t (.string (bytesV a)) (.string (bytesV b))) v := by
  have heq := eqStr_bytes ha hb
  have hlt : ltStr a b = Op.bytesLess (bytesV a).toList (bytesV b).toList := by
    rw [ByteArray.toList_eq, ByteArray.toList_eq, bytesV_toList, bytesV_toList, ltStr_eq a b ha hb]
  cases op <;> simp only [strOpA] at h
  case add =>
    split at h
    · rename_i hle
      cases h
      have hle' := Nat.le_of_ble_eq_true hle
      refine ⟨.string (bytesV a ++ bytesV b), ?_, by rw [conc_of_str (okBytes_append ha hb), bytesV_append]⟩
      have hsz : ¬ (((bytesV a).size + (bytesV b).size : Nat) : Int) > IntKind.i64.max := by
        rw [bytesV_size, bytesV_size]
        have : IntKind.i64.max = 9223372036854775807 := by decide
        rw [this]
        have h' : a.length + b.length ≤ 4611686018427387904 := hle'
        omega
      simp only [binOp, Op.stringOp, hsz, if_false, Sem.run_pure]
    · cases h
  case eql => cases h; exact ⟨.bool ((bytesV a).toList == (bytesV b).toList), by simp [binOp, Op.stringOp], by simp [conc, heq]⟩
  case neq => cases h; exact ⟨.bool !((bytesV a).toList == (bytesV b).toList), by simp [binOp, Op.stringOp], by simp [conc, heq]⟩
  case lss => cases h; exact ⟨.bool (Op.bytesLess (bytesV a).toList (bytesV b).toList), by simp [binOp, Op.stringOp], by simp [conc, hlt]⟩
  case leq => cases h; exact ⟨.bool (Op.bytesLess (bytesV a).toList (bytesV b).toList || (bytesV a).toList == (bytesV b).toList), by simp [binOp, Op.stringOp], by simp [conc, hlt, heq]⟩
  case gtr => cases h; exact ⟨.bool !(Op.bytesLess (bytesV a).toList (bytesV b).toList || (bytesV a).toList == (bytesV b).toList), by simp [binOp, Op.stringOp], by simp [conc, hlt, heq]⟩
  case geq => cases h; exact ⟨.bool !(Op.bytesLess (bytesV a).toList (bytesV b).toList), by simp [binOp, Op.stringOp], by simp [conc, hlt]⟩
  all_goals cases h

def otherV : Value → Bool
  | .int _ _ => false
  | .string _ => false
  | .float _ _ => false
  | .complex _ _ _ => false
  | _ => true

def otherA : AV → Bool
  | .i64 _ => false
  | .int _ _ => false
  | .str _ => false
  | .sint _ _ _ _ => false
  | .sstr _ _ _ => false
  | .opq _ => false
  | .when _ _ _ => false
  | _ => true

def opqA : AV → Bool
  | .opq _ => true
  | .when _ _ _ => true
  | _ => false

theorem conc_other {v : AV} {c : Value} (h : otherA v = true) (hc : conc Y ρ v = some c) : otherV c = true := by
  cases v with
  | i64 n => cases h
  | int k n => cases h
  | str s => cases h
  | sint k e lo hi => cases h
  | sstr i lo hi => cases h
  | ptr b o => obtain ⟨L, _, rfl⟩ := conc_ptr hc; rfl
  | slice b o n c => obtain ⟨L, _, rfl⟩ := conc_slice hc; rfl
  | gslice b o n c => obtain ⟨L, _, rfl⟩ := conc_gslice hc; rfl
  | eslice b o l s p => obtain ⟨_, _, rfl⟩ := conc_eslice hc; rfl
  | oslice i => cases conc_oslice hc; rfl
  | opq i => cases h
  | «when» e ks u => cases h
  | uslice i b o lo hi => cases (conc_uslice hc).1; rfl
  | map b => obtain ⟨L, _, rfl⟩ := conc_map hc; rfl
  | iface t u => obtain ⟨c, _, rfl⟩ := conc_iface hc; rfl
  | agg l => obtain ⟨cs, _, rfl, _⟩ := conc_agg hc; rfl
  | tuple l => obtain ⟨cs, _, rfl⟩ := conc_tuple hc; rfl
  | func fn a c =>
    simp only [conc] at hc
    split at hc
    · cases hc; rfl
    · cases hc
  | _ => cases hc; rfl

/-- '==' that is no number's and no string's -/
theorem binOp_eql {t : TypeId} {x y : Value} (hx : otherV x = true) :
    binOp .eql t x y = (do pure (.bool (← Op.equal t x y))) ∧ binOp .neq t x y = (do pure (.bool (!(← Op.equal t x y)))) := by
  cases x with
  | int k n => cases hx
  | string s => cases hx
  | float k n => cases hx
  | complex k n m => cases hx
  | _ => exact ⟨rfl, rfl⟩

theorem eqA_other {t : TypeId} {x y : AV} {b : Bool} (h : eqA E t x y = some b) : (x = .niliface → y ≠ .niliface) ∧ (∀ l m, x = .agg l → y = .agg m → ∃ ks, findEq E.eqs t = some ks) := by
  constructor
  · rintro rfl rfl
    unfold eqA at h
    split at h <;> first | (cases h; done) | (simp at h; done) | skip
    split at h
    · rename_i k _
      unfold eqKd at h
      split at h <;> first | (cases h; done) | (simp [eqBool, eqInt, eqText] at h; done)
    · cases h
  · rintro l m rfl rfl
    unfold eqA at h
    split at h <;> first | (cases h; done) | (simp at h; done) | skip
    · dsimp only at h
      split at h
      · rename_i ks hks; exact ⟨ks, hks⟩
      · cases h
    · split at h
      · rename_i k _
        unfold eqKd at h
        split at h <;> first | (cases h; done) | (simp [eqBool, eqInt, eqText] at h; done)
      · cases h

theorem eqKd_opq {k : Nat} {x y : AV} {b : Bool} (h : eqKd k x y = some b) : opqA x = false ∧ opqA y = false := by
  constructor
  · cases x <;> first | rfl | skip
    all_goals
      unfold eqKd at h
      split at h
      · cases y <;> cases h
      · cases y <;> cases h
      · cases y <;> cases h
      · cases h
  · cases y <;> first | rfl | skip
    all_goals
      unfold eqKd at h
      split at h
      · cases x <;> cases h
      · cases x <;> cases h
      · cases x <;> cases h
      · cases h

theorem eqA_opq {t : TypeId} {x y : AV} {b : Bool} (h : eqA E t x y = some b) : opqA x = false ∧ opqA y = false := by
  constructor
  · cases hx : opqA x with
    | false => rfl
    | true =>
      exfalso
      cases x <;> first | (cases hx; done) | skip
      all_goals
        unfold eqA at h
        split at h
        · cases y <;> cases h
        · cases y <;> cases h
        · cases y <;> cases h
        · cases y <;> cases h
        · cases y <;> cases h
        · cases y <;> cases h
        · split at h
          · exact absurd (eqKd_opq h).1 (by simp [opqA])
          · cases h
        · cases h
  · cases hy : opqA y with
    | false => rfl
    | true =>
      exfalso
      cases y <;> first | (cases hy; done) | skip
      all_goals
        unfold eqA at h
        split at h
        · cases x <;> cases h
        · cases x <;> cases h
        · cases x <;> cases h
        · cases x <;> cases h
        · cases x <;> cases h
        · cases x <;> cases h
        · split at h
          · exact absurd (eqKd_opq h).2 (by simp [opqA])
          · cases h
        · cases h

theorem eqGuard_ok (hE : EnvOk Y E) {op : BinOp} {t : TypeId} {x y : AV} {cx cy : Value} {ox oy : Operand} {b : Bool} (h : eqA E t x y = some b) (hx : conc Y ρ x = some cx) (hy : conc Y ρ y = some cy) :
    (eqGuard op t ox oy cx cy).run E.P w = .ok () w := by
  obtain ⟨h1, h2⟩ := eqA_other h
  obtain ⟨o1, o2⟩ := eqA_opq h
  by_cases ha : ∃ l m, x = .agg l ∧ y = .agg m
  · obtain ⟨l, m, rfl, rfl⟩ := ha
    obtain ⟨ks, hks⟩ := h2 l m rfl rfl
    obtain ⟨_, hg⟩ := hE.eqs t ks hks
    obtain ⟨cs, _, rfl, _⟩ := conc_agg hx
    obtain ⟨ds, _, rfl, _⟩ := conc_agg hy
    exact run_eqGuard_agg w op t ox oy _ _ hg
  · refine eqGuard_plain (fun hn => ?_) (fun l m hlm => ?_)
    · obtain ⟨rfl, rfl⟩ := hn
      have e1 : x = .niliface := by
        cases x <;> first | (cases o1; done) | skip
        all_goals simp only [conc] at hx
        all_goals first | rfl | (cases hx; done) | (rw [Option.map_eq_some_iff] at hx; obtain ⟨_, _, e⟩ := hx; cases e; done) | (rw [Option.bind_eq_some_iff] at hx; obtain ⟨_, _, e⟩ := hx; split at e <;> cases e; done) | (rw [Option.bind_eq_some_iff] at hx; obtain ⟨_, _, e⟩ := hx; split at e <;> first | (cases e; done) | (split at e <;> cases e; done)) | (split at hx <;> first | (cases hx; done) | (split at hx <;> first | (cases hx; done) | (rw [Option.bind_eq_some_iff] at hx; obtain ⟨_, _, e⟩ := hx; split at e <;> cases e; done)))
      have e2 : y = .niliface := by
        cases y <;> first | (cases o2; done) | skip
        all_goals simp only [conc] at hy
        all_goals first | rfl | (cases hy; done) | (rw [Option.map_eq_some_iff] at hy; obtain ⟨_, _, e⟩ := hy; cases e; done) | (rw [Option.bind_eq_some_iff] at hy; obtain ⟨_, _, e⟩ := hy; split at e <;> cases e; done) | (rw [Option.bind_eq_some_iff] at hy; obtain ⟨_, _, e⟩ := hy; split at e <;> first | (cases e; done) | (split at e <;> cases e; done)) | (split at hy <;> first | (cases hy; done) | (split at hy <;> first | (cases hy; done) | (rw [Option.bind_eq_some_iff] at hy; obtain ⟨_, _, e⟩ := hy; split at e <;> cases e; done)))
      exact h1 e1 e2
    · obtain ⟨rfl, rfl⟩ := hlm
      have e1 : ∃ l, x = .agg l := by
        cases x <;> first | (cases o1; done) | skip
        all_goals simp only [conc] at hx
        all_goals first | exact ⟨_, rfl⟩ | (cases hx; done) | (rw [Option.map_eq_some_iff] at hx; obtain ⟨_, _, e⟩ := hx; cases e; done) | (rw [Option.bind_eq_some_iff] at hx; obtain ⟨_, _, e⟩ := hx; split at e <;> cases e; done) | (rw [Option.bind_eq_some_iff] at hx; obtain ⟨_, _, e⟩ := hx; split at e <;> first | (cases e; done) | (split at e <;> cases e; done)) | (split at hx <;> first | (cases hx; done) | (split at hx <;> first | (cases hx; done) | (rw [Option.bind_eq_some_iff] at hx; obtain ⟨_, _, e⟩ := hx; split at e <;> cases e; done)))
      have e2 : ∃ l, y = .agg l := by
        cases y <;> first | (cases o2; done) | skip
        all_goals simp only [conc] at hy
        all_goals first | exact ⟨_, rfl⟩ | (cases hy; done) | (rw [Option.map_eq_some_iff] at hy; obtain ⟨_, _, e⟩ := hy; cases e; done) | (rw [Option.bind_eq_some_iff] at hy; obtain ⟨_, _, e⟩ := hy; split at e <;> cases e; done) | (rw [Option.bind_eq_some_iff] at hy; obtain ⟨_, _, e⟩ := hy; split at e <;> first | (cases e; done) | (split at e <;> cases e; done)) | (split at hy <;> first | (cases hy; done) | (split at hy <;> first | (cases hy; done) | (rw [Option.bind_eq_some_iff] at hy; obtain ⟨_, _, e⟩ := hy; split at e <;> cases e; done)))
      obtain ⟨l, rfl⟩ := e1
      obtain ⟨m, rfl⟩ := e2
      exact ha ⟨l, m, rfl, rfl⟩

theorem eqGuard_int {op : BinOp} {t : TypeId} {ox oy : Operand} {k k' : IntKind} {a b : Int} : (eqGuard op t ox oy (.int k a) (.int k' b)).run E.P w = .ok () w :=
  eqGuard_plain (fun h => by cases h.1) (fun _ _ h => by cases h.1)

theorem eqGuard_str {op : BinOp} {t : TypeId} {ox oy : Operand} {a b : ByteArray} : (eqGuard op t ox oy (.string a) (.string b)).run E.P w = .ok () w :=
  eqGuard_plain (fun h => by cases h.1) (fun _ _ h => by cases h.1)

theorem symOf_none {v : AV} (h : symOf v = none) : otherA v = true ∨ opqA v = true ∨ (∃ s, v = .str s) ∨ (∃ i lo hi, v = .sstr i lo hi) := by
  cases v <;> first | (cases h; done) | exact .inl rfl | exact .inr (.inl rfl) | exact .inr (.inr (.inl ⟨_, rfl⟩)) | exact .inr (.inr (.inr ⟨_, _, _, rfl⟩))

theorem equal_nilIface (hE : EnvOk Y E) {t : TypeId} {ms : Array (String × TypeId)} (hd : E.und t = some (.interface ms)) : (Op.equal t .nilIface .nilIface).run E.P w = .ok true w := by
  unfold Op.equal
  obtain ⟨n, e0⟩ : ∃ n, Op.maxDepth = n + 1 := ⟨9999, rfl⟩
  rw [e0, Op.equalIn]
  simp only [Sem.run_bind, run_und hE hd, Result.andThen_ok]
  rfl

theorem eqInt_sym {x y : AV} {b : Bool} (h : eqInt x y = some b) : (∃ p, symOf x = some p) ∧ ∃ q, symOf y = some q := by
  unfold eqInt at h
  split at h
  · exact ⟨⟨_, rfl⟩, _, rfl⟩
  · exact ⟨⟨_, rfl⟩, _, rfl⟩
  · unfold eqSyms at h
    split at h
    · rename_i h1 h2
      exact ⟨⟨_, h1⟩, _, h2⟩
    · cases h

theorem eqA_sym {t : TypeId} {x y : AV} {b : Bool} (h : eqA E t x y = some b) (hy : symOf x = none ∨ symOf y = none) : symOf x = none := by
  rcases hy with hy | hy
  · exact hy
  have kd : ∀ k, eqKd k x y = some b → symOf x = none := by
    intro k hk
    unfold eqKd at hk
    split at hk
    · unfold eqBool at hk; split at hk <;> first | rfl | (cases hk; done)
    · obtain ⟨_, q, hq⟩ := eqInt_sym hk
      rw [hy] at hq; cases hq
    · unfold eqText at hk; split at hk <;> first | rfl | (cases hk; done)
    · cases hk
  unfold eqA at h
  split at h
  · split at h <;> first | rfl | (cases h; done)
  · split at h <;> first | rfl | (cases h; done)
  · split at h <;> first | rfl | (cases h; done)
  · split at h <;> first | rfl | (cases h; done)
  · split at h <;> first | rfl | (cases h; done)
  · split at h <;> first | rfl | (cases h; done)
  · split at h
    · exact kd _ h
    · cases h
  · cases h

/-- strings -/
theorem eqText_ok {x y : AV} {cx cy : Value} {b : Bool} (hk : eqText x y = some b) (hx : conc Y ρ x = some cx) (hy : conc Y ρ y = some cy) : ∃ s u, cx = .string s ∧ cy = .string u ∧ b = (s.toList == u.toList) := by
  unfold eqText at hk
  split at hk
  · cases hk
    obtain ⟨h1, rfl⟩ := conc_str hx
    obtain ⟨h2, rfl⟩ := conc_str hy
    exact ⟨_, _, rfl, rfl, eqStr_bytes h1 h2⟩
  · obtain ⟨rfl, a1, a2⟩ := conc_sstr hx
    obtain ⟨rfl, b1, b2⟩ := conc_sstr hy
    split at hk
    · rename_i hij
      have := Nat.eq_of_beq_eq_true hij
      subst this
      cases hk
      exact ⟨_, _, rfl, rfl, by simp⟩
    · exact ⟨_, _, rfl, rfl, eqLen_ok hk a1 a2 b1 b2⟩
  · have hne := conc_sstr_ne hx
    obtain ⟨rfl, a1, a2⟩ := conc_sstr hx
    obtain ⟨_, rfl⟩ := conc_str hy
    exact ⟨_, _, rfl, rfl, (eqStrC_ok hk a1 a2 hne).1⟩
  · have hne := conc_sstr_ne hy
    obtain ⟨_, rfl⟩ := conc_str hx
    obtain ⟨rfl, a1, a2⟩ := conc_sstr hy
    exact ⟨_, _, rfl, rfl, (eqStrC_ok hk a1 a2 hne).2⟩
  · cases hk

/-- strings, by eqA -/
theorem eqA_text {t : TypeId} {x y : AV} {cx cy : Value} {b : Bool} (hx0 : (∃ s, x = .str s) ∨ ∃ i lo hi, x = .sstr i lo hi) (h : eqA E t x y = some b) (hx : conc Y ρ x = some cx) (hy : conc Y ρ y = some cy) :
    ∃ s u, cx = .string s ∧ cy = .string u ∧ b = (s.toList == u.toList) := by
  have key : ∀ k, eqKd k x y = some b → ∃ s u, cx = .string s ∧ cy = .string u ∧ b = (s.toList == u.toList) := by
    intro k hk
    unfold eqKd at hk
    split at hk
    · exfalso
      unfold eqBool at hk
      rcases hx0 with ⟨s, rfl⟩ | ⟨i, lo, hi, rfl⟩ <;> simp at hk
    · exfalso
      obtain ⟨⟨p, hp⟩, _⟩ := eqInt_sym hk
      rcases hx0 with ⟨s, rfl⟩ | ⟨i, lo, hi, rfl⟩ <;> cases hp
    · exact eqText_ok hk hx hy
    · cases hk
  unfold eqA at h
  rcases hx0 with ⟨s, rfl⟩ | ⟨i, lo, hi, rfl⟩
  · split at h <;> first | (cases h; done) | (simp at h; done) | skip
    split at h
    · exact key _ h
    · cases h
  · split at h <;> first | (cases h; done) | (simp at h; done) | skip
    split at h
    · exact key _ h
    · cases h

/-- '==' and '!=' by eqA -/
theorem eqA_bin (hE : EnvOk Y E) {t : TypeId} {x y : AV} {cx cy : Value} {b : Bool} (hk : symOf x = none) (h : eqA E t x y = some b) (hx : conc Y ρ x = some cx) (hy : conc Y ρ y = some cy) :
    (binOp .eql t cx cy).run E.P w = .ok (.bool b) w ∧ (binOp .neq t cx cy).run E.P w = .ok (.bool !b) w := by
  rcases symOf_none hk with h1 | h1 | h1
  · obtain ⟨e1, e2⟩ := binOp_eql (t := t) (y := cy) (conc_other h1 hx)
    rw [e1, e2]
    have := eqA_ok (w := w) hE h hx hy
    exact ⟨by simp [this], by simp [this]⟩
  · exact absurd h1 (by rw [(eqA_opq h).1]; simp)
  · obtain ⟨s, u, rfl, rfl, rfl⟩ := eqA_text h1 h hx hy
    exact ⟨by simp [binOp, Op.stringOp], by simp [binOp, Op.stringOp]⟩

theorem binSlowK_ok (hE : EnvOk Y E) {op : BinOp} {t : TypeId} {ox oy : Operand} {x y v : AV} {cx cy : Value} (h : binSlowK E op t (isConstO ox || isConstO oy) x y = some v) (hx : conc Y ρ x = some cx) (hy : conc Y ρ y = some cy) :
    Yields Y E ρ w (do eqGuard op t ox oy cx cy; binOp op t cx cy) v := by
  unfold binSlowK at h
  split at h
  · rename_i k a k' b hk hk'
    have := conc_kindOf hk hx
    subst this
    have := conc_kindOf hk' hy
    subst this
    split at h
    · obtain ⟨cv, h1, h2⟩ := shift_ok (Y := Y) (ρ := ρ) (w := w) (E := E) (t := t) (k' := k') h
      exact ⟨cv, by simp [eqGuard_int, h1], h2⟩
    · split at h
      · rename_i hkk
        have := eqKind_eq hkk
        subst this
        obtain ⟨cv, h1, h2⟩ := intOp_ok (Y := Y) (ρ := ρ) (w := w) (E := E) (t := t) h
        exact ⟨cv, by simp [eqGuard_int, h1], h2⟩
      · cases h
  · split at h
    · rename_i p q hp hq
      obtain ⟨⟨k, m, k', n, rfl, rfl⟩, cv, h1, h2⟩ := symOp_ok (w := w) (t := t) hE hp hq hx hy h
      exact ⟨cv, by simp [eqGuard_int, h1], h2⟩
    rename_i hno
    have hk : symOf x = none ∨ symOf y = none := by
      cases h1 : symOf x with
      | none => exact .inl rfl
      | some p =>
        cases h2 : symOf y with
        | none => exact .inr rfl
        | some q => exact absurd h2 (hno p q h1)
    split at h
    · obtain ⟨ha, rfl⟩ := conc_str hx
      obtain ⟨hb, rfl⟩ := conc_str hy
      obtain ⟨cv, h1, h2⟩ := str_ok (Y := Y) (ρ := ρ) (w := w) (E := E) (t := t) h ha hb
      exact ⟨cv, by simp [eqGuard_str, h1], h2⟩
    · split at h
      · rename_i ms hc hd
        cases h
        cases hx
        cases hy
        refine ⟨.bool true, ?_, rfl⟩
        simp only [Sem.run_bind, eqGuard_const hc, Result.andThen_ok, (binOp_eql (t := t) (x := .nilIface) (y := .nilIface) rfl).1, equal_nilIface hE hd, Sem.run_pure]
      · cases h
    · split at h
      · rename_i ms hc hd
        cases h
        cases hx
        cases hy
        refine ⟨.bool false, ?_, rfl⟩
        simp only [Sem.run_bind, eqGuard_const hc, Result.andThen_ok, (binOp_eql (t := t) (x := .nilIface) (y := .nilIface) rfl).2, equal_nilIface hE hd, Sem.run_pure, Bool.not_true]
      · cases h
    · split at h
      · rename_i b hb
        cases h
        obtain ⟨h1, _⟩ := eqA_bin (w := w) hE (eqA_sym hb hk) hb hx hy
        exact ⟨.bool b, by simp [eqGuard_ok hE hb hx hy, h1], rfl⟩
      · cases h
    · split at h
      · rename_i b hb
        cases h
        obtain ⟨_, h1⟩ := eqA_bin (w := w) hE (eqA_sym hb hk) hb hx hy
        exact ⟨.bool !b, by simp [eqGuard_ok hE hb hx hy, h1], rfl⟩
      · cases h
    · cases h

theorem orcBin_ok (hE : EnvOk Y E) {op : BinOp} {t : TypeId} {ox oy : Operand} {x y v : AV} {cx cy : Value} (h : orcBin op x y E.orc = some v) (hx : conc Y ρ x = some cx) (hy : conc Y ρ y = some cy) :
    Yields Y E ρ w (do eqGuard op t ox oy cx cy; binOp op t cx cy) v := by
  obtain ⟨dx, dy, dz, h1, h2, h3, h4, h5⟩ := hE.orc _ (orcBin_mem h)
  obtain rfl := Option.some.inj (hx.symm.trans (h1 ρ))
  obtain rfl := Option.some.inj (hy.symm.trans (h2 ρ))
  refine ⟨dz, ?_, h3 ρ⟩
  rcases h4 with ⟨a, b, rfl, rfl⟩ | ⟨k, m, k', n, rfl, rfl⟩
  · simp only [Sem.run_bind, eqGuard_str, Result.andThen_ok, h5]
  · simp only [Sem.run_bind, eqGuard_int, Result.andThen_ok, h5]

theorem binSlow_ok (hE : EnvOk Y E) {op : BinOp} {t : TypeId} {ox oy : Operand} {x y v : AV} {cx cy : Value} (h : binSlow E op t (isConstO ox || isConstO oy) x y = some v) (hx : conc Y ρ x = some cx) (hy : conc Y ρ y = some cy) :
    Yields Y E ρ w (do eqGuard op t ox oy cx cy; binOp op t cx cy) v := by
  unfold binSlow at h
  split at h
  · rename_i h0
    cases h
    exact binSlowK_ok hE h0 hx hy
  · exact orcBin_ok hE h hx hy

/-- a binary operation -/
theorem bin_ok (hE : EnvOk Y E) {op : BinOp} {t : TypeId} {ox oy : Operand} {x y v : AV} {cx cy : Value} (h : binOpA E op t (isConstO ox || isConstO oy) x y = some v) (hx : conc Y ρ x = some cx) (hy : conc Y ρ y = some cy) :
    Yields Y E ρ w (do eqGuard op t ox oy cx cy; binOp op t cx cy) v := by
  unfold binOpA at h
  cases hs : isShift op with
  | true => rw [hs] at h; exact binSlow_ok hE h hx hy
  | false =>
    rw [hs] at h
    dsimp only at h
    cases ha : asI x with
    | none => rw [ha] at h; exact binSlow_ok hE h hx hy
    | some a =>
      rw [ha] at h
      dsimp only at h
      cases hb : asI y with
      | none => rw [hb] at h; exact binSlow_ok hE h hx hy
      | some b =>
        rw [hb] at h
        dsimp only at h
        rw [asI_eq ha] at hx
        rw [asI_eq hb] at hy
        cases hx
        cases hy
        obtain ⟨cv, h1, h2⟩ := op64_ok (Y := Y) (ρ := ρ) (w := w) (E := E) (t := t) hs h
        exact ⟨cv, by simp [eqGuard_int, h1], h2⟩

end
end Go.AE

namespace Go.AE

section
variable {Y : Sy} {E : Env} {ρ : Rho} {w : World}

/-- an operand that may be missing -/
def OptRel (Y : Sy) (ρ : Rho) : Option AV → Option Value → Prop
  | none, none => True
  | some v, some c => conc Y ρ v = some c
  | _, _ => False

theorem bound_ok {x : Option AV} {cx : Option Value} {y d n : Nat} (h : bound x y d = some n) (hx : OptRel Y ρ x cx) :
    (cx = none ∧ n = d) ∨ (∃ cv, cx = some cv ∧ n ≤ y ∧ ∀ code, (Instr.sliceBound cv y code).run E.P w = .ok n w) := by
  unfold bound at h
  split at h
  · cases h
    cases cx with
    | none => exact .inl ⟨rfl, rfl⟩
    | some c => exact hx.elim
  · rename_i v
    cases cx with
    | none => exact hx.elim
    | some c =>
      split at h
      · rename_i i hi
        split at h
        · rename_i m hm
          split at h
          · rename_i hle
            cases h
            have hle' := Nat.le_of_ble_eq_true hle
            obtain ⟨k, rfl⟩ := conc_anyI hi hx
            have := natI_eq hm
            subst this
            refine .inr ⟨_, rfl, hle', fun code => ?_⟩
            have hc : 0 ≤ (n : Int) ∧ (n : Int) ≤ (y : Int) := by omega
            simp [Instr.sliceBound, asIntOf, hc]
          · cases h
        · cases h
      · cases h

theorem bounds_ok {lo hi mx : Option AV} {clo chi cmx : Option Value} {len cap l h m : Nat} (hb : bounds lo hi mx len cap = some (l, h, m)) (hlo : OptRel Y ρ lo clo) (hhi : OptRel Y ρ hi chi) (hmx : OptRel Y ρ mx cmx) (isS : Bool) :
    (Instr.sliceBounds isS len cap clo chi cmx).run E.P w = .ok (l, h, m) w ∧ (clo = none → l = 0) ∧ l ≤ max h 0 ∧ (cmx = none → m = cap) ∧ m ≤ cap := by
  unfold bounds at hb
  split at hb
  · cases hb
  · rename_i hno
    split at hb
    · cases hb
    · rename_i m' hm
      split at hb
      · cases hb
      · rename_i h' hh
        split at hb
        · cases hb
        · rename_i l' hl
          cases hb
          have hmx1 : cmx ≠ none → chi ≠ none := by
            intro h1 h2
            subst h2
            cases mx with
            | none => cases cmx with
              | none => exact h1 rfl
              | some c => exact hmx.elim
            | some v => cases hi with
              | none => exact hno v rfl rfl
              | some u => exact hhi.elim
          rcases bound_ok (Y := Y) (ρ := ρ) (E := E) (w := w) hm hmx with ⟨e1, e2⟩ | ⟨cm, e1, e2, e3⟩
          · subst e1
            subst e2
            rcases bound_ok (Y := Y) (ρ := ρ) (E := E) (w := w) hh hhi with ⟨f1, f2⟩ | ⟨ch, f1, f2, f3⟩
            · subst f1
              subst f2
              rcases bound_ok (Y := Y) (ρ := ρ) (E := E) (w := w) hl hlo with ⟨g1, g2⟩ | ⟨cl, g1, g2, g3⟩
              · subst g1
                subst g2
                exact ⟨by simp [Instr.sliceBounds], fun _ => rfl, by omega, fun _ => rfl, Nat.le_refl _⟩
              · subst g1
                exact ⟨by simp [Instr.sliceBounds, g3], (fun h => by cases h), by omega, fun _ => rfl, Nat.le_refl _⟩
            · subst f1
              rcases bound_ok (Y := Y) (ρ := ρ) (E := E) (w := w) hl hlo with ⟨g1, g2⟩ | ⟨cl, g1, g2, g3⟩
              · subst g1
                subst g2
                exact ⟨by simp [Instr.sliceBounds, f3], fun _ => rfl, by omega, fun _ => rfl, Nat.le_refl _⟩
              · subst g1
                exact ⟨by simp [Instr.sliceBounds, f3, g3], (fun h => by cases h), by omega, fun _ => rfl, Nat.le_refl _⟩
          · subst e1
            rcases bound_ok (Y := Y) (ρ := ρ) (E := E) (w := w) hh hhi with ⟨f1, f2⟩ | ⟨ch, f1, f2, f3⟩
            · exact absurd f1 (hmx1 (by simp))
            · subst f1
              rcases bound_ok (Y := Y) (ρ := ρ) (E := E) (w := w) hl hlo with ⟨g1, g2⟩ | ⟨cl, g1, g2, g3⟩
              · subst g1
                subst g2
                exact ⟨by simp [Instr.sliceBounds, e3, f3], fun _ => rfl, by omega, (fun h => by cases h), e2⟩
              · subst g1
                exact ⟨by simp [Instr.sliceBounds, e3, f3, g3], (fun h => by cases h), by omega, (fun h => by cases h), e2⟩

theorem cutA_ok {b o s : Nat} {r : Nat × Nat × Nat} {v : AV} {L : Loc} (h : cutA b o s r = some v) (hL : ρ b = some L) :
    conc Y ρ v = some (.slice (some (if r.2.2 = r.1 then L.addr o else (L.addr o).add (r.1 * s))) (r.2.1 - r.1) (r.2.2 - r.1)) := by
  obtain ⟨l, hh, m⟩ := r
  simp only [cutA] at h
  cases hml : Nat.beq m l with
  | true =>
    have := Nat.eq_of_beq_eq_true hml
    subst this
    simp only [hml, forceN_eq] at h
    cases h
    simp [conc, hL]
  | false =>
    have hne : m ≠ l := Nat.ne_of_beq_eq_false hml
    simp only [hml, forceN_eq] at h
    cases h
    simp [conc, hL, hne, addr_add]

theorem bound_le {v : AV} {y z d e n : Nat} (h : bound (some v) y d = some n) (hz : y ≤ z) : bound (some v) z e = some n ∧ n ≤ y := by
  unfold bound at h ⊢
  dsimp only at h ⊢
  cases h1 : anyI v with
  | none => rw [h1] at h; cases h
  | some i =>
    rw [h1] at h
    dsimp only at h ⊢
    cases h2 : natI i with
    | none => rw [h2] at h; cases h
    | some k =>
      rw [h2] at h
      dsimp only at h ⊢
      cases h3 : Nat.ble k y with
      | false => rw [h3] at h; cases h
      | true =>
        rw [h3] at h
        cases h
        have h4 := Nat.le_of_ble_eq_true h3
        rw [Nat.ble_eq_true_of_le (by omega)]
        exact ⟨rfl, h4⟩

theorem bounds_some_le {lo hi : Option AV} {mv : AV} {len C : Nat} {r : Nat × Nat × Nat} (h : bounds lo hi (some mv) len len = some r) (hC : len ≤ C) : bounds lo hi (some mv) len C = some r := by
  cases hi with
  | none => cases h
  | some hv =>
    have e : ∀ c, bounds lo (some hv) (some mv) len c = (match bound (some mv) c c with
      | none => none
      | some m => match bound (some hv) m len with
        | none => none
        | some h => (match bound lo h 0 with | none => none | some l => some (l, h, m))) := fun _ => rfl
    rw [e] at h ⊢
    cases hm : bound (some mv) len len with
    | none => rw [hm] at h; cases h
    | some m =>
      rw [(bound_le (e := C) hm hC).1]
      rw [hm] at h
      exact h

theorem bounds_none_le {lo hi : Option AV} {len C l h m : Nat} (hb : bounds lo hi none len len = some (l, h, m)) (hC : len ≤ C) : bounds lo hi none len C = some (l, h, C) ∧ h ≤ len := by
  have e : ∀ c, bounds lo hi none len c = (match bound hi c len with
        | none => none
        | some h => (match bound lo h 0 with | none => none | some l => some (l, h, c))) := fun _ => by cases hi <;> rfl
  rw [e] at hb ⊢
  cases hi with
  | none =>
    have e1 : ∀ c, bound none c len = some len := fun _ => rfl
    rw [e1] at hb ⊢
    dsimp only at hb ⊢
    cases hl : bound lo len 0 with
    | none => rw [hl] at hb; cases hb
    | some l' => rw [hl] at hb; cases hb; exact ⟨rfl, Nat.le_refl _⟩
  | some hv =>
    cases hm : bound (some hv) len len with
    | none => rw [hm] at hb; cases hb
    | some h' =>
      obtain ⟨k1, k2⟩ := bound_le (e := len) hm hC
      rw [k1]
      rw [hm] at hb
      dsimp only at hb ⊢
      cases hl : bound lo h' 0 with
      | none => rw [hl] at hb; cases hb
      | some l' => rw [hl] at hb; cases hb; exact ⟨rfl, k2⟩

theorem sliceK_ok (hE : EnvOk Y E) {t : TypeId} {x v : AV} {lo hi mx : Option AV} {cx : Value} {clo chi cmx : Option Value} (h : sliceK E t x lo hi mx = some v) (hx : conc Y ρ x = some cx)
    (hlo : OptRel Y ρ lo clo) (hhi : OptRel Y ρ hi chi) (hmx : OptRel Y ρ mx cmx) : Yields Y E ρ w (Instr.sliceAt t cx clo chi cmx) v := by
  unfold sliceK at h
  split at h
  · rename_i s hd
    have hu := run_und (w := w) hE hd
    split at h
    · cases h
    · obtain ⟨hok, rfl⟩ := conc_str hx
      cases cmx with
      | some c => exact hmx.elim
      | none =>
        split at h
        · rename_i l hh m hb
          cases h
          obtain ⟨h1, _⟩ := bounds_ok (E := E) (w := w) hb hlo hhi (cmx := none) trivial false
          refine ⟨.string ((bytesV s).extract l hh), ?_, by rw [conc_of_str (okBytes_sub hok _ _)]; exact congrArg (fun z => some (Value.string z)) (bytesV_extract s l hh)⟩
          simp [Instr.sliceAt, hu, Instr.slice, bytesV_size, h1]
        · cases h
  · rename_i elem hd
    have hu := run_und (w := w) hE hd
    cases hx
    split at h
    · rename_i r s hb hs
      cases h
      obtain ⟨l, hh, m⟩ := r
      obtain ⟨h1, _, h3, _, h5⟩ := bounds_ok (E := E) (w := w) hb hlo hhi hmx true
      refine ⟨.slice none 0 0, ?_, rfl⟩
      have hb2 : hh ≤ 0 ∧ l = 0 ∧ m = 0 := by
        have hm0 : m = 0 := by omega
        have hhh : hh ≤ 0 := by
          unfold bounds at hb
          split at hb
          · cases hb
          · split at hb
            · cases hb
            · rename_i m' hm
              split at hb
              · cases hb
              · rename_i h' hh'
                split at hb
                · cases hb
                · cases hb
                  rcases bound_ok (Y := Y) (ρ := ρ) (E := E) (w := w) hh' hhi with ⟨_, e⟩ | ⟨_, _, e, _⟩ <;> omega
        exact ⟨hhh, by omega, hm0⟩
      obtain ⟨e1, e2, e3⟩ := hb2
      have e4 : hh = 0 := by omega
      subst e2 e3 e4
      simp only [Instr.sliceAt, Sem.run_bind, hu, Result.andThen_ok, Instr.slice, h1, run_size hE hs]
      rfl
    · cases h
  · rename_i elem b o len cap hd
    have hu := run_und (w := w) hE hd
    obtain ⟨L, hL, rfl⟩ := conc_slice hx
    split at h
    · rename_i r s hb hs
      obtain ⟨l, hh, m⟩ := r
      obtain ⟨h1, _⟩ := bounds_ok (E := E) (w := w) hb hlo hhi hmx true
      refine ⟨_, ?_, cutA_ok h hL⟩
      simp only [Instr.sliceAt, Sem.run_bind, hu, Result.andThen_ok, Instr.slice, h1, run_size hE hs, Sem.run_pure]
      congr 2
      split <;> rfl
    · cases h
  · rename_i elem b o len pre hd
    have hu := run_und (w := w) hE hd
    obtain ⟨L, hL, rfl, hle⟩ := conc_gslice' hx
    split at h
    · rename_i mv
      split at h
      · rename_i r s hb hs
        obtain ⟨l, hh, m⟩ := r
        cases cmx with
        | none => exact hmx.elim
        | some cm =>
          -- the same bounds serve at the true capacity
          have hb' := bounds_some_le hb hle
          obtain ⟨h1, _⟩ := bounds_ok (E := E) (w := w) hb' hlo hhi hmx true
          refine ⟨_, ?_, cutA_ok h hL⟩
          simp only [Instr.sliceAt, Sem.run_bind, hu, Result.andThen_ok, Instr.slice, h1, run_size hE hs, Sem.run_pure]
          congr 2
          split <;> rfl
      · cases h
    · cases cmx with
      | some c => exact hmx.elim
      | none =>
        split at h
        · rename_i l hh m s hb hs
          have hb0 := bounds_ok (Y := Y) (ρ := ρ) (E := E) (w := w) hb hlo hhi (cmx := none) trivial true
          -- the same bounds at the true capacity
          have hb' := bounds_none_le hb hle
          obtain ⟨hbb, hhl⟩ := hb'
          obtain ⟨h1, g1, g2, _⟩ := bounds_ok (E := E) (w := w) hbb hlo hhi (cmx := none) trivial true
          split at h
          · rename_i hl0
            have := Nat.eq_of_beq_eq_true hl0
            subst this
            cases h
            refine ⟨_, ?_, conc_of_gslice (L := L) hL (by omega)⟩
            simp only [Instr.sliceAt, Sem.run_bind, hu, Result.andThen_ok, Instr.slice, h1, run_size hE hs, Sem.run_pure]
            congr 2
            split <;> simp [addr_add]
          · rename_i hl0
            have hl1 : l ≠ 0 := Nat.ne_of_beq_eq_false hl0
            split at h
            · rename_i hlt
              have hlt' := (blt_iff _ _).1 hlt
              simp only [forceN_eq] at h
              cases h
              have hne : L.cap - pre ≠ l := by omega
              have e : L.cap - pre - l = L.cap - (pre + l) := by omega
              refine ⟨_, ?_, conc_of_gslice (L := L) hL (by show hh - l ≤ L.cap - (pre + l); omega)⟩
              simp only [Instr.sliceAt, Sem.run_bind, hu, Result.andThen_ok, Instr.slice, h1, run_size hE hs, Sem.run_pure, hne, if_false]
              simp only [Option.map_some, addr_add, e]
              rfl
            · rename_i hnl
              have hge : len ≤ l := by
                rcases Nat.lt_or_ge l len with h' | h'
                · rw [(blt_iff _ _).2 h'] at hnl; cases hnl
                · exact h'
              cases h
              have hll : l ≤ L.cap - pre := by omega
              have hhl' : hh - l = 0 := by omega
              refine ⟨if L.cap - pre = l then .slice (some (L.addr o)) 0 0 else .slice (some (L.addr (o + l * s))) 0 (L.cap - pre - l), ?_, ?_⟩
              · simp only [Instr.sliceAt, Sem.run_bind, hu, Result.andThen_ok, Instr.slice, h1, run_size hE hs, Sem.run_pure]
                by_cases hq : L.cap - pre = l
                · simp [hq, hhl']
                · simp [hq, hhl', addr_add]
              · simp only [conc, hL, Option.bind_some, if_pos hll]
                split <;> rfl
        · cases h
  · rename_i n elem b o hd
    have hu := run_und (w := w) hE hd
    obtain ⟨L, hL, rfl⟩ := conc_ptr hx
    split at h
    · rename_i r s hb hs
      obtain ⟨l, hh, m⟩ := r
      obtain ⟨h1, _⟩ := bounds_ok (E := E) (w := w) hb hlo hhi hmx false
      refine ⟨_, ?_, cutA_ok h hL⟩
      simp only [Instr.sliceAt, Instr.sureAddr, Sem.run_bind, hu, Result.andThen_ok, h1, run_size hE hs, Sem.run_pure]
    · cases h
  · rename_i elem b o l s pre hd
    have hu := run_und (w := w) hE hd
    obtain ⟨a, cp, rfl⟩ := conc_eslice hx
    split at h
    · cases h
    · split at h
      · rename_i r s2 hb hs
        cases h
        cases cmx with
        | some c => exact hmx.elim
        | none =>
          obtain ⟨l', hh, m⟩ := r
          obtain ⟨hb', hle⟩ := bounds_none_le hb (C := cp) (Nat.zero_le _)
          obtain ⟨h1, q1, q2, _⟩ := bounds_ok (Y := Y) (ρ := ρ) (E := E) (w := w) hb' hlo hhi (cmx := none) trivial true
          have e1 : hh = 0 := by omega
          have e2 : l' = 0 := by omega
          subst e1 e2
          refine ⟨.slice (some a) 0 cp, ?_, hx⟩
          simp only [Instr.sliceAt, Sem.run_bind, hu, Result.andThen_ok, Instr.slice, h1, run_size hE hs, Sem.run_pure]
          congr 2
          split <;> simp [Go.Addr.add]
      · cases h
  · rename_i elem si b o n nhi hd
    have hu := run_und (w := w) hE hd
    obtain ⟨rfl, g1, _, g2⟩ := conc_uslice hx
    split at h
    · rename_i hv
      cases clo with
      | some c => exact hlo.elim
      | none =>
        cases cmx with
        | some c => exact hmx.elim
        | none =>
          split at h
          · rename_i l hh m s hb hs hn0
            cases h
            have hn : n ≠ 0 := Nat.ne_of_beq_eq_false hn0
            obtain ⟨L, hL, ha, hc, hcap⟩ := g2 hn
            have hl0 : l = 0 := by
              have e : bounds none (some hv) none n n = (match bound (some hv) n n with
                | none => none
                | some h => some (0, h, n)) := rfl
              rw [e] at hb
              split at hb
              · cases hb
              · cases hb; rfl
            subst hl0
            obtain ⟨hbb, hhl⟩ := bounds_none_le hb (C := L.cap) (by omega)
            have hbt : bounds none (some hv) none (Y.sls si).2.1 L.cap = some (0, hh, L.cap) := hbb
            obtain ⟨h1, q1, q2, _⟩ := bounds_ok (Y := Y) (ρ := ρ) (E := E) (w := w) hbt hlo hhi (cmx := none) trivial true
            refine ⟨_, ?_, conc_of_gslice (L := L) hL (by omega)⟩
            rw [ha, hcap]
            simp only [Instr.sliceAt, Sem.run_bind, hu, Result.andThen_ok, Instr.slice, h1, run_size hE hs, Sem.run_pure]
            congr 2
            split <;> simp [addr_add]
          · cases h
    · cases h
  · cases h

/-! ### Behind the length -/
theorem bounds_room {lo hi : Option AV} {len R C l h m : Nat} (hb : bounds lo hi none len R = some (l, h, m)) (hC : R ≤ C) (hlen : len ≤ C) : bounds lo hi none len C = some (l, h, C) ∧ h ≤ C := by
  have e : ∀ c, bounds lo hi none len c = (match bound hi c len with
        | none => none
        | some h => (match bound lo h 0 with | none => none | some l => some (l, h, c))) := fun _ => by cases hi <;> rfl
  have key : ∀ h', bound hi R len = some h' → bound hi C len = some h' ∧ h' ≤ C := by
    intro h' hb'
    cases hi with
    | none => cases hb'; exact ⟨rfl, hlen⟩
    | some v =>
      unfold bound at hb' ⊢
      dsimp only at hb' ⊢
      cases hn : anyI v with
      | none => rw [hn] at hb'; cases hb'
      | some n =>
        rw [hn] at hb'
        dsimp only at hb' ⊢
        cases hk : natI n with
        | none => rw [hk] at hb'; cases hb'
        | some k =>
          rw [hk] at hb'
          dsimp only at hb' ⊢
          cases hle : Nat.ble k R with
          | false => rw [hle] at hb'; cases hb'
          | true =>
            rw [hle] at hb'
            cases hb'
            have := Nat.le_of_ble_eq_true hle
            have h2 : Nat.ble h' C = true := Nat.ble_eq_true_of_le (by omega)
            rw [h2]
            exact ⟨rfl, by omega⟩
  rw [e] at hb ⊢
  cases hh : bound hi R len with
  | none => rw [hh] at hb; cases hb
  | some h' =>
    rw [hh] at hb
    obtain ⟨k1, k2⟩ := key h' hh
    rw [k1]
    dsimp only at hb ⊢
    cases hl : bound lo h' 0 with
    | none => rw [hl] at hb; cases hb
    | some l' =>
      rw [hl] at hb
      cases hb
      exact ⟨rfl, k2⟩

theorem at_run {P : Program} {n d : Nat} {lo : Option AV} {clo : Option Value} {y : Nat} (code : BoundsCode) (h : AtIs Y n d lo) (hlo : OptRel Y ρ lo clo) (hn : n ≤ y) :
    (match clo with | some v => Instr.sliceBound v y code | none => pure d : Sem Nat).run P w = .ok n w := by
  cases lo with
  | none =>
    cases clo with
    | some c => exact hlo.elim
    | none =>
      have : n = d := h
      simp [this]
  | some a =>
    cases clo with
    | none => exact hlo.elim
    | some c =>
      obtain ⟨k, hk⟩ := h
      have hc : conc Y ρ a = some c := hlo
      rw [hk] at hc
      cases hc
      have h1 : (0 : Int) ≤ (n : Int) ∧ (n : Int) ≤ (y : Int) := by omega
      simp [Instr.sliceBound, asIntOf, h1]

theorem orcCut_ok (hE : EnvOk Y E) {t : TypeId} {x v : AV} {lo hi : Option AV} {cx : Value} {clo chi : Option Value} (hu : E.und t = some .string) (h : orcCut x lo hi E.orc = some v) (hx : conc Y ρ x = some cx)
    (hlo : OptRel Y ρ lo clo) (hhi : OptRel Y ρ hi chi) : Yields Y E ρ w (Instr.sliceAt t cx clo chi none) v := by
  obtain ⟨s, l, hh, h1, h2, h3, h4, h5, h6⟩ := hE.orc _ (orcCut_mem h)
  obtain rfl := Option.some.inj (hx.symm.trans (h1 ρ))
  refine ⟨_, ?_, h6 ρ⟩
  have hu' := run_und (w := w) hE hu
  have e2 := at_run (w := w) (P := E.P) (y := s.size) .sliceAlen h5 hhi h3
  have e3 := at_run (w := w) (P := E.P) (y := hh) .sliceB h4 hlo h2
  have e : (Instr.sliceBounds false s.size s.size clo chi none).run E.P w = .ok (l, hh, s.size) w := by
    unfold Instr.sliceBounds
    cases clo <;> cases chi <;> simp_all [Sem.run_bind]
  simp only [Instr.sliceAt, Sem.run_bind, hu', Result.andThen_ok, Instr.slice, Option.isSome_none, Bool.false_eq_true, if_false, Sem.run_pure, e]

theorem slice_ok (hE : EnvOk Y E) {t : TypeId} {x v : AV} {lo hi mx : Option AV} {cx : Value} {clo chi cmx : Option Value} (h : sliceA E t x lo hi mx = some v) (hx : conc Y ρ x = some cx)
    (hlo : OptRel Y ρ lo clo) (hhi : OptRel Y ρ hi chi) (hmx : OptRel Y ρ mx cmx) : Yields Y E ρ w (Instr.sliceAt t cx clo chi cmx) v := by
  unfold sliceA at h
  split at h
  · rename_i h0
    cases h
    exact sliceK_ok hE h0 hx hlo hhi hmx
  · split at h
    · rename_i hu _
      cases cmx with
      | some c => exact hmx.elim
      | none => exact orcCut_ok hE (by assumption) h hx hlo hhi
    · cases h

theorem roomA_same {E : Env} {t : TypeId} {x : AV} {lo hi mx : Option AV} {h h' : H} (hs : ∀ b o n p, x = .gslice b o n p → h'.get b = h.get b) : roomA E t x lo hi mx h' = roomA E t x lo hi mx h := by
  unfold roomA
  split
  · rw [hs _ _ _ _ rfl]
  · rfl

theorem room_ok {h : H} (hE : EnvOk Y E) (hr : Rel Y E ρ h w) {t : TypeId} {x v : AV} {lo hi mx : Option AV} {cx : Value} {clo chi cmx : Option Value} (hv : roomA E t x lo hi mx h = some v) (hx : conc Y ρ x = some cx)
    (hlo : OptRel Y ρ lo clo) (hhi : OptRel Y ρ hi chi) (hmx : OptRel Y ρ mx cmx) : Yields Y E ρ w (Instr.sliceAt t cx clo chi cmx) v := by
  unfold roomA at hv
  split at hv
  · rename_i elem b o len pre hd
    have hu := run_und (w := w) hE hd
    obtain ⟨L, hL, rfl, hle⟩ := conc_gslice' hx
    cases cmx with
    | some c => exact hmx.elim
    | none =>
      split at hv
      · cases hv
      · rename_i ob hob
        split at hv
        · rename_i c n gs s hrow hs
          split at hv
          · rename_i l hh m hgs hb
            split at hv
            · rename_i hlt
              have hlt' := (blt_iff _ _).1 hlt
              simp only [forceN_eq] at hv
              cases hv
              obtain ⟨_, L', arr, el, r1, r2, r3, r4, r5⟩ := hr.row hob hrow
              rw [hL] at r1
              cases r1
              have hgs' : gs ≠ 0 := Nat.ne_of_beq_eq_false hgs
              obtain ⟨r6, _⟩ := r4 hgs'
              have hdiv : n / gs ≤ L.cap := Nat.div_le_of_le_mul (by rw [Nat.mul_comm]; exact r6)
              have hdiv' : Nat.sub (Nat.div n gs) pre ≤ L.cap - pre := Nat.sub_le_sub_right hdiv pre
              obtain ⟨hbb, hhC⟩ := bounds_room hb hdiv' hle
              obtain ⟨h1, g1, g2, _⟩ := bounds_ok (E := E) (w := w) hbb hlo hhi (cmx := none) trivial true
              have hne : L.cap - pre ≠ l := by omega
              have e : L.cap - pre - l = L.cap - (pre + l) := by omega
              refine ⟨_, ?_, conc_of_gslice (L := L) hL (by show hh - l ≤ L.cap - (pre + l); omega)⟩
              simp only [Instr.sliceAt, Sem.run_bind, hu, Result.andThen_ok, Instr.slice, h1, run_size hE hs, Sem.run_pure, hne, if_false]
              simp only [Option.map_some, addr_add, e]
              rfl
            · cases hv
          · cases hv
        · cases hv
  · cases hv

end
end Go.AE

namespace Go.AE

section
variable {Y : Sy} {E : Env} {ρ : Rho} {w : World}

/-! ### Literals -/
def PartsRel (Y : Sy) (ρ : Rho) : List (Nat × AV) → List (Nat × Value) → Prop
  | [], [] => True
  | (i, v) :: r, (j, c) :: s => i = j ∧ conc Y ρ v = some c ∧ PartsRel Y ρ r s
  | _, _ => False

theorem foldl_put (off : Nat) : ∀ (cs : List Value) (k : Nat) (arr : Array Value), (cs.zipIdx k).foldl (fun (a : Array Value) (p : Value × Nat) => a.setIfInBounds (off + p.2) p.1) arr = putArr arr (off + k) cs := by
  intro cs
  induction cs with
  | nil => intro k arr; rfl
  | cons c r ih =>
    intro k arr
    simp only [List.zipIdx_cons, List.foldl_cons, putArr]
    rw [ih, Nat.add_assoc]

theorem putArr_splice (cs : List Value) (off : Nat) (arr : Array Value) (h : off + cs.length ≤ arr.size) : putArr arr off cs = (arr.toList.take off ++ (cs ++ arr.toList.drop (off + cs.length))).toArray := by
  apply Array.ext'
  apply List.ext_getElem?
  intro i
  rw [Array.getElem?_toList, putArr_get _ _ _ _ h]
  have hl : (arr.toList.take off).length = off := by simp; omega
  by_cases h1 : i < off
  · rw [if_neg (by omega), List.getElem?_append_left (by omega), List.getElem?_take_of_lt h1, Array.getElem?_toList]
  · rw [List.getElem?_append_right (by omega), hl]
    by_cases h2 : i < off + cs.length
    · rw [if_pos ⟨by omega, h2⟩, List.getElem?_append_left (by omega)]
    · rw [if_neg (by omega), List.getElem?_append_right (by omega), List.getElem?_drop, Array.getElem?_toList]
      congr 1
      omega

theorem fill_ok {pa pc : Nat → Option (Nat × Nat)} (hp : ∀ i r, pa i = some r → pc i = some r) : ∀ (parts : List (Nat × AV)) (cparts : List (Nat × Value)) (cs : List AV) (ccs : List Value) (out : List AV),
    PartsRel Y ρ parts cparts → concs Y ρ cs = some ccs → cs.all isCell = true → fillA pa cs parts = some out →
    ∃ cout, Instr.fill pc ccs.toArray cparts = some cout.toArray ∧ concs Y ρ out = some cout ∧ out.all isCell = true := by
  intro parts
  induction parts with
  | nil =>
    intro cparts cs ccs out hr hcs hcell h
    cases cparts with
    | nil => cases h; exact ⟨ccs, rfl, hcs, hcell⟩
    | cons _ _ => exact hr.elim
  | cons p r ih =>
    intro cparts cs ccs out hr hcs hcell h
    cases cparts with
    | nil => exact hr.elim
    | cons q s =>
      obtain ⟨i, v⟩ := p
      obtain ⟨j, c⟩ := q
      obtain ⟨rfl, hv, hr'⟩ := hr
      simp only [fillA] at h
      cases hpl : pa i with
      | none => rw [hpl] at h; cases h
      | some q =>
        obtain ⟨off, size⟩ := q
        cases hcv : cellsOf v with
        | none => rw [hpl, hcv] at h; cases h
        | some vs =>
          rw [hpl, hcv] at h
          dsimp only at h
          cases hsz : Nat.beq vs.length size with
          | false => rw [hsz] at h; cases h
          | true =>
            rw [hsz] at h
            dsimp only at h
            cases hle : Nat.ble (Nat.add off size) cs.length with
            | false => rw [hle] at h; cases h
            | true =>
              rw [hle] at h
              dsimp only at h
              have hsz' := Nat.eq_of_beq_eq_true hsz
              have hle' : off + size ≤ cs.length := Nat.le_of_ble_eq_true hle
              obtain ⟨cvs, k1, k2, k3⟩ := cellsOf_conc hcv hv
              have hl1 := concs_length k1
              have hl2 := concs_length hcs
              have hspl : concs Y ρ (spliceL cs off vs) = some (ccs.take off ++ (cvs ++ ccs.drop (off + cvs.length))) := by
                unfold spliceL
                refine concs_append.2 ⟨_, _, concs_take hcs off, concs_append.2 ⟨_, _, k1, concs_drop hcs _, rfl⟩, ?_⟩
                rw [hl1]; rfl
              have hall : (spliceL cs off vs).all isCell = true := by
                rw [List.all_eq_true] at hcell k3 ⊢
                intro x hx
                unfold spliceL at hx
                rcases List.mem_append.1 hx with hx | hx
                · exact hcell x (List.mem_of_mem_take hx)
                · rcases List.mem_append.1 hx with hx | hx
                  · exact k3 x hx
                  · exact hcell x (List.mem_of_mem_drop hx)
              obtain ⟨cout, e1, e2, e3⟩ := ih s _ _ out hr' hspl hall h
              refine ⟨cout, ?_, e2, e3⟩
              rw [Instr.fill, hp i _ hpl]
              have hno : ¬ ((c.cells.size ≠ size || decide (off + c.cells.size > ccs.toArray.size)) = true) := by
                rw [k2]; simp; omega
              dsimp only
              rw [if_neg hno, ← e1, k2]
              congr 1
              have := foldl_put off cvs 0 ccs.toArray
              rw [Nat.add_zero] at this
              rw [← Array.foldl_toList, Array.toList_zipIdx, this, putArr_splice _ _ _ (by simp; omega)]

theorem places_ok (hE : EnvOk Y E) : ∀ (fs : List Field) (ps : List (Nat × Nat)), placesA E fs = some ps → (fs.mapM fun f => do pure (f.offset, ← sizeOf f.type) : Sem (List (Nat × Nat))).run E.P w = .ok ps w := by
  intro fs
  induction fs with
  | nil => intro ps h; cases h; simp
  | cons f r ih =>
    intro ps h
    simp only [placesA] at h
    cases hn : E.size f.type with
    | none => rw [hn] at h; cases h
    | some n =>
      rw [hn] at h
      dsimp only at h
      cases hl : placesA E r with
      | none => rw [hl] at h; cases h
      | some l =>
        rw [hl] at h
        cases h
        rw [List.mapM_cons]
        simp only [Sem.run_bind, run_size hE hn, Result.andThen_ok, Sem.run_pure, ih l hl]

theorem build_ok (hE : EnvOk Y E) {t : TypeId} {parts : List (Nat × AV)} {cparts : List (Nat × Value)} {v : AV} (hr : PartsRel Y ρ parts cparts) (h : buildA E t parts = some v) : Yields Y E ρ w (Instr.build t cparts.toArray) v := by
  unfold buildA at h
  split at h
  · rename_i z fields hz hu
    split at h
    · cases h
    · rename_i ps hps
      split at h
      · rename_i l hl
        cases h
        obtain ⟨cz, k1, k2⟩ := run_zero (Y := Y) (ρ := ρ) (w := w) hE hz
        obtain ⟨czs, k3, rfl, k4⟩ := conc_agg k2
        have hpl := places_ok (w := w) hE _ _ hps
        obtain ⟨cout, e1, e2, e3⟩ := fill_ok (Y := Y) (ρ := ρ) (pa := fun i => ps[i]?) (pc := fun i => ps.toArray[i]?) (fun i r h => by simpa using h) parts cparts z czs l hr k3 k4 hl
        refine ⟨.agg cout.toArray, ?_, by simp [conc, e2, e3]⟩
        have hm : (fields.mapM fun f => do pure (f.offset, ← sizeOf f.type) : Sem (Array (Nat × Nat))).run E.P w = .ok ps.toArray w := by
          rw [Array.mapM_eq_mapM_toList]
          simp only [Sem.run_map, hpl]
          rfl
        simp only [Instr.build, Sem.run_bind, k1, Result.andThen_ok, run_und hE hu, hm, Value.cells, e1]
        rfl
      · cases h
  · rename_i z n elem hz hu
    split at h
    · rename_i s hs
      split at h
      · rename_i l hl
        cases h
        obtain ⟨cz, k1, k2⟩ := run_zero (Y := Y) (ρ := ρ) (w := w) hE hz
        obtain ⟨czs, k3, rfl, k4⟩ := conc_agg k2
        obtain ⟨cout, e1, e2, e3⟩ := fill_ok (Y := Y) (ρ := ρ) (pa := fun i => some (Nat.mul i s, s)) (pc := fun i => some (i * s, s)) (fun i r h => h) parts cparts z czs l hr k3 k4 hl
        refine ⟨.agg cout.toArray, ?_, by simp [conc, e2, e3]⟩
        simp only [Instr.build, Sem.run_bind, k1, Result.andThen_ok, run_und hE hu, run_size hE hs, Value.cells, e1]
        rfl
      · cases h
    · cases h
  · cases h

/-! ### Rows of zeros -/
def repeatC (z : List Value) : Nat → List Value
  | 0 => []
  | n + 1 => z ++ repeatC z n

theorem repeat_conc {z : List AV} {cz : List Value} (h : concs Y ρ z = some cz) : ∀ n, concs Y ρ (repeatL z n) = some (repeatC cz n)
  | 0 => rfl
  | n + 1 => concs_append.2 ⟨_, _, h, repeat_conc h n, rfl⟩

theorem repeat_cell {z : List AV} (h : z.all isCell = true) : ∀ n, (repeatL z n).all isCell = true
  | 0 => rfl
  | n + 1 => by
    show (z ++ repeatL z n).all isCell = true
    rw [List.all_append, h, repeat_cell h n]
    rfl

theorem repeatC_length (z : List Value) : ∀ n, (repeatC z n).length = n * z.length
  | 0 => by simp [repeatC]
  | n + 1 => by simp only [repeatC, List.length_append, repeatC_length z n, Nat.succ_mul]; omega

theorem repeatC_get (z : List Value) : ∀ (n i : Nat), i < n * z.length → (repeatC z n)[i]? = z[i % z.length]?
  | 0, i, h => by omega
  | n + 1, i, h => by
    rw [Nat.succ_mul] at h
    simp only [repeatC]
    by_cases h1 : i < z.length
    · rw [List.getElem?_append_left h1, Nat.mod_eq_of_lt h1]
    · rw [List.getElem?_append_right (by omega), repeatC_get z n (i - z.length) (by omega)]
      congr 1
      rw [Nat.mod_eq_sub_mod (by omega : i ≥ z.length)]

theorem range_zeros (z : List Value) (n : Nat) : ((Array.range (n * z.length)).map fun i => (z.toArray)[i % z.toArray.size]!) = (repeatC z n).toArray := by
  apply Array.ext'
  apply List.ext_getElem?
  intro i
  simp only [Array.toList_map, Array.toList_range, List.getElem?_map, List.size_toArray]
  by_cases h : i < n * z.length
  · rw [List.getElem?_range h, repeatC_get z n i h]
    have hpos : 0 < z.length := by
      rcases Nat.eq_zero_or_pos z.length with h0 | h0
      · rw [h0, Nat.mul_zero] at h; omega
      · exact h0
    have hm : i % z.length < z.length := Nat.mod_lt _ hpos
    simp [hm]
  · rw [List.getElem?_eq_none (by simp; omega), List.getElem?_eq_none (by rw [repeatC_length]; omega)]
    rfl

theorem zeroCells_eq (z : List Value) (n : Nat) : Builtin.zeroCells z.toArray n = (repeatC z n).toArray := by
  unfold Builtin.zeroCells
  rw [← range_zeros z n]
  simp

end
end Go.AE

namespace Go.AE

section
variable {Y : Sy} {E : Env} {ρ : Rho} {h : H} {w : World}

/-- one block is made -/
def Makes (Y : Sy) (E : Env) (ρ : Rho) (w : World) (s : Sem Value) (o : AObj) (mk : Nat → AV) : Prop :=
  ∃ ob cv, s.run E.P w = .ok cv (w.alloc ob) ∧ (∀ ρ', ρ.le ρ' → ORel Y E ρ' ⟨w.heap.size, 0, 0⟩ o ob) ∧
    ∀ ρ' b, ρ.le ρ' → ρ' b = some ⟨w.heap.size, 0, 0⟩ → conc Y ρ' (mk b) = some cv

theorem run_newRow' {P : Program} (elem : TypeId) (cs : Array Value) : (newRow elem cs).run P w = .ok ⟨w.heap.size, 0, none⟩ (w.alloc (.cells cs elem)) := by
  simp [newRow]

theorem alloc_ok (hE : EnvOk Y E) {elem : TypeId} {z : List AV} (hz : E.zeros elem = some z) : Makes Y E ρ w (Instr.alloc elem true (.tuple #[])) (rowObj z 0) fun b => .ptr b 0 := by
  obtain ⟨cz, cs, h1, h2, h3, h4⟩ := run_zeros (Y := Y) (ρ := ρ) (w := w) hE hz
  refine ⟨.cells cs.toArray elem, .pointer (some ⟨w.heap.size, 0, none⟩), ?_, fun ρ' hle => newRow_orel h2 h4 _ _ _ hle, fun ρ' b _ hb => by simp [conc, hb, Loc.addr]⟩
  simp only [Instr.alloc, Sem.run_bind, h1, Result.andThen_ok, newVar, run_newRow', h3, Sem.run_pure]

theorem box_ok {elem : TypeId} {v : AV} {cv : Value} {vs : List AV} (hv : conc Y ρ v = some cv) (hc : cellsOf v = some vs) : Makes Y E ρ w (Instr.box elem cv) (rowObj vs 0) fun b => .ptr b 0 := by
  obtain ⟨cs, h1, h2, h3⟩ := cellsOf_conc hc hv
  refine ⟨.cells cs.toArray elem, .pointer (some ⟨w.heap.size, 0, none⟩), ?_, fun ρ' hle => newRow_orel h1 h3 _ _ _ hle, fun ρ' b _ hb => by simp [conc, hb, Loc.addr]⟩
  simp only [Instr.box, Sem.run_bind, newVar, run_newRow', h2, Sem.run_pure, Result.andThen_ok]

theorem buildSlice_ok (hE : EnvOk Y E) {t : TypeId} {n : Nat} {parts : List (Nat × AV)} {cparts : List (Nat × Value)} {o : AObj} (hr : PartsRel Y ρ parts cparts) (h : buildSliceA E t n parts = some o) :
    Makes Y E ρ w (Instr.buildSlice t n cparts.toArray) o fun b => .slice b 0 n n := by
  unfold buildSliceA at h
  split at h
  · rename_i elem hu
    split at h
    · rename_i s z hs hz
      split at h
      · rename_i hle hlen
        split at h
        · rename_i l hl
          cases h
          have hle' : n * s ≤ 16777216 := Nat.le_of_ble_eq_true hle
          have hlen' := Nat.eq_of_beq_eq_true hlen
          obtain ⟨cz, cs, k1, k2, k3, k4⟩ := run_zeros (Y := Y) (ρ := ρ) (w := w) hE hz
          have hcl := concs_length k2
          obtain ⟨cout, e1, e2, e3⟩ := fill_ok (Y := Y) (ρ := ρ) (pa := fun i => some (Nat.mul i s, s)) (pc := fun i => some (i * s, s)) (fun i r h => h) parts cparts _ _ l hr (repeat_conc k2 n) (repeat_cell k4 n) hl
          refine ⟨.cells cout.toArray elem, .slice (some ⟨w.heap.size, 0, none⟩) n n, ?_, fun ρ' hle => newRow_orel e2 e3 _ _ _ hle, fun ρ' b _ hb => by simp [conc, hb, Loc.addr]⟩
          have hno : ¬ (n * s > 2 ^ 24) := by omega
          simp only [Instr.buildSlice, Sem.run_bind, run_und hE hu, Result.andThen_ok, run_size hE hs, Sem.run_ite, hno, if_false, Sem.run_pure]
          by_cases h0 : n * s = 0
          · rw [if_pos h0]
            have h1 : repeatC cs n = [] := by
              have := repeatC_length cs n
              rw [hcl, hlen', h0] at this
              exact List.eq_nil_of_length_eq_zero this
            have h2 : (Array.map (fun x => (#[] : Array Value)[x % (#[] : Array Value).size]!) (Array.range (n * s))) = (repeatC cs n).toArray := by
              rw [h1, h0]; simp
            simp only [Sem.run_pure, Result.andThen_ok, h2, e1, Sem.run_bind, run_newRow']
          · rw [if_neg h0]
            have h2 := range_zeros cs n
            rw [hcl, hlen'] at h2
            simp only [Sem.run_bind, k1, Result.andThen_ok, k3, Sem.run_pure, h2, e1, run_newRow']
        · cases h
      · cases h
    · cases h
  · cases h

theorem makeMapV_ok (hE : EnvOk Y E) {t : TypeId} {n : AV} {cn : Value} {p : AObj × (Nat → AV)} (hp : makeMapV E t [n] = some p) (hn : conc Y ρ n = some cn) : Makes Y E ρ w (Instr.makeMap t (some cn)) p.1 p.2 := by
  unfold makeMapV at hp
  dsimp only at hp
  split at hp
  · rename_i kt et i hu hi
    cases hp
    rw [asI_eq hi] at hn
    cases hn
    refine ⟨.map #[] 0, .map (some w.heap.size), ?_, fun ρ' _ => ⟨#[], rfl, trivial⟩, fun ρ' b _ hb => by simp [conc, hb]⟩
    simp [Instr.makeMap, run_und hE hu, asInt, asIntOf]
  · cases hp

theorem makeMap_ok {t : TypeId} : Makes Y E ρ w (Instr.makeMap t none) (.map [] 0) .map := by
  refine ⟨.map #[] 0, .map (some w.heap.size), by simp [Instr.makeMap], fun ρ' _ => ⟨#[], rfl, trivial⟩, fun ρ' b _ hb => by simp [conc, hb]⟩

theorem makeSlice_ok (hE : EnvOk Y E) {t : TypeId} {l c : AV} {cl cc : Value} {o : AObj} {n m : Nat} (hl : conc Y ρ l = some cl) (hc : conc Y ρ c = some cc) (h : makeSliceA E t l c = some (o, n, m)) :
    Makes Y E ρ w (Instr.makeSlice t cl cc) o fun b => .slice b 0 n m := by
  unfold makeSliceA at h
  split at h
  · rename_i elem l' c' hu
    split at h
    · rename_i i z hi hz
      split at h
      · rename_i g1 g2 g3 g4
        cases h
        have g1' : n ≤ m := Nat.le_of_ble_eq_true g1
        have g2' : i.bytes * m ≤ 281474976710656 := Nat.le_of_ble_eq_true g2
        have g3' : m ≤ 16777216 := Nat.le_of_ble_eq_true g3
        have g4' := Nat.eq_of_beq_eq_true g4
        have e1 : conc Y ρ (.i64 (.ofNat n)) = some (.int .i64 (n : Int)) := rfl
        have e2 : conc Y ρ (.i64 (.ofNat m)) = some (.int .i64 (m : Int)) := rfl
        rw [e1] at hl
        rw [e2] at hc
        cases hl
        cases hc
        obtain ⟨cz, cs, k1, k2, k3, k4⟩ := run_zeros (Y := Y) (ρ := ρ) (w := w) hE hz
        have hcl := concs_length k2
        refine ⟨.cells (repeatC cs m).toArray elem, .slice (some ⟨w.heap.size, 0, none⟩) n m, ?_, fun ρ' hle => newRow_orel (repeat_conc k2 m) (repeat_cell k4 m) _ _ _ hle, fun ρ' b _ hb => by simp [conc, hb, Loc.addr]⟩
        have w1 : IntKind.wrap .i64 (n : Int) = n := wrap64_in _ (by omega) (by omega)
        have w2 : IntKind.wrap .i64 (m : Int) = m := wrap64_in _ (by omega) (by omega)
        have hsz : E.size elem = some i.size := by
          unfold Env.size
          have : E.tt.get elem = some i := hi
          rw [this]
        have hb1 : ¬ ((i.bytes : Int) * (m : Int) > 2 ^ 48) := by
          have : ((i.bytes * m : Nat) : Int) ≤ ((281474976710656 : Nat) : Int) := Int.ofNat_le.2 g2'
          omega
        have hcond : ¬ ((decide ((m : Int) < 0) || decide ((i.bytes : Int) * (m : Int) > 2 ^ 48) || decide ((n : Int) < 0) || decide ((n : Int) > (m : Int))) = true) := by
          simp only [Bool.or_eq_true, decide_eq_true_eq]
          omega
        simp only [Instr.makeSlice, asInt, asIntOf, Sem.run_bind, Sem.run_pure, run_und hE hu, Result.andThen_ok, run_info hE hi, w1, w2, Sem.run_ite]
        rw [if_neg hcond]
        simp only [Result.andThen_ok, run_askRoom, Int.toNat_natCast, run_size hE hsz]
        by_cases h0 : m * i.size = 0
        · rw [if_pos h0]
          simp only [Result.andThen_ok, run_newRow']
          have : repeatC cs m = [] := by
            have := repeatC_length cs m
            rw [hcl, g4', h0] at this
            exact List.eq_nil_of_length_eq_zero this
          have hr0 : ∀ f : Nat → Value, Array.map f (Array.range 0) = #[] := fun f => by simp
          rw [this, h0, hr0]
        · rw [if_neg h0]
          simp only [k1, Result.andThen_ok, k3, run_newRow']
          have := range_zeros cs m
          rw [hcl, g4'] at this
          rw [this]
      · cases h
    · cases h
  · cases h

/-! ### Reading -/
theorem load_ok (hE : EnvOk Y E) (hr : Rel Y E ρ h w) {t : TypeId} {a v : AV} {ca : Value} (hl : loadP E t a h = some v) (ha : conc Y ρ a = some ca) : Yields Y E ρ w (Instr.loadAt t ca) v := by
  unfold loadP at hl
  cases hd : E.und t with
  | none => rw [hd] at hl; cases hl
  | some d =>
    rw [hd] at hl
    dsimp only at hl
    cases hag : isAggD d with
    | false =>
      rw [hag] at hl
      dsimp only at hl
      cases hp : asP a with
      | none => rw [hp] at hl; cases hl
      | some p =>
        rw [hp] at hl
        dsimp only at hl
        rw [asP_eq hp] at ha
        obtain ⟨L, hL, rfl⟩ := conc_ptr ha
        obtain ⟨L', cv, k1, k2, _, k4⟩ := loadCell_sound hr hl
        rw [hL] at k1
        cases k1
        refine ⟨cv, ?_, k2⟩
        simp [Instr.loadAt, Instr.sureAddr, loadVar, run_isAgg hE hd, hag, k4]
    | true =>
      rw [hag] at hl
      dsimp only at hl
      cases hs : E.size t with
      | none => rw [hs] at hl; cases hl
      | some n =>
        rw [hs] at hl
        dsimp only at hl
        cases hp : asP a with
        | none => rw [hp] at hl; cases hl
        | some p =>
          rw [hp] at hl
          dsimp only at hl
          cases hcs : loadCellsA h p.1 p.2 n with
          | none => rw [hcs] at hl; cases hl
          | some l =>
            rw [hcs] at hl
            cases hl
            rw [asP_eq hp] at ha
            obtain ⟨L, hL, rfl⟩ := conc_ptr ha
            obtain ⟨L', cs, k1, k2, k3, k4, k5⟩ := loadCells_sound hr hcs
            rw [hL] at k1
            cases k1
            have hlen := concs_length k2
            have hrun := run_loadCells_list (P := E.P) w (L.addr p.2) cs (fun j v hv => by rw [addr_add]; exact k5 j v hv)
            rw [hlen, k4] at hrun
            refine ⟨.agg cs.toArray, ?_, by simp [conc, k2, k3]⟩
            simp only [Instr.loadAt, Instr.sureAddr, loadVar, Sem.run_bind, Sem.run_pure, Result.andThen_ok, run_isAgg hE hd, hag, if_true, run_size hE hs, hrun]

theorem EntRel.length : ∀ {es : List AEnt} {l : List MapEntry}, EntRel Y ρ es l → l.length = es.length
  | [], [], _ => rfl
  | _ :: _, _ :: _, ⟨_, _, _, h4⟩ => by simp [h4.length]
  | [], _ :: _, h => h.elim
  | _ :: _, [], h => h.elim

theorem Rel.mapAt {b : Nat} {es : List AEnt} {clock : Nat} (hr : Rel Y E ρ h w) (hb : h.get b = some (.map es clock)) : ∃ L l, ρ b = some L ∧ w.heap[L.blk]? = some (.map l clock) ∧ EntRel Y ρ es l.toList := by
  obtain ⟨L, ob, h1, h2, l, rfl, h3⟩ := hr.obj b _ hb rfl
  exact ⟨L, l, h1, h2, h3⟩

theorem len_ok (hE : EnvOk Y E) (hr : Rel Y E ρ h w) {t : TypeId} {x v : AV} {cx : Value} (hl : lenA E h t x = some v) (hx : conc Y ρ x = some cx) (ts : Array TypeId) (args : Array Value) (ht : ts[0]? = some t) (ha : args[0]? = some cx) (ty : TypeId) :
    Yields Y E ρ w (Builtin.len_ ts ty args) v := by
  unfold lenA at hl
  split at hl
  · rename_i s hu
    simp only [forceN_eq] at hl
    cases hl
    obtain ⟨_, rfl⟩ := conc_str hx
    exact ⟨_, by simp [Builtin.len_, ht, ha, run_und hE hu, bytesV_size]; rfl, rfl⟩
  · rename_i i lo hi hu
    cases hl
    obtain ⟨rfl, a1, a2⟩ := conc_sstr hx
    refine ⟨.int .i64 ((Y.strs i).size : Int), by simp [Builtin.len_, ht, ha, run_und hE hu]; rfl, ?_⟩
    exact mkSym_ok hE (e := .len i) (by show (Int.ofNat lo) ≤ ((Y.strs i).size : Int); simp; omega) (by show ((Y.strs i).size : Int) ≤ Int.ofNat hi; simp; omega)
  · rename_i b o n c hu
    cases hl
    obtain ⟨L, _, rfl⟩ := conc_slice hx
    exact ⟨_, by simp [Builtin.len_, ht, ha, run_und hE hu]; rfl, rfl⟩
  · rename_i b o n c hu
    cases hl
    obtain ⟨L, _, rfl⟩ := conc_gslice hx
    exact ⟨_, by simp [Builtin.len_, ht, ha, run_und hE hu]; rfl, rfl⟩
  · rename_i hu
    cases hl
    cases hx
    exact ⟨_, by simp [Builtin.len_, ht, ha, run_und hE hu]; rfl, rfl⟩
  · rename_i b o l s p hu
    cases hl
    obtain ⟨_, _, rfl⟩ := conc_eslice hx
    exact ⟨_, by simp [Builtin.len_, ht, ha, run_und hE hu]; rfl, rfl⟩
  · rename_i i b o lo hi hu
    cases hl
    obtain ⟨rfl, a1, a2, _⟩ := conc_uslice hx
    refine ⟨.int .i64 ((Y.sls i).2.1 : Int), by simp [Builtin.len_, ht, ha, run_und hE hu]; rfl, ?_⟩
    exact mkSym_ok hE (e := .slen i) (by show (Int.ofNat lo) ≤ ((Y.sls i).2.1 : Int); simp; omega) (by show ((Y.sls i).2.1 : Int) ≤ Int.ofNat hi; simp; omega)
  · rename_i n el hu
    cases hl
    exact ⟨_, by simp [Builtin.len_, ht, ha, run_und hE hu]; rfl, rfl⟩
  · rename_i k el hu
    cases hl
    cases hx
    exact ⟨_, by simp [Builtin.len_, ht, ha, run_und hE hu]; rfl, rfl⟩
  · rename_i k el b hu
    split at hl
    · rename_i es clock hb
      simp only [forceN_eq] at hl
      cases hl
      obtain ⟨L, l, h1, h2, h3⟩ := hr.mapAt hb
      obtain ⟨L', hL', rfl⟩ := conc_map hx
      rw [h1] at hL'
      cases hL'
      have hln := h3.length
      refine ⟨_, ?_, rfl⟩
      have hg : (getObj L.blk).run E.P w = .ok (.map l clock) w := by simp [getObj, Sem.run, h2]
      simp [Builtin.len_, ht, ha, run_und hE hu, hg, ← hln]
      rfl
    · cases hl
  · cases hl

end
end Go.AE

namespace Go.AE

section
variable {Y : Sy} {E : Env} {ρ : Rho} {h : H} {w : World}

theorem bytesV_inj {a b : List Nat} (ha : okBytes a = true) (hb : okBytes b = true) (h : bytesV a = bytesV b) : eqStr a b = true := by
  rw [eqStr_bytes ha hb, h]
  simp

theorem beqBytes_iff (a b : ByteArray) : (a == b) = true ↔ a = b := by
  rw [beq_toListBytes, beq_iff_eq, ByteArray.toList_eq, ByteArray.toList_eq]
  constructor
  · intro h
    obtain ⟨a⟩ := a
    obtain ⟨b⟩ := b
    congr 1
    exact Array.ext' h
  · intro h; rw [h]

/-- two values of a basic type are told apart as the model's are -/
theorem eqKd_iff {k : Nat} {x y : AV} {cx cy : Value} {b : Bool} (h : eqKd k x y = some b) (hx : conc Y ρ x = some cx) (hy : conc Y ρ y = some cy) : (b = true ↔ cx = cy) ∧ Instr.sameBits 0 cx cx = true ∧ ∀ n, Instr.sameBits n cx cx = true := by
  have sb : ∀ c : Value, (∃ b, c = .bool b) ∨ (∃ k n, c = .int k n) ∨ (∃ s, c = .string s) → Instr.sameBits 0 c c = true ∧ ∀ n, Instr.sameBits n c c = true := by
    rintro c (⟨b, rfl⟩ | ⟨k, n, rfl⟩ | ⟨s, rfl⟩)
    · exact ⟨by simp [Instr.sameBits], fun n => by simp [Instr.sameBits]⟩
    · exact ⟨by simp [Instr.sameBits], fun n => by simp [Instr.sameBits]⟩
    · exact ⟨by simp [Instr.sameBits, (beqBytes_iff s s).2 rfl], fun n => by simp [Instr.sameBits, (beqBytes_iff s s).2 rfl]⟩
  unfold eqKd at h
  split at h
  · unfold eqBool at h
    split at h
    · cases h; cases hx; cases hy; exact ⟨by rw [eqB_eq]; simp, sb _ (.inl ⟨_, rfl⟩)⟩
    · cases h
  · unfold eqInt at h
    split at h
    · cases h; cases hx; cases hy; exact ⟨by rw [eqI_eq]; simp, sb _ (.inr (.inl ⟨_, _, rfl⟩))⟩
    · split at h
      · rename_i hkk
        have := eqKind_eq hkk
        subst this
        cases h; cases hx; cases hy; exact ⟨by rw [eqI_eq]; simp, sb _ (.inr (.inl ⟨_, _, rfl⟩))⟩
      · cases h
    · obtain ⟨k, m, n, rfl, rfl, rfl⟩ := eqSyms_ok h hx hy
      exact ⟨by simp, sb _ (.inr (.inl ⟨_, _, rfl⟩))⟩
  · obtain ⟨s, u, rfl, rfl, rfl⟩ := eqText_ok h hx hy
    refine ⟨?_, sb _ (.inr (.inr ⟨_, rfl⟩))⟩
    rw [beq_iff_eq, ByteArray.toList_eq, ByteArray.toList_eq]
    constructor
    · intro h
      obtain ⟨s⟩ := s
      obtain ⟨u⟩ := u
      congr 2
      exact Array.ext' h
    · intro h
      cases h
      rfl
  · cases h

theorem eqCells_iff : ∀ {ks : List Nat} {x y : List AV} {cx cy : List Value} {b : Bool}, eqCells ks x y = some b → concs Y ρ x = some cx → concs Y ρ y = some cy → (b = true ↔ cx = cy) := by
  intro ks
  induction ks with
  | nil =>
    intro x y cx cy b h hx hy
    cases x with
    | nil =>
      cases y with
      | nil => cases h; rw [concs_nil] at hx hy; subst hx; subst hy; simp
      | cons _ _ => simp [eqCells] at h
    | cons _ _ => simp [eqCells] at h
  | cons k ks ih =>
    intro x y cx cy b h hx hy
    cases x with
    | nil => simp [eqCells] at h
    | cons a x =>
      cases y with
      | nil => simp [eqCells] at h
      | cons c y =>
        obtain ⟨ca, cr, h1, h2, rfl⟩ := concs_cons.1 hx
        obtain ⟨cc, cs, h3, h4, rfl⟩ := concs_cons.1 hy
        simp only [eqCells] at h
        cases hk : eqKd k a c with
        | none => rw [hk] at h; cases h
        | some r =>
          rw [hk] at h
          have hi := (eqKd_iff hk h1 h3).1
          cases r with
          | false =>
            cases h
            constructor
            · intro h; cases h
            · intro h
              have : ca = cc := (List.cons.inj h).1
              have := hi.2 this
              cases this
          | true =>
            have e := hi.1 rfl
            have := ih h h2 h4
            rw [this, e]
            simp

theorem eqCells_same : ∀ {ks : List Nat} {x : List AV} {cx : List Value}, eqCells ks x x = some true → concs Y ρ x = some cx → ∀ n, ∀ c ∈ cx, Instr.sameBits n c c = true := by
  intro ks
  induction ks with
  | nil =>
    intro x cx h hx n c hc
    cases x with
    | nil => rw [concs_nil] at hx; subst hx; cases hc
    | cons _ _ => simp [eqCells] at h
  | cons k ks ih =>
    intro x cx h hx n c hc
    cases x with
    | nil => simp [eqCells] at h
    | cons a x =>
      obtain ⟨ca, cr, h1, h2, rfl⟩ := concs_cons.1 hx
      simp only [eqCells] at h
      cases hk : eqKd k a a with
      | none => rw [hk] at h; cases h
      | some r =>
        rw [hk] at h
        cases r with
        | false => cases h
        | true =>
          rcases List.mem_cons.1 hc with rfl | hc
          · exact (eqKd_iff hk h1 h1).2.2 n
          · exact ih h h2 n c hc

/-- what a way of telling keys apart is worth -/
structure KeyLaw (Y : Sy) (E : Env) (t : TypeId) (eq : AV → AV → Option Bool) : Prop where
  equal : ∀ {ρ : Rho} {w : World} {x y : AV} {cx cy : Value} {b : Bool}, eq x y = some b → conc Y ρ x = some cx → conc Y ρ y = some cy → (Op.equal t cx cy).run E.P w = .ok b w
  iff : ∀ {ρ : Rho} {x y : AV} {cx cy : Value} {b : Bool}, eq x y = some b → conc Y ρ x = some cx → conc Y ρ y = some cy → (b = true ↔ cx = cy)
  check : ∀ {ρ : Rho} {w : World} {x : AV} {cx : Value}, eq x x = some true → conc Y ρ x = some cx → ∀ em, (Instr.checkKey em 10000 t cx).run E.P w = .ok () w
  same : ∀ {ρ : Rho} {x : AV} {cx : Value}, eq x x = some true → conc Y ρ x = some cx → Instr.sameBits 10000 cx cx = true

theorem checkFields_flat {P : Program} {d n : Nat} (em : Bool)
    (ih : ∀ (t : TypeId) (ks : List Nat), flatAt P d t = some ks → ∀ (cs : List Value), cs.length = ks.length → ∀ w, (Instr.checkKey em n t (packV P t cs)).run P w = .ok () w)
    (cX : List Value) : ∀ (fs : List Field) (off : Nat) (l : List Nat) (w : World), flatFields P (flatAt P d) fs off = some l → off + l.length ≤ cX.length →
      (forIn fs PUnit.unit fun f (_ : PUnit) => do
        if f.name ≠ "_" then Instr.checkKey em n f.type (← part f.type cX.toArray f.offset)
        pure (ForInStep.yield PUnit.unit) : Sem PUnit).run P w = .ok PUnit.unit w := by
  intro fs
  induction fs with
  | nil => intro off l w _ _; simp
  | cons f r ihr =>
    intro off l w hf hle
    simp only [flatFields] at hf
    split at hf
    · cases hf
    · rename_i hnb
      simp only [not_or, Decidable.not_not] at hnb
      obtain ⟨hname, hoff⟩ := hnb
      split at hf
      · rename_i ks l' h1 h2
        split at hf
        · rename_i hcond
          obtain ⟨hcells, hinfo⟩ := hcond
          cases hf
          rw [List.length_append] at hle
          have hstr : ks = [] → ∃ fs, P.underlying f.type = some (.struct fs) := by
            intro hk
            subst hk
            cases d with
            | zero => cases h1
            | succ d =>
              simp only [flatAt] at h1
              split at h1 <;> first | (cases h1; done) | skip
              rename_i fs hu
              exact ⟨fs, hu⟩
          have p1 := part_pack (w := w) h1 hcells hinfo (cs := cX) (off := off) (by
            by_cases hk : ks = []
            · exact .inr (hstr hk)
            · have : 0 < ks.length := List.length_pos_iff.2 hk
              exact .inl (by omega))
          have h3 := ih f.type ks h1 ((cX.drop off).take ks.length) (by simp; omega) w
          have h4 := ihr (off + ks.length) l' w (by rw [← hcells]; exact h2) (by omega)
          simp only [List.forIn_cons, hname, ne_eq, not_false_eq_true, if_true, hoff, Sem.run_bind, p1, h3, Result.andThen_ok, Sem.run_pure]
          simpa using h4
        · cases hf
      · cases hf

theorem checkKey_flat {P : Program} (em : Bool) : ∀ (d n : Nat), d ≤ n → ∀ (t : TypeId) (ks : List Nat), flatAt P d t = some ks → ∀ (cs : List Value), cs.length = ks.length → ∀ w, (Instr.checkKey em n t (packV P t cs)).run P w = .ok () w := by
  intro d
  induction d with
  | zero => intro n _ t ks h; cases h
  | succ d ih =>
    intro n hn t ks hf cs hl w
    obtain ⟨n, rfl⟩ : ∃ m, n = m + 1 := ⟨n - 1, by omega⟩
    simp only [flatAt] at hf
    split at hf
    · rename_i hu; rw [Instr.checkKey]; simp only [Sem.run_bind, run_underlying hu, Result.andThen_ok]; rfl
    · rename_i k hu; rw [Instr.checkKey]; simp only [Sem.run_bind, run_underlying hu, Result.andThen_ok]; rfl
    · rename_i hu; rw [Instr.checkKey]; simp only [Sem.run_bind, run_underlying hu, Result.andThen_ok]; rfl
    · rename_i fs hu
      split at hf
      · cases hf
      · have e1 : packV P t cs = .agg cs.toArray := by unfold packV; rw [hu]
        rw [e1, Instr.checkKey]
        simp only [Sem.run_bind, run_underlying hu, Result.andThen_ok]
        have := checkFields_flat em (fun t ks h cs hl w => ih n (by omega) t ks h cs hl w) cs fs.toList 0 ks w hf (by omega)
        rw [← Array.forIn_toList]
        have e2 : (forIn fs.toList PUnit.unit fun f (_ : PUnit) => if f.name ≠ "_" then (do
              let x ← part f.type cs.toArray f.offset
              Instr.checkKey em n f.type x
              pure (ForInStep.yield PUnit.unit)) else pure (ForInStep.yield PUnit.unit) : Sem PUnit).run P w = .ok PUnit.unit w := by
          refine Eq.trans ?_ this
          congr 2
        rw [e2]
        rfl
    · cases hf

theorem keyLaw (hE : EnvOk Y E) {t : TypeId} {eq : AV → AV → Option Bool} (hk : keyEq E t = some eq) : KeyLaw Y E t eq := by
  unfold keyEq at hk
  split at hk
  · rename_i fs hd
    split at hk
    · rename_i ks hks
      cases hk
      obtain ⟨hfl, hgt⟩ := hE.eqs t ks hks
      have hu := und_ok hE hd
      have sp : ∀ {x y : AV} {b : Bool}, (match x, y with | .agg a, .agg b => eqCells ks a b | _, _ => none) = some b → ∃ a c, x = .agg a ∧ y = .agg c ∧ eqCells ks a c = some b := by
        intro x y b h
        split at h
        · exact ⟨_, _, rfl, rfl, h⟩
        · cases h
      refine ⟨fun {ρ w x y cx cy b} h hx hy => ?_, fun {ρ x y cx cy b} h hx hy => ?_, fun {ρ w x cx} h hx em => ?_, fun {ρ x cx} h hx => ?_⟩
      · obtain ⟨a, c, rfl, rfl, h0⟩ := sp h
        refine eqA_ok hE ?_ hx hy
        unfold eqA
        rw [hd]
        dsimp only
        rw [hks]
        show eqCellsO E ks a c = some b
        unfold eqCellsO
        rw [h0]
      · obtain ⟨a, c, rfl, rfl, h⟩ := sp h
        obtain ⟨ca, h1, rfl, _⟩ := conc_agg hx
        obtain ⟨cc, h2, rfl, _⟩ := conc_agg hy
        rw [eqCells_iff h h1 h2]
        simp
      · obtain ⟨a, c, rfl, e, h⟩ := sp h
        cases e
        obtain ⟨ca, h1, rfl, _⟩ := conc_agg hx
        have := checkKey_flat (P := E.P) em 20 10000 (by omega) t ks hfl ca (by rw [concs_length h1]; exact (eqCells_lengths h).1) w
        rw [flat_struct hu] at this
        exact this
      · obtain ⟨a, c, rfl, e, h⟩ := sp h
        cases e
        obtain ⟨ca, h1, rfl, _⟩ := conc_agg hx
        have h2 := eqCells_same h h1 9999
        show Instr.sameBits (9999 + 1) (.agg ca.toArray) (.agg ca.toArray) = true
        simp only [Instr.sameBits, beq_self_eq_true, Bool.true_and, List.all_eq_true]
        intro p hp
        obtain ⟨i, hi, e⟩ := List.getElem_of_mem hp
        rw [List.getElem_zip] at e
        rw [← e]
        exact h2 _ (List.getElem_mem _)
    · cases hk
  · rename_i d hns hd
    split at hk
    · rename_i k hkd
      cases hk
      have hu := und_ok hE hd
      have hdesc := kdOf_desc hkd
      refine ⟨fun {ρ w x y cx cy b} h hx hy => ?_, fun {ρ x y cx cy b} h hx hy => (eqKd_iff h hx hy).1, fun {ρ w x cx} h hx em => ?_, fun {ρ x cx} h hx => (eqKd_iff h hx hx).2.2 _⟩
      · unfold Op.equal
        obtain ⟨n, e0⟩ : ∃ n, Op.maxDepth = n + 1 := ⟨9999, rfl⟩
        rw [e0]
        exact eqKd_ok h hx hy hu hdesc n w
      · show (Instr.checkKey em (9999 + 1) t cx).run E.P w = .ok () w
        rw [Instr.checkKey]
        simp only [Sem.run_bind, run_underlying hu, Result.andThen_ok]
        unfold kdOf at hkd
        split at hkd <;> first | (cases hkd; done) | rfl
    · cases hk
  · cases hk

theorem sameNow_iff {d : TypeDesc} {a b : Value} {r : Bool} (h : Instr.sameNow d a b = some r) : r = true ↔ a = b := by
  unfold Instr.sameNow at h
  split at h
  · split at h
    · rename_i hk; subst hk; cases h; simp
    · cases h
  · cases h; rw [beqBytes_iff]; simp
  · cases h; simp
  · cases h

/-- where the entry lies -/
theorem findAsking_ok {t : TypeId} {eq : AV → AV → Option Bool} (hk : KeyLaw Y E t eq) {k : AV} {ck : Value} (hc : conc Y ρ k = some ck) : ∀ (es : List AEnt) (l : List MapEntry) (i : Nat) (r : Option AV), EntRel Y ρ es l → findEnt eq k es = some r →
    ∃ cr, (Instr.findAsking t ck l i).run E.P w = .ok cr w ∧ (match r with
      | none => cr = none
      | some v => ∃ j e cv, cr = some (i + j, cv) ∧ conc Y ρ v = some cv ∧ l[j]? = some e ∧ e.key = ck ∧ e.val = cv) := by
  intro es
  induction es with
  | nil =>
    intro l i r hr hf
    cases l with
    | nil => cases hf; exact ⟨none, rfl, rfl⟩
    | cons _ _ => exact hr.elim
  | cons a es ih =>
    intro l i r hr hf
    cases l with
    | nil => exact hr.elim
    | cons e l =>
      obtain ⟨h1, h2, h3, h4⟩ := hr
      simp only [findEnt] at hf
      cases hq : eq k a.key with
      | none => rw [hq] at hf; cases hf
      | some b =>
        rw [hq] at hf
        have hrun := hk.equal (w := w) hq hc h1
        have hif := hk.iff hq hc h1
        cases b with
        | true =>
          cases hf
          exact ⟨some (i, e.val), by simp [Instr.findAsking, hrun], 0, e, e.val, rfl, h2, rfl, (hif.1 rfl).symm, rfl⟩
        | false =>
          obtain ⟨cr, k1, k2⟩ := ih l (i + 1) r h4 hf
          refine ⟨cr, by simp [Instr.findAsking, hrun, k1], ?_⟩
          cases r with
          | none => exact k2
          | some v =>
            obtain ⟨j, e', cv, g1, g2, g3, g4, g5⟩ := k2
            exact ⟨j + 1, e', cv, by rw [g1]; congr 2; omega, g2, by simpa using g3, g4, g5⟩

theorem findNow_ok {t : TypeId} {d : TypeDesc} {eq : AV → AV → Option Bool} (hk : KeyLaw Y E t eq) {k : AV} {ck : Value} (hc : conc Y ρ k = some ck) : ∀ (es : List AEnt) (l : List MapEntry) (i : Nat) (r : Option AV) (q : Option (Nat × Value)), EntRel Y ρ es l → findEnt eq k es = some r →
    Instr.findNow d ck l i = some q → (match r with
      | none => q = none
      | some v => ∃ j e cv, q = some (i + j, cv) ∧ conc Y ρ v = some cv ∧ l[j]? = some e ∧ e.key = ck ∧ e.val = cv) := by
  intro es
  induction es with
  | nil =>
    intro l i r q hr hf hq
    cases l with
    | nil => cases hf; cases hq; rfl
    | cons _ _ => exact hr.elim
  | cons a es ih =>
    intro l i r q hr hf hn
    cases l with
    | nil => exact hr.elim
    | cons e l =>
      obtain ⟨h1, h2, h3, h4⟩ := hr
      simp only [findEnt] at hf
      simp only [Instr.findNow] at hn
      cases hq : eq k a.key with
      | none => rw [hq] at hf; cases hf
      | some b =>
        rw [hq] at hf
        have hif := hk.iff hq hc h1
        cases hs : Instr.sameNow d ck e.key with
        | none => rw [hs] at hn; cases hn
        | some b' =>
          have hif' := sameNow_iff hs
          have hbb : b' = b := by
            cases b <;> cases b' <;> simp_all
          subst hbb
          rw [hs] at hn
          cases b' with
          | true =>
            cases hf
            cases hn
            exact ⟨0, e, e.val, rfl, h2, rfl, (hif.1 rfl).symm, rfl⟩
          | false =>
            have k2 := ih l (i + 1) r q h4 hf hn
            cases r with
            | none => exact k2
            | some v =>
              obtain ⟨j, e', cv, g1, g2, g3, g4, g5⟩ := k2
              exact ⟨j + 1, e', cv, by rw [g1]; congr 2; omega, g2, by simpa using g3, g4, g5⟩

theorem findKey_ok {t : TypeId} {d : TypeDesc} (hu : (underlying t).run E.P w = .ok d w) {eq : AV → AV → Option Bool} (hk : KeyLaw Y E t eq) {k : AV} {ck : Value} (hc : conc Y ρ k = some ck) (es : List AEnt) (l : List MapEntry) (r : Option AV) (hr : EntRel Y ρ es l) (hf : findEnt eq k es = some r) :
    ∃ cr, (Instr.findKey t ck l).run E.P w = .ok cr w ∧ (match r with
      | none => cr = none
      | some v => ∃ j e cv, cr = some (j, cv) ∧ conc Y ρ v = some cv ∧ l[j]? = some e ∧ e.key = ck ∧ e.val = cv) := by
  simp only [Instr.findKey, Sem.run_bind, hu, Result.andThen_ok]
  cases hn : Instr.findNow d ck l 0 with
  | some q =>
    refine ⟨q, by simp, ?_⟩
    have := findNow_ok hk hc es l 0 r q hr hf hn
    cases r with
    | none => exact this
    | some v => simpa using this
  | none =>
    obtain ⟨cr, h1, h2⟩ := findAsking_ok (w := w) hk hc es l 0 r hr hf
    refine ⟨cr, h1, ?_⟩
    cases r with
    | none => exact h2
    | some v => simpa using h2

theorem keyEq_und {t : TypeId} {eq : AV → AV → Option Bool} (hk : keyEq E t = some eq) : ∃ d, E.und t = some d := by
  unfold keyEq at hk
  split at hk
  · rename_i fs hd; exact ⟨_, hd⟩
  · rename_i d _ hd; exact ⟨d, hd⟩
  · cases hk

theorem goodKey_eq {eq : AV → AV → Option Bool} {k : AV} (h : goodKey eq k = true) : eq k k = some true := by
  unfold goodKey at h
  split at h
  · assumption
  · cases h

theorem found_ok (hE : EnvOk Y E) {et : TypeId} {ok : Bool} {r : Option AV} {v : AV} (h : foundA E et ok r = some v) :
    match r with
    | some x => ∀ cx, conc Y ρ x = some cx → conc Y ρ v = some (if ok then .tuple #[cx, .bool true] else cx)
    | none => ∃ cz, (zeroValue et).run E.P w = .ok cz w ∧ conc Y ρ v = some (if ok then .tuple #[cz, .bool false] else cz) := by
  unfold foundA at h
  cases r with
  | some x =>
    intro cx hx
    dsimp only at h
    cases ok with
    | true => cases h; simp [conc, concs, hx]
    | false => cases h; simpa using hx
  | none =>
    dsimp only at h
    cases hz : E.zero et with
    | none => rw [hz] at h; cases h
    | some z =>
      rw [hz] at h
      obtain ⟨cz, k1, k2⟩ := run_zero (Y := Y) (ρ := ρ) (w := w) hE hz
      refine ⟨cz, k1, ?_⟩
      cases ok with
      | true => cases h; simp [conc, concs, k2]
      | false => cases h; simpa using k2

theorem lookupK_ok (hE : EnvOk Y E) (hr : Rel Y E ρ h w) {t : TypeId} {m k v : AV} {cm ck : Value} {ok : Bool} (hl : lookupK E h t m k ok = some v) (hm : conc Y ρ m = some cm) (hc : conc Y ρ k = some ck) : Yields Y E ρ w (Instr.lookup t cm ck ok) v := by
  unfold lookupK at hl
  split at hl
  · rename_i kt et hu
    split at hl
    · cases hl
    · rename_i eq hk
      split at hl
      · cases hl
      · rename_i hg
        have hlaw := keyLaw (Y := Y) hE hk
        have hgood := goodKey_eq hg
        obtain ⟨d, hd⟩ := keyEq_und hk
        split at hl
        · cases hm
          obtain ⟨cz, k1, k2⟩ := found_ok (Y := Y) (ρ := ρ) (w := w) hE hl
          obtain ⟨cr, f1, f2⟩ := findKey_ok (run_und (w := w) hE hd) hlaw hc [] [] none trivial rfl
          cases f2
          refine ⟨_, ?_, k2⟩
          simp only [Instr.lookup, Sem.run_bind, run_und hE hu, Result.andThen_ok, Sem.run_pure, hlaw.check hgood hc, f1, k1]
        · rename_i b
          split at hl
          · rename_i es clock hb
            split at hl
            · rename_i r hf
              obtain ⟨L, l, h1, h2, h3⟩ := hr.mapAt hb
              obtain ⟨L', hL', rfl⟩ := conc_map hm
              rw [h1] at hL'
              cases hL'
              have hgo : (getObj L.blk).run E.P w = .ok (.map l clock) w := by simp [getObj, Sem.run, h2]
              obtain ⟨cr, f1, f2⟩ := findKey_ok (run_und (w := w) hE hd) hlaw hc es l.toList r h3 hf
              cases r with
              | none =>
                cases f2
                obtain ⟨cz, k1, k2⟩ := found_ok (Y := Y) (ρ := ρ) (w := w) hE hl
                refine ⟨_, ?_, k2⟩
                simp only [Instr.lookup, Sem.run_bind, run_und hE hu, hgo, Result.andThen_ok, Sem.run_pure, hlaw.check hgood hc, f1, k1]
              | some x =>
                obtain ⟨j, e, cv, rfl, g2, g3, g4, g5⟩ := f2
                have k2 := found_ok (Y := Y) (ρ := ρ) (w := w) hE hl cv g2
                refine ⟨_, ?_, k2⟩
                simp only [Instr.lookup, Sem.run_bind, run_und hE hu, hgo, Result.andThen_ok, Sem.run_pure, hlaw.check hgood hc, f1]
            · cases hl
          · cases hl
        · cases hl
  · cases hl

theorem findEnt_int {n : Int} : ∀ {es : List AEnt} {ks vs : List Int}, intEnts es = some (ks, vs) → findEnt (eqKd 1) (.i64 n) es = some (if inV n ks = true then some (.i64 (lookV n ks vs)) else none)
  | [], ks, vs, h => by
    cases h
    rfl
  | e :: r, ks, vs, h => by
    simp only [intEnts] at h
    split at h
    · rename_i k v ks' vs' h1 h2 h3
      cases h
      have e1 : eqKd 1 (.i64 n) e.key = some (eqI n k) := by rw [h1]; rfl
      simp only [findEnt, e1, eqI_eq]
      by_cases hn : n = k
      · subst hn
        simp [inV, lookV, h2]
      · have : (n == k) = false := by simp [hn]
        simp only [this, inV, lookV, if_neg hn]
        exact findEnt_int h3
    · cases h

theorem zeroI_eq {z : Option AV} (h : zeroI z = true) : z = some (.i64 0) := by
  unfold zeroI at h
  split at h
  · rw [eqI_eq] at h
    rw [of_decide_eq_true h]
  · cases h

theorem lookupS_ok (hE : EnvOk Y E) (hr : Rel Y E ρ h w) {t : TypeId} {m k v : AV} {cm ck : Value} {ok : Bool} (hl : lookupS E h t m k ok = some v) (hm : conc Y ρ m = some cm) (hc : conc Y ρ k = some ck) : Yields Y E ρ w (Instr.lookup t cm ck ok) v := by
  unfold lookupS at hl
  split at hl
  · rename_i e lo hi b
    split at hl
    · rename_i kt et hu
      split at hl
      · rename_i es clock hkt hz hb
        split at hl
        · rename_i ks vs hi
          cases hl
          simp only [conc] at hc
          split at hc
          · cases hc
            have key : lookupK E h t (.map b) (.i64 (e.val Y)) true = some (.tuple [.i64 (lookV (e.val Y) ks vs), .bool (inV (e.val Y) ks)]) := by
              have e1 : keyEq E kt = some (eqKd 1) := by unfold keyEq; rw [hkt]; rfl
              have e2 : goodKey (eqKd 1) (.i64 (e.val Y)) = true := by
                have : eqKd 1 (.i64 (e.val Y)) (.i64 (e.val Y)) = some (eqI (e.val Y) (e.val Y)) := rfl
                unfold goodKey
                rw [this, eqI_eq]
                simp
              unfold lookupK
              rw [hu]
              simp only [e1, e2, hb, findEnt_int hi]
              cases hin : inV (e.val Y) ks with
              | true => rfl
              | false =>
                have ez := zeroI_eq hz
                have el : ∀ (l m : List Int), inV (e.val Y) l = false → lookV (e.val Y) l m = 0 := by
                  intro l
                  induction l with
                  | nil => intro m _; cases m <;> rfl
                  | cons a l ih =>
                    intro m h
                    simp only [inV] at h
                    split at h
                    · cases h
                    · rename_i hne
                      cases m with
                      | nil => rfl
                      | cons x m => simp only [lookV, if_neg hne]; exact ih m h
                simp only [foundA, ez, Bool.false_eq_true, if_false, el ks vs hin]
            obtain ⟨cv, k1, k2⟩ := lookupK_ok (w := w) hE hr key hm (show conc Y ρ (.i64 (e.val Y)) = some (.int .i64 (e.val Y)) from rfl)
            refine ⟨cv, k1, ?_⟩
            cases k2
            rfl
          · cases hc
        · cases hl
      · cases hl
    · cases hl
  · cases hl

theorem lookup_ok (hE : EnvOk Y E) (hr : Rel Y E ρ h w) {t : TypeId} {m k v : AV} {cm ck : Value} {ok : Bool} (hl : lookupA E h t m k ok = some v) (hm : conc Y ρ m = some cm) (hc : conc Y ρ k = some ck) : Yields Y E ρ w (Instr.lookup t cm ck ok) v := by
  unfold lookupA at hl
  split at hl
  · rename_i u hu
    cases hl
    exact lookupK_ok hE hr hu hm hc
  · exact lookupS_ok hE hr hl hm hc

end
end Go.AE

namespace Go.AE

section
variable {Y : Sy} {E : Env} {ρ : Rho} {h : H} {w : World}

/-- a value, and a step of the heap -/
def Acts (Y : Sy) (E : Env) (ρ : Rho) (h : H) (w : World) (s : Sem Value) (v : AV) (h' : H) : Prop :=
  ∃ cv w' ρ', s.run E.P w = .ok cv w' ∧ Goes Y E ρ h w ρ' h' w' ∧ conc Y ρ' v = some cv

theorem store_ok (hE : EnvOk Y E) (hr : Rel Y E ρ h w) {t : TypeId} {a v : AV} {ca cv : Value} {h' : H} (hs : storeP E t a v h = some h') (ha : conc Y ρ a = some ca) (hv : conc Y ρ v = some cv) :
    ∃ w', (Instr.storeAt t ca cv).run E.P w = .ok () w' ∧ Goes Y E ρ h w ρ h' w' := by
  unfold storeP at hs
  cases hn : E.size t with
  | none => rw [hn] at hs; cases hs
  | some n =>
    rw [hn] at hs
    dsimp only at hs
    cases hp : asP a with
    | none => rw [hp] at hs; cases hs
    | some p =>
      rw [hp] at hs
      dsimp only at hs
      cases hc : cellsOf v with
      | none => rw [hc] at hs; cases hs
      | some vs =>
        rw [hc] at hs
        dsimp only at hs
        cases hl : Nat.beq vs.length n with
        | false => rw [hl] at hs; cases hs
        | true =>
          rw [hl] at hs
          dsimp only at hs
          have hl' := Nat.eq_of_beq_eq_true hl
          rw [asP_eq hp] at ha
          obtain ⟨L, hL, rfl⟩ := conc_ptr ha
          obtain ⟨cs, k1, k2, k3⟩ := cellsOf_conc hc hv
          obtain ⟨L', w', e1, e2, e3, _⟩ := storeCells_sound (P := E.P) hr hs k1 k3
          rw [hL] at e1
          cases e1
          refine ⟨w', ?_, e3⟩
          have hsz : ¬ (cv.cells.size ≠ n) := by rw [k2]; simp [concs_length k1, hl']
          simp only [Instr.storeAt, Instr.sureAddr, storeVar, Sem.run_bind, Sem.run_pure, Result.andThen_ok, run_size hE hn, Sem.run_ite, hsz, if_false]
          rw [k2]
          exact e2

/-! ### Blocks that are no rows -/
theorem run_getObj' {P : Program} {r : Nat} {o : Obj} (h : w.heap[r]? = some o) (hn : ∀ c e f, o ≠ .cells c e f) : (getObj r).run P w = .ok o w := by
  cases o <;> first | exact absurd rfl (hn _ _ _) | simp [getObj, Sem.run, h]

def putW (w : World) (r : Nat) (o : Obj) : World := { w with heap := w.heap.setIfInBounds r o }

theorem run_setObj' {P : Program} {r : Nat} {o o' : Obj} (h : w.heap[r]? = some o) (hn : ∀ c e f, o ≠ .cells c e f) : (setObj r o').run P w = .ok () (putW w r o') := by
  cases o <;> first | exact absurd rfl (hn _ _ _) | simp [setObj, Sem.run, h, putW]

/-- a block that is no row is set -/
theorem Goes.put {b : Nat} {o o₀ : AObj} {L : Loc} {ob : Obj} {h' : H} (hr : Rel Y E ρ h w) (hb : h.get b = some o₀) (ha₀ : o₀.alive = true) (hL : ρ b = some L) (hu : h.upd b o = some h') (ho : ORel Y E ρ L o ob) :
    Goes Y E ρ h w ρ h' (putW w L.blk ob) := by
  have hlt := hr.bound b L hL
  exact Goes.upd hr hb ha₀ hL hu rfl rfl rfl (by simp [putW]) (by simp [putW, hlt]) (fun c hc => by simp [putW, Ne.symm hc]) ho

theorem EntRel.append : ∀ {es : List AEnt} {l : List MapEntry} {es' : List AEnt} {l' : List MapEntry}, EntRel Y ρ es l → EntRel Y ρ es' l' → EntRel Y ρ (es ++ es') (l ++ l')
  | [], [], _, _, _, h' => h'
  | _ :: _, _ :: _, _, _, ⟨h1, h2, h3, h4⟩, h' => ⟨h1, h2, h3, h4.append h'⟩
  | [], _ :: _, _, _, h, _ => h.elim
  | _ :: _, [], _, _, h, _ => h.elim

/-- the first entry with this key -/
def firstAt (ck : Value) (l : List MapEntry) (j : Nat) : Prop := ∃ e, l[j]? = some e ∧ e.key = ck ∧ ∀ i e', i < j → l[i]? = some e' → e'.key ≠ ck

theorem findAsking_first {t : TypeId} {eq : AV → AV → Option Bool} (hk : KeyLaw Y E t eq) {k : AV} {ck : Value} (hc : conc Y ρ k = some ck) : ∀ (es : List AEnt) (l : List MapEntry) (i : Nat) (v : AV), EntRel Y ρ es l → findEnt eq k es = some (some v) →
    ∃ j cv, (Instr.findAsking t ck l i).run E.P w = .ok (some (i + j, cv)) w ∧ firstAt ck l j := by
  intro es
  induction es with
  | nil => intro l i v hr hf; cases hf
  | cons a es ih =>
    intro l i v hr hf
    cases l with
    | nil => exact hr.elim
    | cons e l =>
      obtain ⟨h1, h2, h3, h4⟩ := hr
      simp only [findEnt] at hf
      cases hq : eq k a.key with
      | none => rw [hq] at hf; cases hf
      | some b =>
        rw [hq] at hf
        have hrun := hk.equal (w := w) hq hc h1
        have hif := hk.iff hq hc h1
        cases b with
        | true => exact ⟨0, e.val, by simp [Instr.findAsking, hrun], e, rfl, (hif.1 rfl).symm, fun i e' hi => absurd hi (Nat.not_lt_zero _)⟩
        | false =>
          obtain ⟨j, cv, k1, e', k2, k3, k4⟩ := ih l (i + 1) v h4 hf
          refine ⟨j + 1, cv, by simp [Instr.findAsking, hrun, k1]; omega, e', by simpa using k2, k3, fun m e'' hm he => ?_⟩
          cases m with
          | zero =>
            simp at he
            subst he
            intro he
            have := hif.2 he.symm
            cases this
          | succ m => exact k4 m e'' (by omega) (by simpa using he)

theorem findNow_first {d : TypeDesc} {ck : Value} : ∀ (l : List MapEntry) (i : Nat) (q : Nat × Value), Instr.findNow d ck l i = some (some q) → ∃ j, q.1 = i + j ∧ firstAt ck l j := by
  intro l
  induction l with
  | nil => intro i q h; cases h
  | cons e l ih =>
    intro i q h
    simp only [Instr.findNow] at h
    cases hs : Instr.sameNow d ck e.key with
    | none => rw [hs] at h; cases h
    | some b =>
      have hif := sameNow_iff hs
      rw [hs] at h
      cases b with
      | true => cases h; exact ⟨0, rfl, e, rfl, (hif.1 rfl).symm, fun i e' hi => absurd hi (Nat.not_lt_zero _)⟩
      | false =>
        obtain ⟨j, k1, e', k2, k3, k4⟩ := ih (i + 1) q h
        refine ⟨j + 1, by omega, e', by simpa using k2, k3, fun m e'' hm he => ?_⟩
        cases m with
        | zero =>
          simp at he
          subst he
          intro he
          have := hif.2 he.symm
          cases this
        | succ m => exact k4 m e'' (by omega) (by simpa using he)

theorem findKey_first {t : TypeId} {d : TypeDesc} (hu : (underlying t).run E.P w = .ok d w) {eq : AV → AV → Option Bool} (hk : KeyLaw Y E t eq) {k v : AV} {ck : Value} (hc : conc Y ρ k = some ck) (es : List AEnt) (l : List MapEntry) (hr : EntRel Y ρ es l) (hf : findEnt eq k es = some (some v)) :
    ∃ j cv, (Instr.findKey t ck l).run E.P w = .ok (some (j, cv)) w ∧ firstAt ck l j := by
  simp only [Instr.findKey, Sem.run_bind, hu, Result.andThen_ok]
  cases hn : Instr.findNow d ck l 0 with
  | some q =>
    have h1 := findNow_ok hk hc es l 0 (some v) q hr hf hn
    obtain ⟨j, e, cv, rfl, _⟩ := h1
    obtain ⟨j', h2, h3⟩ := findNow_first l 0 _ hn
    simp only [Nat.zero_add] at h2
    subst h2
    exact ⟨j, cv, by simp, h3⟩
  | none =>
    obtain ⟨j, cv, h1, h2⟩ := findAsking_first (w := w) hk hc es l 0 v hr hf
    exact ⟨j, cv, by simpa using h1, h2⟩

theorem setEnt_rel {t : TypeId} {eq : AV → AV → Option Bool} (hk : KeyLaw Y E t eq) {k v : AV} {ck cv : Value} (hc : conc Y ρ k = some ck) (hv : conc Y ρ v = some cv) : ∀ (es es' : List AEnt) (l : List MapEntry) (j : Nat), EntRel Y ρ es l → setEnt eq k v es = some es' → (∃ x, findEnt eq k es = some x) → firstAt ck l j →
    EntRel Y ρ es' (l.modify j fun e => { e with key := ck, val := cv }) := by
  intro es
  induction es with
  | nil => intro es' l j hr hs; cases hs
  | cons a es ih =>
    intro es' l j hr hs hf hj
    cases l with
    | nil => exact hr.elim
    | cons e l =>
      obtain ⟨h1, h2, h3, h4⟩ := hr
      obtain ⟨x, hf⟩ := hf
      simp only [setEnt] at hs
      simp only [findEnt] at hf
      cases hq : eq k a.key with
      | none => rw [hq] at hf; cases hf
      | some b =>
        rw [hq] at hf hs
        have hif := hk.iff hq hc h1
        obtain ⟨e₁, k1, k2, k3⟩ := hj
        cases b with
        | true =>
          cases hs
          have hj0 : j = 0 := by
            cases j with
            | zero => rfl
            | succ j => exact absurd (hif.1 rfl).symm (k3 0 e (by omega) rfl)
          subst hj0
          exact ⟨hc, hv, h3, h4⟩
        | false =>
          dsimp only at hs
          cases hs' : setEnt eq k v es with
          | none => rw [hs'] at hs; cases hs
          | some es₁ =>
            rw [hs'] at hs
            cases hs
            cases j with
            | zero =>
              simp at k1
              subst k1
              have := hif.2 k2.symm
              cases this
            | succ j =>
              exact ⟨h1, h2, h3, ih es₁ l j h4 hs' ⟨x, hf⟩ ⟨e₁, by simpa using k1, k2, fun i e' hi he => k3 (i + 1) e' (by omega) (by simpa using he)⟩⟩

theorem mapUpdate_ok (hE : EnvOk Y E) (hr : Rel Y E ρ h w) {t : TypeId} {m k v : AV} {cm ck cv : Value} {h' : H} (hl : mapUpdateA E h t m k v = some h') (hm : conc Y ρ m = some cm) (hc : conc Y ρ k = some ck) (hv : conc Y ρ v = some cv) :
    ∃ w', (Instr.mapUpdate t cm ck cv).run E.P w = .ok () w' ∧ Goes Y E ρ h w ρ h' w' := by
  unfold mapUpdateA at hl
  split at hl
  · rename_i kt et b hu
    split at hl
    · cases hl
    · rename_i eq hk
      split at hl
      · cases hl
      · rename_i hg
        have hlaw := keyLaw (Y := Y) hE hk
        have hgood := goodKey_eq hg
        obtain ⟨d, hd⟩ := keyEq_und hk
        split at hl
        · rename_i es clock hb
          obtain ⟨L, l, h1, h2, h3⟩ := hr.mapAt hb
          obtain ⟨L', hL', rfl⟩ := conc_map hm
          rw [h1] at hL'
          cases hL'
          have hgo : (getObj L.blk).run E.P w = .ok (.map l clock) w := run_getObj' h2 (fun _ _ _ h => by cases h)
          have hst : ∀ o', (setObj L.blk o').run E.P w = .ok () (putW w L.blk o') := fun o' => run_setObj' h2 (fun _ _ _ h => by cases h)
          split at hl
          · rename_i x hf
            split at hl
            · rename_i es' hes
              obtain ⟨j, cx, f1, f2⟩ := findKey_first (run_und (w := w) hE hd) hlaw hc es l.toList h3 hf
              have hrel := setEnt_rel hlaw hc hv es es' l.toList j h3 hes ⟨_, hf⟩ f2
              obtain ⟨e, g1, g2, _⟩ := f2
              refine ⟨putW w L.blk (.map (l.modify j fun e => { e with key := ck, val := cv }) clock), ?_, Goes.put hr hb rfl h1 hl ⟨_, rfl, by rw [Array.toList_modify]; exact hrel⟩⟩
              have hkey : ((l[j]?).map (·.key)).getD ck = ck := by
                rw [Array.getElem?_toList] at g1
                rw [g1]
                exact g2
              have hks : (Instr.keyThatStays ck ck).run E.P w = .ok ck w := by
                simp [Instr.keyThatStays, hlaw.same hgood hc]
              simp only [Instr.mapUpdate, Sem.run_bind, run_und hE hu, hgo, Result.andThen_ok, hlaw.check hgood hc, f1, hkey, hks, hst]
            · cases hl
          · rename_i hf
            simp only [forceN_eq] at hl
            obtain ⟨cr, f1, f2⟩ := findKey_ok (run_und (w := w) hE hd) hlaw hc es l.toList none h3 hf
            cases f2
            refine ⟨putW w L.blk (.map (l.push { key := ck, val := cv, born := clock }) (clock + 1)), ?_, Goes.put hr hb rfl h1 hl ⟨_, rfl, by rw [Array.toList_push]; exact h3.append ⟨hc, hv, rfl, trivial⟩⟩⟩
            simp only [Instr.mapUpdate, Sem.run_bind, run_und hE hu, hgo, Result.andThen_ok, hlaw.check hgood hc, f1, hst]
          · cases hl
        · cases hl
  · cases hl

theorem delEnt_find {eq : AV → AV → Option Bool} {k : AV} : ∀ {es es' : List AEnt}, delEnt eq k es = some es' → (findEnt eq k es = some none ∧ es' = es) ∨ ∃ v, findEnt eq k es = some (some v)
  | [], es', h => by cases h; exact .inl ⟨rfl, rfl⟩
  | e :: r, es', h => by
    simp only [delEnt] at h
    simp only [findEnt]
    cases hq : eq k e.key with
    | none => rw [hq] at h; cases h
    | some b =>
      rw [hq] at h
      cases b with
      | true => exact .inr ⟨e.val, rfl⟩
      | false =>
        dsimp only at h ⊢
        cases hd : delEnt eq k r with
        | none => rw [hd] at h; cases h
        | some l =>
          rw [hd] at h
          cases h
          rcases delEnt_find hd with ⟨h1, rfl⟩ | h1
          · exact .inl ⟨h1, rfl⟩
          · exact .inr h1

theorem delEnt_rel {t : TypeId} {eq : AV → AV → Option Bool} (hk : KeyLaw Y E t eq) {k : AV} {ck : Value} (hc : conc Y ρ k = some ck) : ∀ (es es' : List AEnt) (l : List MapEntry) (j : Nat), EntRel Y ρ es l → delEnt eq k es = some es' → firstAt ck l j → EntRel Y ρ es' (l.eraseIdx j) := by
  intro es
  induction es with
  | nil =>
    intro es' l j hr hs hj
    cases l with
    | nil => obtain ⟨e, he, _⟩ := hj; simp at he
    | cons _ _ => exact hr.elim
  | cons a es ih =>
    intro es' l j hr hs hj
    cases l with
    | nil => exact hr.elim
    | cons e l =>
      obtain ⟨h1, h2, h3, h4⟩ := hr
      simp only [delEnt] at hs
      cases hq : eq k a.key with
      | none => rw [hq] at hs; cases hs
      | some b =>
        rw [hq] at hs
        have hif := hk.iff hq hc h1
        obtain ⟨e₁, k1, k2, k3⟩ := hj
        cases b with
        | true =>
          cases hs
          have hj0 : j = 0 := by
            cases j with
            | zero => rfl
            | succ j => exact absurd (hif.1 rfl).symm (k3 0 e (by omega) rfl)
          subst hj0
          exact h4
        | false =>
          dsimp only at hs
          cases hs' : delEnt eq k es with
          | none => rw [hs'] at hs; cases hs
          | some es₁ =>
            rw [hs'] at hs
            cases hs
            cases j with
            | zero =>
              simp at k1
              subst k1
              have := hif.2 k2.symm
              cases this
            | succ j =>
              exact ⟨h1, h2, h3, ih es₁ l j h4 hs' ⟨e₁, by simpa using k1, k2, fun i e' hi he => k3 (i + 1) e' (by omega) (by simpa using he)⟩⟩

theorem delete_ok (hE : EnvOk Y E) (hr : Rel Y E ρ h w) {t ty : TypeId} {ts : Array TypeId} (hts : ts[0]? = some t) {m k : AV} {cm ck : Value} {h' : H} (hl : deleteA E h t m k = some h') (hm : conc Y ρ m = some cm) (hc : conc Y ρ k = some ck) :
    ∃ w', (Builtin.delete_ ts ty #[cm, ck]).run E.P w = .ok (.tuple #[]) w' ∧ Goes Y E ρ h w ρ h' w' := by
  unfold deleteA at hl
  split at hl
  · rename_i kt et hu
    split at hl
    · cases hl
    · rename_i eq hk
      split at hl
      · cases hl
      · rename_i hg
        have hlaw := keyLaw (Y := Y) hE hk
        have hgood := goodKey_eq hg
        obtain ⟨d, hd⟩ := keyEq_und hk
        have e0 : (#[cm, ck] : Array Value)[0]? = some cm := rfl
        have e1 : (#[cm, ck] : Array Value)[1]? = some ck := rfl
        split at hl
        · cases hm
          cases hl
          refine ⟨w, ?_, Goes.refl hr⟩
          simp only [Builtin.delete_, hts, e0, e1, Sem.run_bind, run_und hE hu, Result.andThen_ok, hlaw.check hgood hc, Sem.run_pure]
        · rename_i b
          split at hl
          · rename_i es clock hb
            split at hl
            · rename_i es' hes
              obtain ⟨L, l, h1, h2, h3⟩ := hr.mapAt hb
              obtain ⟨L', hL', rfl⟩ := conc_map hm
              rw [h1] at hL'
              cases hL'
              have hgo : (getObj L.blk).run E.P w = .ok (.map l clock) w := run_getObj' h2 (fun _ _ _ h => by cases h)
              have hst : ∀ o', (setObj L.blk o').run E.P w = .ok () (putW w L.blk o') := fun o' => run_setObj' h2 (fun _ _ _ h => by cases h)
              rcases delEnt_find hes with ⟨hf, rfl⟩ | ⟨x, hf⟩
              · obtain ⟨cr, f1, f2⟩ := findKey_ok (run_und (w := w) hE hd) hlaw hc es' l.toList none h3 hf
                cases f2
                refine ⟨putW w L.blk (.map l clock), ?_, Goes.put hr hb rfl h1 hl ⟨_, rfl, h3⟩⟩
                simp only [Builtin.delete_, hts, e0, e1, Sem.run_bind, run_und hE hu, hgo, Result.andThen_ok, hlaw.check hgood hc, f1, hst, Sem.run_pure]
              · obtain ⟨j, cx, f1, f2⟩ := findKey_first (run_und (w := w) hE hd) hlaw hc es l.toList h3 hf
                have hrel := delEnt_rel hlaw hc es es' l.toList j h3 hes f2
                refine ⟨putW w L.blk (.map (l.eraseIdxIfInBounds j) clock), ?_, Goes.put hr hb rfl h1 hl ⟨_, rfl, by rw [Array.toList_eraseIdxIfInBounds]; exact hrel⟩⟩
                simp only [Builtin.delete_, hts, e0, e1, Sem.run_bind, run_und hE hu, hgo, Result.andThen_ok, hlaw.check hgood hc, f1, hst, Sem.run_pure]
            · cases hl
          · cases hl
        · cases hl
  · cases hl

theorem clear_ok (hE : EnvOk Y E) (hr : Rel Y E ρ h w) {t ty : TypeId} {ts : Array TypeId} (hts : ts[0]? = some t) {x : AV} {cx : Value} {h' : H} (hl : clearA E h t x = some h') (hx : conc Y ρ x = some cx) :
    ∃ w', (Builtin.clear_ ts ty #[cx]).run E.P w = .ok (.tuple #[]) w' ∧ Goes Y E ρ h w ρ h' w' := by
  have e0 : (#[cx] : Array Value)[0]? = some cx := rfl
  have clears : ∀ {elem : TypeId} {b o n c : Nat} {L : Loc}, E.und t = some (.slice elem) → ρ b = some L → clearS E h elem b o n = some h' → ∃ w', (Builtin.clear_ ts ty #[.slice (some (L.addr o)) n c]).run E.P w = .ok (.tuple #[]) w' ∧ Goes Y E ρ h w ρ h' w' := by
    intro elem b o n c L hu hL hl
    unfold clearS at hl
    split at hl
    · rename_i z hz h0
      cases hl
      have := Nat.eq_of_beq_eq_true h0
      subst this
      refine ⟨w, ?_, Goes.refl hr⟩
      simp only [Builtin.clear_, hts, List.getElem?_toArray, List.getElem?_cons_zero, Sem.run_bind, run_und hE hu, Result.andThen_ok, Sem.run_pure]
    · rename_i z hz h0
      obtain ⟨cz, cs, k1, k2, k3, k4⟩ := run_zeros (Y := Y) (ρ := ρ) (w := w) hE hz
      obtain ⟨L', w', e1, e2, e3, _⟩ := storeCells_sound (P := E.P) hr hl (repeat_conc k2 n) (repeat_cell k4 n)
      rw [hL] at e1
      cases e1
      refine ⟨w', ?_, e3⟩
      have hz2 : (Builtin.zeroCells cs.toArray n).toList = repeatC cs n := by
        have := range_zeros cs n
        unfold Builtin.zeroCells
        simp only [List.size_toArray] at this ⊢
        rw [this]
      have hn : n ≠ 0 := Nat.ne_of_beq_eq_false h0
      cases n with
      | zero => exact absurd rfl hn
      | succ n =>
        simp only [Builtin.clear_, hts, List.getElem?_toArray, List.getElem?_cons_zero, Sem.run_bind, run_und hE hu, Result.andThen_ok, k1, k3, hz2, e2, Sem.run_pure]
    · cases hl
  unfold clearA at hl
  split at hl
  · rename_i d hu
    cases hx
    cases hl
    refine ⟨w, ?_, Goes.refl hr⟩
    simp only [Builtin.clear_, hts, e0, Sem.run_bind, run_und hE hu, Result.andThen_ok, Sem.run_pure]
  · rename_i d hu
    cases hx
    cases hl
    refine ⟨w, ?_, Goes.refl hr⟩
    simp only [Builtin.clear_, hts, e0, Sem.run_bind, run_und hE hu, Result.andThen_ok, Sem.run_pure]
  · rename_i d b hu
    split at hl
    · rename_i es clock hb
      obtain ⟨L, l, h1, h2, h3⟩ := hr.mapAt hb
      obtain ⟨L', hL', rfl⟩ := conc_map hx
      rw [h1] at hL'
      cases hL'
      have hgo : (getObj L.blk).run E.P w = .ok (.map l clock) w := run_getObj' h2 (fun _ _ _ h => by cases h)
      have hst : ∀ o', (setObj L.blk o').run E.P w = .ok () (putW w L.blk o') := fun o' => run_setObj' h2 (fun _ _ _ h => by cases h)
      refine ⟨putW w L.blk (.map #[] clock), ?_, Goes.put hr hb rfl h1 hl ⟨_, rfl, trivial⟩⟩
      simp only [Builtin.clear_, hts, e0, Sem.run_bind, run_und hE hu, hgo, Result.andThen_ok, hst, Sem.run_pure]
    · cases hl
  · rename_i elem b o n p hu
    obtain ⟨L, hL, rfl⟩ := conc_gslice hx
    exact clears hu hL hl
  · rename_i elem b o n p hu
    obtain ⟨L, hL, rfl⟩ := conc_slice hx
    exact clears hu hL hl
  · cases hl

/-! ### Ranges -/
theorem Goes.new_ptr {o : AObj} {ob : Obj} {h' : H} {b : Nat} (hr : Rel Y E ρ h w) (hn : h.new o = (b, h')) (ho : ∀ ρ', ρ.le ρ' → ORel Y E ρ' ⟨w.heap.size, 0, 0⟩ o ob) :
    ∃ ρ', Goes Y E ρ h w ρ' h' (w.alloc ob) ∧ ρ' b = some ⟨w.heap.size, 0, 0⟩ := by
  have hle : ρ.le (ρ.set h.next ⟨w.heap.size, 0, 0⟩) := Rho.le_set (hr.fresh h.next (Nat.le_refl _)) _
  have := Goes.alloc (L := ⟨w.heap.size, 0, 0⟩) hr rfl (ho _ hle)
  have e := H.new_eq h o
  rw [hn] at e this
  cases e
  exact ⟨_, this, Rho.set_same _ _ _⟩

theorem range_ok (hE : EnvOk Y E) (hr : Rel Y E ρ h w) {t : TypeId} {x v : AV} {cx : Value} {h' : H} (hl : rangeA E h t x = some (v, h')) (hx : conc Y ρ x = some cx) : Acts Y E ρ h w (Instr.range t cx) v h' := by
  have fin : ∀ (it : AObj) (ob : Obj), (match h.new it with | (b, h') => some (AV.ptr b 0, h')) = some (v, h') → (∀ ρ', ρ.le ρ' → ORel Y E ρ' ⟨w.heap.size, 0, 0⟩ it ob) →
      ∃ ρ', Goes Y E ρ h w ρ' h' (w.alloc ob) ∧ conc Y ρ' v = some (.pointer (some ⟨w.heap.size, 0, none⟩)) := by
    intro it ob he ho
    cases hn : h.new it with
    | mk b h1 =>
      rw [hn] at he
      cases he
      obtain ⟨ρ', k1, k2⟩ := Goes.new_ptr hr hn ho
      exact ⟨ρ', k1, by simp [conc, k2, Loc.addr]⟩
  unfold rangeA at hl
  dsimp only at hl
  split at hl
  · rename_i s hu
    obtain ⟨hok, rfl⟩ := conc_str hx
    obtain ⟨ρ', k1, k2⟩ := fin _ (.stringIter (bytesV s) 0) hl (fun ρ' _ => ⟨rfl, hok, rfl⟩)
    exact ⟨_, _, ρ', by simp [Instr.range, run_und hE hu], k1, k2⟩
  · rename_i kt et hu
    cases hx
    obtain ⟨ρ', k1, k2⟩ := fin _ (.mapIter none 0 #[] 0) hl (fun ρ' _ => ⟨rfl, none, rfl, rfl⟩)
    exact ⟨_, _, ρ', by simp [Instr.range, run_und hE hu], k1, k2⟩
  · rename_i kt et b hu
    split at hl
    · rename_i es clock hb
      obtain ⟨L, l, h1, h2, h3⟩ := hr.mapAt hb
      obtain ⟨L', hL', rfl⟩ := conc_map hx
      rw [h1] at hL'
      cases hL'
      have hgo : (getObj L.blk).run E.P w = .ok (.map l clock) w := run_getObj' h2 (fun _ _ _ h => by cases h)
      obtain ⟨ρ', k1, k2⟩ := fin _ (.mapIter (some L.blk) clock #[] clock) hl (fun ρ' hle => ⟨rfl, some L.blk, rfl, L, hle _ _ h1, rfl⟩)
      exact ⟨_, _, ρ', by simp [Instr.range, run_und hE hu, hgo], k1, k2⟩
    · cases hl
  · cases hl

end
end Go.AE

namespace Go.AE

section
variable {Y : Sy} {E : Env} {ρ : Rho} {h : H} {w : World}

/-- what is appended -/
def Src2 (P : Program) (size : Nat) (elem tx : TypeId) (x : Value) (n : Nat) (news : List Value) (w : World) : Prop :=
  (((∃ e', P.underlying tx = some (.slice e')) ∨ P.underlying tx = some .string) ∧ ∀ w' : World, w'.heap = w.heap → (Builtin.lenOf x).run P w' = .ok n w' ∧ (Builtin.firstCells size n x).run P w' = .ok news.toArray w') ∨
  (∃ k z i, P.underlying tx = some (.int k) ∧ x = .int .i64 (n : Int) ∧ n ≤ 16777216 ∧ P.info? elem = some i ∧ n * i.bytes ≤ 281474976710656 ∧ i.zero = some z ∧ (n * size = 0 → news = []) ∧ (n * size ≠ 0 → Builtin.zeroCells z.cells n = news.toArray))

theorem run_append_room2 {P : Program} {t tx ty elem : TypeId} {i : TypeInfo} (ht : P.underlying t = some (.slice elem)) (hi : P.info? elem = some i) {base : Option Addr} {sLen sCap n : Nat} {x : Value} {news : List Value} (hs : Src2 P i.size elem tx x n news w)
    (hroom : sLen + n ≤ sCap) : (Builtin.append_ #[t, tx] ty #[.slice base sLen sCap, x]).run P w =
      (match base with
       | some a => (storeCells (a.add (sLen * i.size)) news).run P w
       | none => .ok () w).andThen fun _ w' => .ok (.slice base (sLen + n) sCap) w' := by
  rcases hs with ⟨hk, hs⟩ | ⟨k, z, i', hk, rfl, hn, hi', hb, hz, h0, h1⟩
  · obtain ⟨l1, l2⟩ := hs w rfl
    rcases hk with ⟨e', hk⟩ | hk
    · simp [Builtin.append_, run_underlying ht, run_underlying hk, sizeOf, typeInfo, hi, l1, hroom, l2]
      cases base <;> simp
    · simp [Builtin.append_, run_underlying ht, run_underlying hk, sizeOf, typeInfo, hi, l1, hroom, l2]
      cases base <;> simp
  · rw [hi] at hi'
    cases hi'
    have w1 : IntKind.wrap .i64 (n : Int) = n := wrap64_in _ (by omega) (by omega)
    have hb' : ¬ (281474976710656 < (n : Int) * (i.bytes : Int)) := by
      have : ((n * i.bytes : Nat) : Int) ≤ ((281474976710656 : Nat) : Int) := Int.ofNat_le.2 hb
      omega
    have hneg : ¬ ((n : Int) < 0) := by omega
    by_cases hz0 : n * i.size = 0
    · rw [h0 hz0]
      simp [Builtin.append_, run_underlying ht, run_underlying hk, sizeOf, typeInfo, hi, asInt, asIntOf, w1, hneg, hb', hroom, hz0]
      cases base <;> simp
    · simp [Builtin.append_, run_underlying ht, run_underlying hk, sizeOf, typeInfo, hi, asInt, asIntOf, w1, hneg, hb', hroom, hz0, zeroValue, hz, h1 hz0]
      cases base <;> simp

theorem run_append_grow2 {P : Program} {t tx ty elem : TypeId} {i : TypeInfo} {z : Value} (ht : P.underlying t = some (.slice elem)) (hi : P.info? elem = some i) (hz : i.zero = some z) {base : Option Addr} {sLen sCap n : Nat} {x : Value} {news olds : List Value} (hs : Src2 P i.size elem tx x n news w)
    (hold : (Builtin.firstCells i.size sLen (.slice base sLen sCap)).run P w.drew = .ok olds.toArray w.drew)
    (hg : sCap < sLen + n) (h63 : sLen + n ≤ 4611686018427387904) (hfit : Builtin.nextslicecap (sLen + n) sCap * i.bytes ≤ 281474976710656) :
    (Builtin.append_ #[t, tx] ty #[.slice base sLen sCap, x]).run P w =
      .ok (.slice (some ⟨w.heap.size, 0, none⟩) (sLen + n) (grownCap w (sLen + n) sCap elem))
        (w.drew.alloc (.cells ((olds ++ news).toArray ++ Builtin.zeroCells z.cells (grownCap w (sLen + n) sCap elem - (sLen + n))) elem)) := by
  have hn : ¬ (sLen + n ≤ sCap) := by omega
  have h63' : ¬ (9223372036854775807 < ((sLen : Int) + (n : Int))) := by omega
  have h48' : ¬ (281474976710656 < Builtin.nextslicecap (sLen + n) sCap * i.bytes) := by omega
  rcases hs with ⟨hk, hs⟩ | ⟨k, z', i', hk, rfl, hn', hi', hb, hz', h0, h1⟩
  · obtain ⟨l1, l2⟩ := hs w rfl
    obtain ⟨l3, l4⟩ := hs w.drew rfl
    rcases hk with ⟨e', hk⟩ | hk
    · simp [Builtin.append_, run_underlying ht, run_underlying hk, sizeOf, typeInfo, zeroValue, hi, hz, l1, hn, h63', h48', Question.forced, l4, hold, newRow, grownCap]
      congr 2
      apply Array.ext'
      simp [List.append_assoc]
    · simp [Builtin.append_, run_underlying ht, run_underlying hk, sizeOf, typeInfo, zeroValue, hi, hz, l1, hn, h63', h48', Question.forced, l4, hold, newRow, grownCap]
      congr 2
      apply Array.ext'
      simp [List.append_assoc]
  · rw [hi] at hi'
    cases hi'
    rw [hz] at hz'
    cases hz'
    have w1 : IntKind.wrap .i64 (n : Int) = n := wrap64_in _ (by omega) (by omega)
    have hb' : ¬ (281474976710656 < (n : Int) * (i.bytes : Int)) := by
      have : ((n * i.bytes : Nat) : Int) ≤ ((281474976710656 : Nat) : Int) := Int.ofNat_le.2 hb
      omega
    have hneg : ¬ ((n : Int) < 0) := by omega
    by_cases hz0 : n * i.size = 0
    · have e0 := h0 hz0
      subst e0
      simp [Builtin.append_, run_underlying ht, run_underlying hk, sizeOf, typeInfo, zeroValue, hi, hz, asInt, asIntOf, w1, hneg, hb', hn, h63', h48', Question.forced, hold, newRow, grownCap, hz0]
    · simp [Builtin.append_, run_underlying ht, run_underlying hk, sizeOf, typeInfo, zeroValue, hi, hz, asInt, asIntOf, w1, hneg, hb', hn, h63', h48', Question.forced, hold, newRow, grownCap, hz0, h1 hz0]
      congr 2
      apply Array.ext'
      simp [List.append_assoc]

/-! ### How far a slice may grow -/
theorem growBy_le (need : Nat) : ∀ (r c : Nat), c ≤ 2 * need + 4096 → Builtin.growBy need r c ≤ 2 * need + 4096 ∨ Builtin.growBy need r c ≤ c := by
  intro r
  induction r with
  | zero => intro c _; exact .inr (Nat.le_refl _)
  | succ r ih =>
    intro c hc
    unfold Builtin.growBy
    split
    · exact .inr (Nat.le_refl _)
    · left
      rcases ih (c + (c + 768) / 4) (by omega) with h | h
      · exact h
      · omega

theorem nextcap_le (need cap : Nat) (h : cap < need) : Builtin.nextslicecap need cap ≤ need * 4 + 4096 := by
  unfold Builtin.nextslicecap
  split
  · omega
  · split
    · omega
    · rcases growBy_le need 4 cap (by omega) with h | h <;> omega

theorem grownCap_ge (w : World) (need old : Nat) (e : TypeId) : need ≤ grownCap w need old e := by
  unfold grownCap Question.cut
  exact Nat.le_add_right _ _

/-! ### Where the appended lies -/
theorem cell_heap {w' : World} (e : w'.heap = w.heap) (a : Addr) : w'.cell? a = w.cell? a := by
  simp [World.cell?, e]

theorem bytes_cells {s : List Nat} (hs : okBytes s = true) : ∃ cs, concs Y ρ (s.map fun b => AV.int .u8 (.ofNat b)) = some cs ∧ cs = byteCells (bytesV s) := by
  refine ⟨_, ?_, rfl⟩
  unfold byteCells
  rw [bytesV_toList]
  induction s with
  | nil => rfl
  | cons b r ih =>
    obtain ⟨h1, h2⟩ := (okBytes_cons b r).1 hs
    refine concs_cons.2 ⟨_, _, rfl, ih h2, ?_⟩
    simp only [List.map_cons, toNat_ofNat h1]
    rfl

theorem src_ok (hr : Rel Y E ρ h w) {size n : Nat} {x : AV} {cx : Value} {new : List AV} (hs : srcCells h size x = some (n, new)) (hx : conc Y ρ x = some cx) :
    ∃ news, (∀ w' : World, w'.heap = w.heap → (Builtin.lenOf cx).run E.P w' = .ok n w' ∧ (Builtin.firstCells size n cx).run E.P w' = .ok news.toArray w' ∧
        ∀ k, k ≤ n → (Builtin.firstCells size k cx).run E.P w' = .ok (news.take (k * size)).toArray w') ∧ concs Y ρ new = some news ∧ new.all isCell = true ∧ new.length = n * size := by
  have slc : ∀ (b o m : Nat) (L : Loc) (cap : Nat), (match loadCellsA h b o (Nat.mul m size) with | some l => some (m, l) | none => none) = some (n, new) → ρ b = some L → cx = .slice (some (L.addr o)) m cap →
      ∃ news, (∀ w' : World, w'.heap = w.heap → (Builtin.lenOf cx).run E.P w' = .ok n w' ∧ (Builtin.firstCells size n cx).run E.P w' = .ok news.toArray w' ∧
        ∀ k, k ≤ n → (Builtin.firstCells size k cx).run E.P w' = .ok (news.take (k * size)).toArray w') ∧ concs Y ρ new = some news ∧ new.all isCell = true ∧ new.length = n * size := by
    intro b o m L cap hs hL hcx
    cases hl : loadCellsA h b o (Nat.mul m size) with
    | none => rw [hl] at hs; cases hs
    | some l =>
      rw [hl] at hs
      cases hs
      obtain ⟨L', cs, k1, k2, k3, k4, k5⟩ := loadCells_sound hr hl
      rw [hL] at k1
      cases k1
      subst hcx
      have hlen := concs_length k2
      rw [k4] at hlen
      have hl1 : cs.length = n * size := hlen
      refine ⟨cs, fun w' e => ⟨rfl, ?_, fun k hk => ?_⟩, k2, k3, k4⟩
      · exact run_firstCells_some w' size n _ _ _ cs hl1 (fun j v hv => by rw [cell_heap e, addr_add]; exact k5 j v hv)
      · have : k * size ≤ n * size := Nat.mul_le_mul_right _ hk
        refine run_firstCells_some w' size k _ _ _ _ (by rw [List.length_take]; omega) (fun j v hv => ?_)
        rw [cell_heap e, addr_add]
        refine k5 j v ?_
        rw [List.getElem?_take] at hv
        split at hv
        · exact hv
        · cases hv
  unfold srcCells at hs
  split at hs
  · cases hs
    cases hx
    exact ⟨[], fun w' _ => ⟨rfl, rfl, fun k hk => by have : k = 0 := by omega
                                                     subst this; simp [Builtin.firstCells]⟩, rfl, rfl, by simp⟩
  · cases hs
    obtain ⟨a, c, rfl⟩ := conc_eslice hx
    have h0 : ∀ w' : World, (Builtin.firstCells size 0 (.slice (some a) 0 c)).run E.P w' = .ok (([] : List Value).toArray) w' := fun w' => run_firstCells_some (P := E.P) w' size 0 a 0 c [] (by simp) (fun j v hv => by simp at hv)
    exact ⟨[], fun w' _ => ⟨rfl, h0 w', fun k hk => by
      have : k = 0 := by omega
      subst this
      simpa using h0 w'⟩, rfl, rfl, by simp⟩
  · obtain ⟨L, hL, rfl⟩ := conc_slice hx
    exact slc _ _ _ L _ hs hL rfl
  · obtain ⟨L, hL, rfl⟩ := conc_gslice hx
    exact slc _ _ _ L _ hs hL rfl
  · rename_i s
    split at hs
    · rename_i hsz
      have := Nat.eq_of_beq_eq_true hsz
      subst this
      simp only [forceN_eq] at hs
      cases hs
      obtain ⟨hok, rfl⟩ := conc_str hx
      obtain ⟨cs, k1, rfl⟩ := bytes_cells (Y := Y) (ρ := ρ) hok
      refine ⟨_, fun w' _ => ⟨by simp [Builtin.lenOf, bytesV_size], ?_, fun k hk => ?_⟩, k1, ?_, by simp⟩
      · have := firstCells_string (P := E.P) (bytesV s) w'
        rw [bytesV_size] at this
        exact this
      · simp only [Builtin.firstCells, Sem.run_pure, Nat.mul_one]
        congr 1
        apply Array.ext'
        simp [byteCells, bytesV, List.map_take]
      · rw [List.all_map, List.all_eq_true]
        exact fun _ _ => rfl
    · cases hs
  · cases hs

theorem appSrc_ok (hE : EnvOk Y E) (hr : Rel Y E ρ h w) {elem xt : TypeId} {i : TypeInfo} {n : Nat} {x : AV} {cx : Value} {new : List AV} (hi : E.info elem = some i) (hs : appSrc E h elem i (E.und xt) x = some (n, new)) (hx : conc Y ρ x = some cx) :
    ∃ news, Src2 E.P i.size elem xt cx n news w ∧ concs Y ρ new = some news ∧ new.all isCell = true ∧ new.length = n * i.size := by
  unfold appSrc at hs
  split at hs
  · rename_i k hu
    split at hs
    · rename_i l z hz
      split at hs
      · rename_i g1 g2 g3
        cases hs
        have g1' := Nat.eq_of_beq_eq_true g1
        have g2' : n ≤ 16777216 := Nat.le_of_ble_eq_true g2
        have g3' : n * i.bytes ≤ 281474976710656 := Nat.le_of_ble_eq_true g3
        have e1 : conc Y ρ (.i64 (.ofNat n)) = some (.int .i64 (n : Int)) := rfl
        rw [e1] at hx
        cases hx
        obtain ⟨z0, hz0⟩ : ∃ z0, E.zero elem = some z0 := by
          unfold Env.zeros at hz
          cases h0 : E.zero elem with
          | none => rw [h0] at hz; cases hz
          | some z0 => exact ⟨z0, rfl⟩
        obtain ⟨cv, hcv⟩ : ∃ cv, i.zero = some cv := by
          unfold Env.zero at hz0
          have : E.tt.get elem = some i := hi
          rw [this] at hz0
          dsimp only at hz0
          cases hzz : i.zero with
          | none => rw [hzz] at hz0; cases hz0
          | some v => exact ⟨v, rfl⟩
        obtain ⟨cz, cs, k1, k2, k3, k4⟩ := run_zeros (Y := Y) (ρ := ρ) (w := w) hE hz
        have hinfo := hE.tt elem i hi
        have hcz : cz = cv := by
          simp [zeroValue, typeInfo, hinfo, hcv] at k1
          exact k1.symm
        subst hcz
        have hcl := concs_length k2
        refine ⟨repeatC cs n, .inr ⟨k, cz, i, und_ok hE hu, rfl, g2', hinfo, g3', hcv, fun h0 => ?_, fun _ => ?_⟩, repeat_conc k2 n, repeat_cell k4 n, ?_⟩
        · have := repeatC_length cs n
          rw [hcl, g1', h0] at this
          exact List.eq_nil_of_length_eq_zero this
        · rw [k3]; exact zeroCells_eq cs n
        · have := concs_length (repeat_conc (Y := Y) (ρ := ρ) k2 n)
          rw [repeatC_length, hcl, g1'] at this
          exact this.symm
      · cases hs
    · cases hs
  · rename_i e' hu
    obtain ⟨news, k1, k2, k3, k4⟩ := src_ok hr hs hx
    exact ⟨news, .inl ⟨.inl ⟨e', und_ok hE hu⟩, fun w' e => ⟨(k1 w' e).1, (k1 w' e).2.1⟩⟩, k2, k3, k4⟩
  · rename_i hu
    obtain ⟨news, k1, k2, k3, k4⟩ := src_ok hr hs hx
    exact ⟨news, .inl ⟨.inr (und_ok hE hu), fun w' e => ⟨(k1 w' e).1, (k1 w' e).2.1⟩⟩, k2, k3, k4⟩
  · cases hs

/-! ### New rows -/
theorem zeroOk_eq (hE : EnvOk Y E) {elem : TypeId} {i : TypeInfo} (hi : E.info elem = some i) (hz : zeroOk E elem i = true) : ∃ (z : Value) (cs : List Value), i.zero = some z ∧ z.cells = cs.toArray ∧ cs.length = i.size ∧ 1 ≤ i.size := by
  unfold zeroOk at hz
  split at hz
  · rename_i zs hzs
    split at hz
    · rename_i hl
      have hl' := Nat.eq_of_beq_eq_true hl
      obtain ⟨cz, cs, k1, k2, k3, k4⟩ := run_zeros (Y := Y) (ρ := fun _ => none) (w := default) hE hzs
      have hinfo := hE.tt elem i hi
      cases hzz : i.zero with
      | none => simp [zeroValue, typeInfo, hinfo, hzz] at k1
      | some v =>
        simp [zeroValue, typeInfo, hinfo, hzz] at k1
        exact ⟨v, cs, rfl, by rw [k1]; exact k3, by rw [concs_length k2]; exact hl', Nat.le_of_ble_eq_true hz⟩
    · cases hz
  · cases hz

theorem newRowA_eq (h : H) (vs : List AV) (gs : Nat) : newRowA h vs gs = h.new (.cells (ofListV vs) vs.length gs) := by
  unfold newRowA
  rw [forceN_eq]

theorem growA_eq {elem : TypeId} {i : TypeInfo} {need : Nat} {cs : List AV} {v : AV} {h' : H} (hg : growA E elem h i need cs = some (v, h')) :
    (need * 4 + 4096) * i.bytes ≤ 281474976710656 ∧ zeroOk E elem i = true ∧ need ≤ 4611686018427387904 ∧ v = .gslice h.next 0 need 0 ∧ h' = (h.new (.cells (ofListV cs) cs.length i.size)).2 := by
  unfold growA at hg
  split at hg
  · rename_i g1 g2 g3
    have g1' : (need * 4 + 4096) * i.bytes ≤ 281474976710656 := Nat.le_of_ble_eq_true g1
    have g3' := Nat.le_of_ble_eq_true g3
    rw [newRowA_eq, H.new_eq] at hg
    cases hg
    exact ⟨g1', g2, g3', rfl, by rw [H.new_eq]⟩
  · cases hg

theorem growT_eq {elem : TypeId} {i : TypeInfo} {need n : Nat} {c : T AV} {v : AV} {h' : H} (hg : growT E elem h i need c n = some (v, h')) :
    (need * 4 + 4096) * i.bytes ≤ 281474976710656 ∧ zeroOk E elem i = true ∧ need ≤ 4611686018427387904 ∧ v = .gslice h.next 0 need 0 ∧ h' = (h.new (.cells c n i.size)).2 := by
  unfold growT at hg
  split at hg
  · rename_i g1 g2 g3
    have g1' : (need * 4 + 4096) * i.bytes ≤ 281474976710656 := Nat.le_of_ble_eq_true g1
    have g3' := Nat.le_of_ble_eq_true g3
    have e : ∀ {β : Type} (k : T AV → β), forceT c k = k c := fun k => by cases c <;> rfl
    rw [e, H.new_eq] at hg
    cases hg
    exact ⟨g1', g2, g3', rfl, by rw [H.new_eq]⟩
  · cases hg

theorem grow_relT (hr : Rel Y E ρ h w) {c : T AV} {ccs zs : List Value} {need cap size : Nat} {elem : TypeId} (hc : ∀ j v, getV c j = some v → isCell v = true ∧ ∃ cv, conc Y ρ v = some cv ∧ ccs[j]? = some cv) (hlen : ccs.length = need * size) (hz : zs.length = size) (hcap : need ≤ cap) :
    Goes Y E ρ h w (ρ.set h.next ⟨w.heap.size, 0, cap⟩) (h.new (.cells c ccs.length size)).2 (w.alloc (.cells (ccs.toArray ++ Builtin.zeroCells zs.toArray (cap - need)) elem)) := by
  have hle : ρ.le (ρ.set h.next ⟨w.heap.size, 0, cap⟩) := Rho.le_set (hr.fresh h.next (Nat.le_refl _)) _
  refine Goes.alloc (L := ⟨w.heap.size, 0, cap⟩) hr rfl ⟨_, elem, rfl, ?_, fun _ => ⟨?_, ?_⟩, fun i v hv => ?_⟩
  · simp
  · rw [hlen]; exact Nat.mul_le_mul_right _ hcap
  · rw [zeroCells_eq]
    have h2 := repeatC_length zs (cap - need)
    simp only [Array.size_append, List.size_toArray, h2, hz, hlen, Nat.zero_add]
    rw [← Nat.add_mul]
    congr 1
    omega
  · obtain ⟨h1, cv, e1, e2⟩ := hc i v hv
    have hi : i < ccs.length := by
      rcases Nat.lt_or_ge i ccs.length with h' | h'
      · exact h'
      · rw [List.getElem?_eq_none h'] at e2; cases e2
    refine ⟨hi, h1, cv, conc_mono hle e1, ?_⟩
    simp only [Nat.zero_add]
    rw [Array.getElem?_append_left (by simpa using hi)]
    simpa using e2

theorem grow_rel (hr : Rel Y E ρ h w) {cs : List AV} {ccs zs : List Value} {need cap size : Nat} {elem : TypeId} (hcs : concs Y ρ cs = some ccs) (hcell : cs.all isCell = true) (hlen : cs.length = need * size) (hz : zs.length = size) (hcap : need ≤ cap) :
    Goes Y E ρ h w (ρ.set h.next ⟨w.heap.size, 0, cap⟩) (h.new (.cells (ofListV cs) cs.length size)).2 (w.alloc (.cells (ccs.toArray ++ Builtin.zeroCells zs.toArray (cap - need)) elem)) := by
  have hle : ρ.le (ρ.set h.next ⟨w.heap.size, 0, cap⟩) := Rho.le_set (hr.fresh h.next (Nat.le_refl _)) _
  refine Goes.alloc (L := ⟨w.heap.size, 0, cap⟩) hr rfl ⟨_, elem, rfl, ?_, fun _ => ⟨?_, ?_⟩, fun i v hv => ?_⟩
  · have := concs_length hcs
    simp; omega
  · rw [hlen]; exact Nat.mul_le_mul_right _ hcap
  · rw [zeroCells_eq]
    have h1 := concs_length hcs
    have h2 := repeatC_length zs (cap - need)
    simp only [Array.size_append, List.size_toArray, h1, h2, hz, hlen, Nat.zero_add]
    rw [← Nat.add_mul]
    congr 1
    omega
  · rw [get_ofListV] at hv
    obtain ⟨cv, e1, e2⟩ := concs_getElem hcs i v hv
    have hi : i < cs.length := by
      rcases Nat.lt_or_ge i cs.length with h' | h'
      · exact h'
      · rw [List.getElem?_eq_none h'] at hv; cases hv
    refine ⟨hi, List.all_eq_true.1 hcell v (List.mem_of_getElem? hv), cv, conc_mono hle e1, ?_⟩
    have hl := concs_length hcs
    simp only [Nat.zero_add]
    rw [Array.getElem?_append_left (by simp; omega)]
    simpa using e2

/-- the row behind a block goes on under a new number -/
theorem Goes.regrow {h1 : H} {w' : World} {b : Nat} {o o₀ : AObj} {L L' : Loc} {ob : Obj} (hr : Rel Y E ρ h w) (hb : h.get b = some o₀) (ha₀ : o₀.alive = true) (hL : ρ b = some L) (hu : h.upd b .dead = some h1)
    (e1 : w'.os = w.os) (e2 : w'.tape = w.tape) (e3 : w'.output = w.output) (hs : w'.heap.size = w.heap.size) (hat : w'.heap[L.blk]? = some ob) (hother : ∀ c, c ≠ L.blk → w'.heap[c]? = w.heap[c]?)
    (hL' : L'.blk = L.blk) (ho : ORel Y E (ρ.set h.next L') L' o ob) : Goes Y E ρ h w (ρ.set h.next L') (h1.new o).2 w' := by
  obtain ⟨hp, rfl⟩ := H.upd_eq.1 hu
  have hn := hr.fresh h.next (Nat.le_refl _)
  have hle := Rho.le_set hn L'
  have hmb : memN h.mask b = false := by
    rw [H.get_eq] at hb
    cases hm : memN h.mask b with
    | false => rfl
    | true => rw [hm] at hb; simp at hb
  have hblt : b < h.next := by
    rcases Nat.lt_or_ge b h.next with h4 | h4
    · exact h4
    · rw [hr.fresh b h4] at hL; cases hL
  rw [H.new_eq]
  have hget : ∀ c, (H.mk (putO (putO h.t b .dead) h.next o) (h.next + 1) h.mask h.prot).get c = if memN h.mask c = true then none else if c = h.next then some o else if c = b then some .dead else getO h.t c := by
    intro c
    rw [H.get_eq, get_putO, get_putO]
  -- an old block that lives still is another one
  have hold : ∀ c p, c ≠ h.next → (H.mk (putO (putO h.t b .dead) h.next o) (h.next + 1) h.mask h.prot).get c = some p → p.alive = true → c ≠ b ∧ h.get c = some p := by
    intro c p hc hp ha
    rw [hget, if_neg hc] at hp
    have hcb : c ≠ b := by
      rintro rfl
      rw [hmb] at hp
      simp at hp
      subst hp
      cases ha
    rw [if_neg hcb] at hp
    exact ⟨hcb, by rw [H.get_eq]; exact hp⟩
  have hnewo : ∀ p, (H.mk (putO (putO h.t b .dead) h.next o) (h.next + 1) h.mask h.prot).get h.next = some p → p = o := by
    intro p hp
    rw [hget] at hp
    split at hp
    · cases hp
    · simpa using hp.symm
  have hnew : ∀ (M : Loc) (c : Nat), c ≠ h.next → (ρ.set h.next L') c = some M → ρ c = some M := by
    intro M c hc hM
    simpa [Rho.set, hc] using hM
  refine ⟨hle, ⟨fun c p hp ha => ?_, fun c d p q M N hp hq ha hd hM hN e => ?_, fun c hc => ?_, fun c M hM => ?_⟩, ⟨e1, e2, e3, by omega, fun c _ hno => hother c (fun e => hno b o₀ L hb (wr_mk ha₀ hp) hL e.symm)⟩, ⟨rfl, rfl, by simp, fun c hc hm => ?_, fun c p hc hp ha => ?_⟩, fun c M h0 h4 => ?_, fun c hc => Rho.set_other _ (Nat.ne_of_lt hc)⟩
  · by_cases hcn : c = h.next
    · subst hcn
      have := hnewo p hp
      subst this
      exact ⟨L', ob, Rho.set_same _ _ _, by rw [hL']; exact hat, ho⟩
    · obtain ⟨hcb, hg⟩ := hold c p hcn hp ha
      obtain ⟨M, ob', k1, k2, k3⟩ := hr.obj c p hg ha
      refine ⟨M, ob', hle _ _ k1, ?_, k3.mono hle⟩
      rw [hother M.blk (fun e => hcb (hr.inj c b p o₀ M L hg hb ha ha₀ k1 hL e))]
      exact k2
  · by_cases hcn : c = h.next
    · by_cases hdn : d = h.next
      · rw [hcn, hdn]
      · obtain ⟨hdb, hg⟩ := hold d q hdn hq hd
        subst hcn
        rw [Rho.set_same] at hM
        cases hM
        exact absurd (hr.inj d b q o₀ N L hg hb hd ha₀ (hnew N d hdn hN) hL (by rw [← e, hL'])) hdb
    · obtain ⟨hcb, hg⟩ := hold c p hcn hp ha
      by_cases hdn : d = h.next
      · subst hdn
        rw [Rho.set_same] at hN
        cases hN
        exact absurd (hr.inj c b p o₀ M L hg hb ha ha₀ (hnew M c hcn hM) hL (by rw [e, hL'])) hcb
      · obtain ⟨_, hg'⟩ := hold d q hdn hq hd
        exact hr.inj c d p q M N hg hg' ha hd (hnew M c hcn hM) (hnew N d hdn hN) e
  · have hc' : h.next + 1 ≤ c := hc
    have : c ≠ h.next := by omega
    simp only [Rho.set, this, if_false]
    exact hr.fresh c (by omega)
  · rw [hs]
    by_cases hcn : c = h.next
    · subst hcn
      rw [Rho.set_same] at hM
      cases hM
      rw [hL']
      exact hr.bound b L hL
    · exact hr.bound c M (hnew M c hcn hM)
  · show getO (putO (putO h.t b .dead) h.next o) c = _
    have hcb : c ≠ b := by
      rintro rfl
      rcases hm with hm | hm
      · rw [hmb] at hm; cases hm
      · rw [hp] at hm; cases hm
    rw [get_putO, if_neg (by omega), get_putO, if_neg hcb]
  · obtain ⟨_, hg⟩ := hold c p (by omega) hp ha
    exact ⟨p, hg, ha⟩
  · by_cases hcn : c = h.next
    · subst hcn
      rw [Rho.set_same] at h4
      cases h4
      exact .inr ⟨b, o₀, L, hb, wr_mk ha₀ hp, hL, hL'.symm⟩
    · rw [hnew M c hcn h4] at h0; cases h0

end
end Go.AE

namespace Go.AE

section
variable {Y : Sy} {E : Env} {ρ : Rho} {h : H} {w : World}

theorem info_size {elem : TypeId} {i : TypeInfo} (hi : E.info elem = some i) : E.size elem = some i.size := by
  unfold Env.size
  have : E.tt.get elem = some i := hi
  rw [this]

/-- no room: a new row -/
theorem append_grows (hE : EnvOk Y E) (hr : Rel Y E ρ h w) {st xt ty elem : TypeId} {i : TypeInfo} (hu : E.und st = some (.slice elem)) (hi : E.info elem = some i) {base : Option Addr} {sLen sCap n : Nat} {cx : Value} {old new : List AV} {olds news : List Value}
    (hs : Src2 E.P i.size elem xt cx n news w) (hnew : concs Y ρ new = some news) (hnc : new.all isCell = true) (hnl : new.length = n * i.size)
    (hold : (Builtin.firstCells i.size sLen (.slice base sLen sCap)).run E.P w.drew = .ok olds.toArray w.drew) (hoc : concs Y ρ old = some olds) (hoa : old.all isCell = true) (hol : old.length = sLen * i.size)
    (hlt : sCap < sLen + n) {v : AV} {h' : H} (hg : growA E elem h i (sLen + n) (old ++ new) = some (v, h')) : Acts Y E ρ h w (Builtin.append_ #[st, xt] ty #[.slice base sLen sCap, cx]) v h' := by
  obtain ⟨g1, g2, g3, rfl, rfl⟩ := growA_eq hg
  obtain ⟨z, zs, z1, z2, z3, z4⟩ := zeroOk_eq hE hi g2
  have hfit : Builtin.nextslicecap (sLen + n) sCap * i.bytes ≤ 281474976710656 := Nat.le_trans (Nat.mul_le_mul_right _ (nextcap_le _ _ hlt)) g1
  have hrun := run_append_grow2 (ty := ty) (und_ok hE hu) (hE.tt elem i hi) z1 hs hold hlt g3 hfit
  have hr' : Rel Y E ρ h w.drew := hr.of_heap rfl
  have hcap := grownCap_ge w (sLen + n) sCap elem
  have hgo := grow_rel hr' (cs := old ++ new) (ccs := olds ++ news) (zs := zs) (need := sLen + n) (cap := grownCap w (sLen + n) sCap elem) (size := i.size) (elem := elem)
    (concs_append.2 ⟨_, _, hoc, hnew, rfl⟩) (by rw [List.all_append, hoa, hnc]; rfl) (by rw [List.length_append, hol, hnl, Nat.add_mul]) z3 hcap
  rw [← z2] at hgo
  refine ⟨_, _, _, hrun, Goes.trans hr (Goes.of_drawn (w' := w.drew) hr rfl rfl rfl rfl) hgo, ?_⟩
  rw [conc_of_gslice (L := ⟨w.drew.heap.size, 0, grownCap w (sLen + n) sCap elem⟩) (Rho.set_same _ _ _) (by simpa using hcap)]
  rfl

/-- no room: a new row, its cells as a trie -/
theorem append_growsT (hE : EnvOk Y E) (hr : Rel Y E ρ h w) {st xt ty elem : TypeId} {i : TypeInfo} (hu : E.und st = some (.slice elem)) (hi : E.info elem = some i) {base : Option Addr} {sLen sCap n nn : Nat} {cx : Value} {c : T AV} {olds news : List Value}
    (hs : Src2 E.P i.size elem xt cx n news w) (hnl : news.length = n * i.size)
    (hold : (Builtin.firstCells i.size sLen (.slice base sLen sCap)).run E.P w.drew = .ok olds.toArray w.drew) (hol : olds.length = sLen * i.size) (hc : ∀ j v, getV c j = some v → isCell v = true ∧ ∃ cv, conc Y ρ v = some cv ∧ (olds ++ news)[j]? = some cv)
    (hnn : nn = (olds ++ news).length) (hlt : sCap < sLen + n) {v : AV} {h' : H} (hg : growT E elem h i (sLen + n) c nn = some (v, h')) : Acts Y E ρ h w (Builtin.append_ #[st, xt] ty #[.slice base sLen sCap, cx]) v h' := by
  obtain ⟨g1, g2, g3, rfl, rfl⟩ := growT_eq hg
  obtain ⟨z, zs, z1, z2, z3, z4⟩ := zeroOk_eq hE hi g2
  have hfit : Builtin.nextslicecap (sLen + n) sCap * i.bytes ≤ 281474976710656 := Nat.le_trans (Nat.mul_le_mul_right _ (nextcap_le _ _ hlt)) g1
  have hrun := run_append_grow2 (ty := ty) (und_ok hE hu) (hE.tt elem i hi) z1 hs hold hlt g3 hfit
  have hr' : Rel Y E ρ h w.drew := hr.of_heap rfl
  have hcap := grownCap_ge w (sLen + n) sCap elem
  have hgo := grow_relT hr' (c := c) (ccs := olds ++ news) (zs := zs) (need := sLen + n) (cap := grownCap w (sLen + n) sCap elem) (size := i.size) (elem := elem) hc (by rw [List.length_append, hol, hnl, Nat.add_mul]) z3 hcap
  rw [← z2] at hgo
  subst hnn
  refine ⟨_, _, _, hrun, Goes.trans hr (Goes.of_drawn (w' := w.drew) hr rfl rfl rfl rfl) hgo, ?_⟩
  rw [conc_of_gslice (L := ⟨w.drew.heap.size, 0, grownCap w (sLen + n) sCap elem⟩) (Rho.set_same _ _ _) (by simpa using hcap)]
  rfl

/-- no room, and nothing there: where the slice began does not matter -/
theorem append_base {t tx ty elem : TypeId} {i : TypeInfo} (ht : E.P.underlying t = some (.slice elem)) (hinfo : E.P.info? elem = some i) (hE : EnvOk Y E) (hi : E.info elem = some i) {b1 b2 : Addr} {n : Nat} {x : Value} {news : List Value} (hs : Src2 E.P i.size elem tx x n news w) (hn : n ≠ 0) (hg : growOk E elem i n = true) :
    (Builtin.append_ #[t, tx] ty #[.slice (some b1) 0 0, x]).run E.P w = (Builtin.append_ #[t, tx] ty #[.slice (some b2) 0 0, x]).run E.P w := by
  unfold growOk at hg
  split at hg
  · rename_i g1 g2 g3
    have g1' : (n * 4 + 4096) * i.bytes ≤ 281474976710656 := Nat.le_of_ble_eq_true g1
    have g3' := Nat.le_of_ble_eq_true g3
    obtain ⟨z, zs, z1, z2, z3, z4⟩ := zeroOk_eq hE hi g2
    have hlt : 0 < 0 + n := by omega
    have hfit : Builtin.nextslicecap (0 + n) 0 * i.bytes ≤ 281474976710656 := Nat.le_trans (Nat.mul_le_mul_right _ (nextcap_le _ _ hlt)) (by simpa using g1')
    have h0 : ∀ a : Addr, (Builtin.firstCells i.size 0 (.slice (some a) 0 0)).run E.P w.drew = .ok ([] : List Value).toArray w.drew := fun a => run_firstCells_some (P := E.P) w.drew i.size 0 a 0 0 [] (by simp) (fun j v hv => by simp at hv)
    rw [run_append_grow2 ht hinfo z1 hs (h0 b1) hlt (by omega) hfit, run_append_grow2 ht hinfo z1 hs (h0 b2) hlt (by omega) hfit]
  · cases hg

/-- onto a row of an unknown capacity -/
theorem appGrown_ok (hE : EnvOk Y E) (hr : Rel Y E ρ h w) {st xt ty elem : TypeId} {i : TypeInfo} (hu : E.und st = some (.slice elem)) (hi : E.info elem = some i) {n : Nat} {cx : Value} {new : List AV} {news : List Value} (hs : Src2 E.P i.size elem xt cx n news w) (hnew : concs Y ρ new = some news) (hnc : new.all isCell = true) (hnl : new.length = n * i.size)
    {b o len pre : Nat} {L : Loc} (hL : ρ b = some L) (hlc : len ≤ L.cap - pre) {ob : AObj} (hb : h.get b = some ob) {c : T AV} {known gs : Nat} (hrow : rowOf ob = some (c, known, gs)) {v : AV} {h' : H} (hl : appGrown E elem h i n new b o len pre c known gs = some (v, h')) :
    Acts Y E ρ h w (Builtin.append_ #[st, xt] ty #[.slice (some (L.addr o)) len (L.cap - pre), cx]) v h' := by
  have hinfo := hE.tt elem i hi
  have hund := und_ok hE hu
  unfold appGrown at hl
  split at hl
  · rename_i g1 g2 g3
    have g1' := Nat.eq_of_beq_eq_true g1
    have g2' : o = pre * i.size := Nat.eq_of_beq_eq_true g2
    have g3' := Nat.le_of_ble_eq_true g3
    subst g1'
    obtain ⟨rfl, L', arr, el, r1, r2, r3, r4, r5⟩ := hr.row hb hrow
    rw [hL] at r1
    cases r1
    obtain ⟨r6, r7⟩ := r4 (by omega)
    split at hl
    · rename_i hn
      have := Nat.eq_of_beq_eq_true hn
      subst this
      cases hl
      have hnews : news = [] := by
        have := concs_length hnew
        rw [hnl, Nat.zero_mul] at this
        exact List.eq_nil_of_length_eq_zero this
      subst hnews
      refine ⟨.slice (some (L.addr o)) len (L.cap - pre), w, ρ, ?_, Goes.refl hr, conc_of_gslice hL hlc⟩
      rw [show ([st, xt] : List TypeId).toArray = #[st, xt] from rfl, show ([.slice (some (L.addr o)) len (L.cap - pre), cx] : List Value).toArray = #[.slice (some (L.addr o)) len (L.cap - pre), cx] from rfl, run_append_room2 hund hinfo hs (by omega)]
      rfl
    · rename_i hn0
      have hn' : n ≠ 0 := Nat.ne_of_beq_eq_false hn0
      split at hl
      · rename_i hkn
        have hkn' : o + (len + n) * i.size ≤ known := Nat.le_of_ble_eq_true hkn
        split at hl
        · rename_i h1 hst
          simp only [forceN_eq] at hl
          cases hl
          have hroom : len + n ≤ L.cap - pre := by
            have h1 : (pre + (len + n)) * i.size ≤ L.cap * i.size := by rw [Nat.add_mul]; omega
            have h2 := Nat.le_of_mul_le_mul_right h1 (by omega)
            omega
          obtain ⟨L', w', k1, k2, k3, _⟩ := storeCells_sound (P := E.P) hr hst hnew hnc
          rw [hL] at k1
          cases k1
          refine ⟨.slice (some (L.addr o)) (len + n) (L.cap - pre), w', ρ, ?_, k3, conc_of_gslice hL hroom⟩
          rw [show ([st, xt] : List TypeId).toArray = #[st, xt] from rfl, show ([.slice (some (L.addr o)) len (L.cap - pre), cx] : List Value).toArray = #[.slice (some (L.addr o)) len (L.cap - pre), cx] from rfl, run_append_room2 hund hinfo hs hroom]
          simp only [addr_add]
          have k2' : (storeCells (L.addr (o + len * i.size)) news).run E.P w = .ok () w' := k2
          rw [k2']
          rfl
        · cases hl
      · split at hl
        · -- the row as it is, and more
          rename_i ho0 hkl
          have ho0' : o = 0 := Nat.eq_of_beq_eq_true ho0
          have hkl' : known = len * i.size := Nat.eq_of_beq_eq_true hkl
          have hpre0 : pre = 0 := by
            rcases Nat.eq_zero_or_pos pre with h0 | h0
            · exact h0
            · have := Nat.mul_le_mul h0 g3'
              omega
          subst hpre0
          split at hl
          · cases hl
          · rename_i h1 hdead
            simp only [forceN_eq, Nat.add_eq] at hl
            have hnlen := concs_length hnew
            -- what the trie says of a row that begins so
            have hput : ∀ j v, getV (putCells c known new) j = some v → isCell v = true ∧ ∃ cv, conc Y ρ v = some cv ∧ ((known ≤ j ∧ j < known + news.length ∧ news[j - known]? = some cv) ∨ (j < known ∧ arr[L.sh + j]? = some cv)) := by
              intro j v hv
              rw [putCells_get] at hv
              split at hv
              · rename_i hj
                obtain ⟨cv, e1, e2⟩ := concs_getElem hnew _ v hv
                exact ⟨List.all_eq_true.1 hnc v (List.mem_of_getElem? hv), cv, e1, .inl ⟨hj.1, by rw [hnlen]; exact hj.2, e2⟩⟩
              · obtain ⟨k1, k2, cv, k3, k4⟩ := r5 j v hv
                exact ⟨k2, cv, k3, .inr ⟨k1, k4⟩⟩
            by_cases hroom : len + n ≤ L.cap - 0
            · -- there is room: the row goes on
              obtain ⟨q1, q2, q3, rfl, rfl⟩ := growT_eq hl
              have hpre : len + n ≤ L.cap := by omega
              have hfits : L.sh + known + 0 + news.length ≤ arr.size := by
                have := Nat.mul_le_mul_right i.size hpre
                rw [Nat.add_mul] at this
                rw [hnlen, hnl, r7, hkl']
                omega
              have hst := run_storeCells (P := E.P) news w L known 0 arr el r2 (by omega) (fun u hu => by
                obtain ⟨j, hj⟩ := List.mem_iff_getElem?.1 hu
                have hlt : j < news.length := by
                  rcases Nat.lt_or_ge j news.length with h' | h'
                  · exact h'
                  · rw [List.getElem?_eq_none h'] at hj; cases hj
                rw [hnlen] at hlt
                obtain ⟨cv, e1, e2⟩ := concs_getElem hnew j _ (List.getElem?_eq_getElem hlt)
                rw [hj] at e2
                cases e2
                exact oneCell_of (List.all_eq_true.1 hnc _ (List.getElem_mem _)) e1)
              have hblt : L.blk < w.heap.size := (Array.getElem?_eq_some_iff.1 r2).1
              have hh1 := H.upd_eq.1 hdead
              have hnx : h1.next = h.next := by rw [hh1.2]
              rw [hnx]
              have hle : ρ.le (ρ.set h.next ⟨L.blk, L.sh, L.cap⟩) := Rho.le_set (hr.fresh h.next (Nat.le_refl _)) _
              refine ⟨.slice (some (L.addr 0)) (len + n) L.cap, _, ρ.set h.next ⟨L.blk, L.sh, L.cap⟩, ?_,
                Goes.regrow (L' := ⟨L.blk, L.sh, L.cap⟩) (w' := setRow w L.blk (putArr arr (L.sh + known + 0) news) el) (ob := .cells (putArr arr (L.sh + known + 0) news) el (0, 0))
                  hr hb rfl hL hdead rfl rfl rfl (by simp [setRow]) (by simp [setRow, hblt]) (fun d hd => by simp [setRow, Ne.symm hd]) rfl ?_, ?_⟩
              · rw [show ([st, xt] : List TypeId).toArray = #[st, xt] from rfl, show ([.slice (some (L.addr o)) len (L.cap - 0), cx] : List Value).toArray = #[.slice (some (L.addr o)) len (L.cap - 0), cx] from rfl, run_append_room2 hund hinfo hs hroom]
                simp only [addr_add]
                rw [show o + len * i.size = known by omega, hst, ho0']
                rfl
              · refine ⟨_, el, rfl, ?_, fun _ => ⟨?_, ?_⟩, fun j v hv => ?_⟩
                · rw [putArr_size]; dsimp only; omega
                · rw [hnl, hkl', ← Nat.add_mul]; exact Nat.mul_le_mul_right _ hpre
                · rw [putArr_size, r7]
                · obtain ⟨k1, cv, k2, k3⟩ := hput j v hv
                  refine ⟨?_, k1, cv, conc_mono hle k2, ?_⟩
                  · rcases k3 with ⟨_, k3, _⟩ | ⟨k3, _⟩
                    · rw [← hnlen]; exact k3
                    · omega
                  · rw [putArr_get _ _ _ _ (by omega)]
                    dsimp only
                    rcases k3 with ⟨k3, k4, k5⟩ | ⟨k3, k4⟩
                    · rw [if_pos (by omega), ← k5]
                      congr 1
                      omega
                    · rw [if_neg (by omega)]
                      exact k4
              · rw [conc_of_gslice (L := ⟨L.blk, L.sh, L.cap⟩) (Rho.set_same _ _ _) (by simpa using hroom)]
                simp [Loc.addr]
            · -- there is none
              have hg := Goes.upd (w' := w) hr hb rfl hL hdead rfl rfl rfl rfl r2 (fun _ _ => rfl) (o := .dead) trivial
              have holen : ((arr.toList.drop L.sh).take known).length = len * i.size := by
                rw [List.length_take, List.length_drop, Array.length_toList]
                omega
              have hcells : ∀ (j : Nat) cv, ((arr.toList.drop L.sh).take known)[j]? = some cv → arr[L.sh + j]? = some cv := by
                intro j cv hcv
                rw [List.getElem?_take] at hcv
                split at hcv
                · rw [List.getElem?_drop, Array.getElem?_toList] at hcv
                  exact hcv
                · cases hcv
              have hf := run_firstCells_some (P := E.P) w.drew i.size len (L.addr o) len (L.cap - 0) ((arr.toList.drop L.sh).take known) holen (fun j v hv => by
                rw [addr_add]
                show w.cell? _ = _
                rw [cell_of_block r2, ho0', Nat.zero_add]
                exact hcells j v hv)
              obtain ⟨cv, w', ρ', e1, e2, e3⟩ := append_growsT (ty := ty) hE hg.rel hu hi hs (by rw [hnlen, hnl]) hf holen (fun j v hv => by
                obtain ⟨k1, cv, k2, k3⟩ := hput j v hv
                refine ⟨k1, cv, k2, ?_⟩
                rcases k3 with ⟨k3, k4, k5⟩ | ⟨k3, k4⟩
                · rw [List.getElem?_append_right (by omega), holen, ← k5]
                  congr 1
                  omega
                · rw [List.getElem?_append_left (by omega), List.getElem?_take, if_pos k3, List.getElem?_drop, Array.getElem?_toList]
                  exact k4) (by rw [List.length_append, holen, hnlen, hkl']) (by omega) hl
              exact ⟨cv, w', ρ', e1, Goes.trans hr hg e2, e3⟩
        · split at hl
          · cases hl
          rename_i old hold
          split at hl
          · cases hl
          · rename_i h1 hdead
            simp only [forceN_eq] at hl
            obtain ⟨hol, hget⟩ := getCells_eq _ _ _ _ hold
            have hol' : old.length = len * i.size := hol
            obtain ⟨olds, hoc⟩ := concs_of_all (Y := Y) (ρ := ρ) old (fun j v hv => let ⟨_, _, cv, e, _⟩ := r5 _ v (hget j v hv); ⟨cv, e⟩)
            have hoa : old.all isCell = true := by
              rw [List.all_eq_true]
              intro v hv
              obtain ⟨j, hj⟩ := List.mem_iff_getElem?.1 hv
              exact (r5 _ v (hget j v hj)).2.1
            have hocl := concs_length hoc
            have hcells : ∀ (j : Nat) cv, olds[j]? = some cv → arr[L.sh + (o + j)]? = some cv := by
              intro j cv hcv
              have hj : j < olds.length := by
                rcases Nat.lt_or_ge j olds.length with h' | h'
                · exact h'
                · rw [List.getElem?_eq_none h'] at hcv; cases hcv
              rw [hocl] at hj
              have hv : old[j]? = some old[j] := List.getElem?_eq_getElem hj
              obtain ⟨cv', e1, e2⟩ := concs_getElem hoc j _ hv
              rw [e2] at hcv
              cases hcv
              obtain ⟨_, _, cv'', e3, e4⟩ := r5 _ _ (hget j _ hv)
              rw [e1] at e3
              cases e3
              exact e4
            by_cases hroom : len + n ≤ L.cap - pre
            · -- there is room: the row goes on
              obtain ⟨q1, q2, q3, rfl, rfl⟩ := growA_eq hl
              have hnlen := concs_length hnew
              have hpre : pre + (len + n) ≤ L.cap := by omega
              have hfits : L.sh + o + len * i.size + 0 + news.length ≤ arr.size := by
                have := Nat.mul_le_mul_right i.size hpre
                rw [Nat.add_mul, Nat.add_mul] at this
                rw [hnlen, hnl, r7]
                omega
              have hst := run_storeCells (P := E.P) news w L (o + len * i.size) 0 arr el r2 (by omega) (fun u hu => by
                obtain ⟨j, hj⟩ := List.mem_iff_getElem?.1 hu
                have hlt : j < news.length := by
                  rcases Nat.lt_or_ge j news.length with h' | h'
                  · exact h'
                  · rw [List.getElem?_eq_none h'] at hj; cases hj
                rw [hnlen] at hlt
                obtain ⟨cv, e1, e2⟩ := concs_getElem hnew j _ (List.getElem?_eq_getElem hlt)
                rw [hj] at e2
                cases e2
                exact oneCell_of (List.all_eq_true.1 hnc _ (List.getElem_mem _)) e1)
              have hblt : L.blk < w.heap.size := (Array.getElem?_eq_some_iff.1 r2).1
              have hh1 := H.upd_eq.1 hdead
              have hnx : h1.next = h.next := by rw [hh1.2]
              rw [hnx]
              have hle : ρ.le (ρ.set h.next ⟨L.blk, L.sh + o, L.cap - pre⟩) := Rho.le_set (hr.fresh h.next (Nat.le_refl _)) _
              refine ⟨.slice (some (L.addr o)) (len + n) (L.cap - pre), _, ρ.set h.next ⟨L.blk, L.sh + o, L.cap - pre⟩, ?_,
                Goes.regrow (L' := ⟨L.blk, L.sh + o, L.cap - pre⟩) (w' := setRow w L.blk (putArr arr (L.sh + (o + len * i.size) + 0) news) el) (ob := .cells (putArr arr (L.sh + (o + len * i.size) + 0) news) el (0, 0))
                  hr hb rfl hL hdead rfl rfl rfl (by simp [setRow]) (by simp [setRow, hblt]) (fun d hd => by simp [setRow, Ne.symm hd]) rfl ?_, ?_⟩
              · rw [show ([st, xt] : List TypeId).toArray = #[st, xt] from rfl, show ([.slice (some (L.addr o)) len (L.cap - pre), cx] : List Value).toArray = #[.slice (some (L.addr o)) len (L.cap - pre), cx] from rfl, run_append_room2 hund hinfo hs hroom]
                simp only [addr_add]
                rw [hst]
                rfl
              · have hll : (old ++ new).length = (len + n) * i.size := by rw [List.length_append, hol', hnl, Nat.add_mul]
                have hmul : pre * i.size + (L.cap - pre) * i.size = L.cap * i.size := by
                  rw [← Nat.add_mul]; congr 1; omega
                have hmul2 : (len + n) * i.size ≤ (L.cap - pre) * i.size := Nat.mul_le_mul_right _ hroom
                refine ⟨_, el, rfl, ?_, fun _ => ⟨?_, ?_⟩, fun j v hv => ?_⟩
                · rw [putArr_size, hll, r7]; dsimp only; omega
                · rw [hll]; exact hmul2
                · rw [putArr_size, r7]; dsimp only; omega
                · rw [get_ofListV] at hv
                  have hcc : concs Y ρ (old ++ new) = some (olds ++ news) := concs_append.2 ⟨_, _, hoc, hnew, rfl⟩
                  obtain ⟨cv, e1, e2⟩ := concs_getElem hcc j v hv
                  have hj : j < (old ++ new).length := by
                    rcases Nat.lt_or_ge j (old ++ new).length with h' | h'
                    · exact h'
                    · rw [List.getElem?_eq_none h'] at hv; cases hv
                  refine ⟨hj, ?_, cv, conc_mono hle e1, ?_⟩
                  · have hall : (old ++ new).all isCell = true := by rw [List.all_append, hoa, hnc]; rfl
                    exact List.all_eq_true.1 hall v (List.mem_of_getElem? hv)
                  · rw [putArr_get _ _ _ _ (by omega)]
                    dsimp only
                    by_cases hjo : j < olds.length
                    · rw [if_neg (by omega), Nat.add_assoc]
                      rw [List.getElem?_append_left hjo] at e2
                      exact hcells j cv e2
                    · rw [if_pos (by rw [List.length_append] at hj; omega)]
                      rw [List.getElem?_append_right (by omega)] at e2
                      rw [← e2]
                      congr 1
                      omega
              · rw [conc_of_gslice (L := ⟨L.blk, L.sh + o, L.cap - pre⟩) (Rho.set_same _ _ _) (by simpa using hroom)]
                simp [Loc.addr]
            · -- there is none
              have hg := Goes.upd (w' := w) hr hb rfl hL hdead rfl rfl rfl rfl r2 (fun _ _ => rfl) (o := .dead) trivial
              have hf := run_firstCells_some (P := E.P) w.drew i.size len (L.addr o) len (L.cap - pre) olds (by rw [hocl]; exact hol') (fun j v hv => by
                rw [addr_add]
                show w.cell? _ = _
                rw [cell_of_block r2]
                exact hcells j v hv)
              obtain ⟨cv, w', ρ', e1, e2, e3⟩ := append_grows (ty := ty) hE hg.rel hu hi hs hnew hnc hnl hf hoc hoa hol' (by omega) hl
              exact ⟨cv, w', ρ', e1, Goes.trans hr hg e2, e3⟩
  · cases hl

theorem append_ok (hE : EnvOk Y E) (hr : Rel Y E ρ h w) {ts : List TypeId} {args : List AV} {cargs : List Value} {v : AV} {h' : H} (ty : TypeId) (hl : appendA E h ts args = some (v, h')) (ha : concs Y ρ args = some cargs) :
    Acts Y E ρ h w (Builtin.append_ ts.toArray ty cargs.toArray) v h' := by
  unfold appendA at hl
  split at hl
  · rename_i st xt s x
    obtain ⟨cs, cr, hcs, hcr, rfl⟩ := concs_cons.1 ha
    obtain ⟨cx, cr', hcx, hcr', rfl⟩ := concs_cons.1 hcr
    rw [concs_nil] at hcr'
    subst hcr'
    split at hl
    · rename_i elem hu
      split at hl
      · cases hl
      · rename_i i hi
        split at hl
        · cases hl
        · rename_i n new hsrc
          obtain ⟨news, hs, hnew, hnc, hnl⟩ := appSrc_ok hE hr hi hsrc hcx
          have hinfo := hE.tt elem i hi
          have hund := und_ok hE hu
          split at hl
          · -- onto nil
            cases hcs
            split at hl
            · rename_i hn
              have := Nat.eq_of_beq_eq_true hn
              subst this
              cases hl
              refine ⟨.slice none 0 0, w, ρ, ?_, Goes.refl hr, rfl⟩
              rw [show ([st, xt] : List TypeId).toArray = #[st, xt] from rfl, show ([.slice none 0 0, cx] : List Value).toArray = #[.slice none 0 0, cx] from rfl, run_append_room2 hund hinfo hs (Nat.le_refl _)]
              rfl
            · rename_i hn
              have hn' : n ≠ 0 := Nat.ne_of_beq_eq_false hn
              refine append_grows hE hr hu hi hs hnew hnc hnl (olds := []) (old := []) rfl rfl rfl (by simp) (by omega) (by simpa using hl)
          · -- onto a row of a known capacity
            rename_i b o len cap
            obtain ⟨L, hL, rfl⟩ := conc_slice hcs
            split at hl
            · rename_i hle
              have hle' : len + n ≤ cap := Nat.le_of_ble_eq_true hle
              split at hl
              · rename_i h1 hst
                simp only [forceN_eq] at hl
                cases hl
                obtain ⟨L', w', k1, k2, k3, _⟩ := storeCells_sound (P := E.P) hr hst hnew hnc
                rw [hL] at k1
                cases k1
                refine ⟨.slice (some (L.addr o)) (len + n) cap, w', ρ, ?_, k3, by simp [conc, hL]⟩
                rw [show ([st, xt] : List TypeId).toArray = #[st, xt] from rfl, show ([.slice (some (L.addr o)) len cap, cx] : List Value).toArray = #[.slice (some (L.addr o)) len cap, cx] from rfl, run_append_room2 hund hinfo hs hle']
                simp only [addr_add]
                have k2' : (storeCells (L.addr (o + len * i.size)) news).run E.P w = .ok () w' := k2
                rw [k2']
                rfl
              · cases hl
            · rename_i hle
              have hle' : ¬ (len + n ≤ cap) := fun h => (by
                have e : Nat.ble (Nat.add len n) cap = true := Nat.ble_eq_true_of_le h
                rw [e] at hle
                cases hle)
              split at hl
              · rename_i old hold
                simp only [forceN_eq] at hl
                obtain ⟨L', cs, k1, k2, k3, k4, k5⟩ := loadCells_sound hr hold
                rw [hL] at k1
                cases k1
                have hcl := concs_length k2
                rw [k4] at hcl
                have hf := run_firstCells_some (P := E.P) w.drew i.size len (L.addr o) len cap cs hcl (fun j v hv => by rw [addr_add]; exact k5 j v hv)
                exact append_grows hE hr hu hi hs hnew hnc hnl hf k2 k3 k4 (by omega) hl
              · cases hl
          · -- onto a row of an unknown capacity
            rename_i b o len pre
            obtain ⟨L, hL, rfl, hlc⟩ := conc_gslice' hcs
            split at hl
            · rename_i ob hb
              split at hl
              · rename_i c known gs hrow
                exact appGrown_ok (ty := ty) hE hr hu hi hs hnew hnc hnl hL hlc hb hrow hl
              · cases hl
            · cases hl
          · -- onto the empty rest of a row of an unknown capacity
            rename_i b o l es pre
            split at hl
            · rename_i hn
              have := Nat.eq_of_beq_eq_true hn
              subst this
              cases hl
              obtain ⟨a, cp, rfl⟩ := conc_eslice hcs
              have hnews : news = [] := by
                have := concs_length hnew
                rw [hnl, Nat.zero_mul] at this
                exact List.eq_nil_of_length_eq_zero this
              subst hnews
              refine ⟨.slice (some a) 0 cp, w, ρ, ?_, Goes.refl hr, hcs⟩
              rw [show ([st, xt] : List TypeId).toArray = #[st, xt] from rfl, show ([.slice (some a) 0 cp, cx] : List Value).toArray = #[.slice (some a) 0 cp, cx] from rfl, run_append_room2 hund hinfo hs (by omega)]
              rfl
            · rename_i hn
              have hn0 : n ≠ 0 := Nat.ne_of_beq_eq_false hn
              split at hl
              · cases hl
              · rename_i hgk
                split at hl
                · rename_i ob hb
                  split at hl
                  · rename_i c known gs hrow
                    simp only [forceN_eq] at hl
                    simp only [conc, Option.bind_eq_some_iff] at hcs
                    obtain ⟨L, hL, hcs⟩ := hcs
                    have hmain := appGrown_ok (ty := ty) (L := L) hE hr hu hi hs hnew hnc hnl hL (Nat.zero_le _) hb hrow hl
                    split at hcs
                    · rename_i hle
                      split at hcs
                      · rename_i heq
                        cases hcs
                        have e0 : L.cap - (pre + l) = 0 := by omega
                        rw [show Nat.add pre l = pre + l from rfl, e0] at hmain
                        obtain ⟨cv, w', ρ', e1, e2, e3⟩ := hmain
                        exact ⟨cv, w', ρ', (append_base hund hinfo hE hi hs hn0 hgk).trans e1, e2, e3⟩
                      · rename_i hne
                        cases hcs
                        rw [show Nat.add pre l = pre + l from rfl, Nat.sub_add_eq] at hmain
                        exact hmain
                    · cases hcs
                  · cases hl
                · cases hl
          · cases hl
    · cases hl
  · cases hl

end
end Go.AE

namespace Go.AE

section
variable {Y : Sy} {E : Env} {ρ : Rho} {h : H} {w : World}

theorem copy_ok (hE : EnvOk Y E) (hr : Rel Y E ρ h w) {ts : List TypeId} {args : List AV} {cargs : List Value} {v : AV} {h' : H} (ty : TypeId) (hl : copyA E h ts args = some (v, h')) (ha : concs Y ρ args = some cargs) :
    Acts Y E ρ h w (Builtin.copy_ ts.toArray ty cargs.toArray) v h' := by
  unfold copyA at hl
  split at hl
  · rename_i st tr d x
    obtain ⟨cd, cr, hcd, hcr, rfl⟩ := concs_cons.1 ha
    obtain ⟨cx, cr', hcx, hcr', rfl⟩ := concs_cons.1 hcr
    rw [concs_nil] at hcr'
    subst hcr'
    split at hl
    · rename_i elem hu
      split at hl
      · cases hl
      · rename_i size hsz
        split at hl
        · cases hl
        · rename_i n new hsrc
          obtain ⟨news, hs, hnew, hnc, hnl⟩ := src_ok hr hsrc hcx
          obtain ⟨l1, l2, l3⟩ := hs w rfl
          have key : ∀ (b o len cap : Nat) (L : Loc), ρ b = some L → cd = .slice (some (L.addr o)) len cap →
              (forceN (match Nat.ble n len with | true => n | false => len) fun k => match storeCellsA h b o (new.take (Nat.mul k size)) with | some h' => some (AV.i64 (.ofNat k), h') | none => none) = some (v, h') →
              Acts Y E ρ h w (Builtin.copy_ (st :: tr).toArray ty [cd, cx].toArray) v h' := by
            intro b o len cap L hL hcd hl
            subst hcd
            rw [forceN_eq] at hl
            have hmin : (match Nat.ble n len with | true => n | false => len) = Nat.min n len := by
              cases hb : Nat.ble n len with
              | true => exact (Nat.min_eq_left (Nat.le_of_ble_eq_true hb)).symm
              | false =>
                have : ¬ n ≤ len := fun h => by rw [Nat.ble_eq_true_of_le h] at hb; cases hb
                have h2 : len ≤ n := by omega
                exact (Nat.min_eq_right h2).symm
            rw [hmin] at hl
            cases hst : storeCellsA h b o (new.take (Nat.mul (Nat.min n len) size)) with
            | none => rw [hst] at hl; cases hl
            | some h1 =>
              rw [hst] at hl
              cases hl
              have hnt := concs_take hnew (Nat.min n len * size)
              obtain ⟨L', w', k1, k2, k3, _⟩ := storeCells_sound (P := E.P) hr hst hnt (by
                rw [List.all_eq_true] at hnc ⊢
                exact fun x hx => hnc x (List.mem_of_mem_take hx))
              rw [hL] at k1
              cases k1
              have hf := l3 (Nat.min n len) (Nat.min_le_left _ _)
              refine ⟨_, w', ρ, ?_, k3, rfl⟩
              simp only [Builtin.copy_, List.getElem?_toArray, List.getElem?_cons_zero, List.getElem?_cons_succ, Sem.run_bind, run_und hE hu, Result.andThen_ok, l1, run_size hE hsz, hf, k2, Sem.run_pure]
              rfl
          split at hl
          · cases hcd
            cases hl
            refine ⟨_, w, ρ, ?_, Goes.refl hr, rfl⟩
            have h0 : Nat.min n 0 = 0 := Nat.min_eq_right (Nat.zero_le _)
            simp only [Builtin.copy_, List.getElem?_toArray, List.getElem?_cons_zero, List.getElem?_cons_succ, Sem.run_bind, run_und hE hu, Result.andThen_ok, l1, run_size hE hsz, h0, l3 0 (Nat.zero_le _), Sem.run_pure]
            rfl
          · rename_i b o len cap
            obtain ⟨L, hL, rfl⟩ := conc_slice hcd
            exact key b o len _ L hL rfl hl
          · rename_i b o len pre
            obtain ⟨L, hL, rfl⟩ := conc_gslice hcd
            exact key b o len _ L hL rfl hl
          · cases hl
    · cases hl
  · cases hl

theorem decode_ascii {s : List Nat} {pos c : Nat} (hc : s[pos]? = some c) (hlt : c < 128) : Utf8.decode (bytesV s) pos = (c, 1) := by
  have hp : pos < s.length := by
    rcases Nat.lt_or_ge pos s.length with h' | h'
    · exact h'
    · rw [List.getElem?_eq_none h'] at hc; cases hc
  have h0 : ((bytesV s).get! (pos + 0)).toNat = c := by
    have h1 : (bytesV s).data[pos]? = some (UInt8.ofNat c) := by simp [bytesV, hc]
    have h2 : (bytesV s).get! pos = UInt8.ofNat c := by
      show (bytesV s).data[pos]! = _
      rw [Array.getElem!_eq_getD, Array.getD_eq_getD_getElem?, h1]
      rfl
    rw [Nat.add_zero, h2, toNat_ofNat (by omega)]
  unfold Utf8.decode
  simp only [h0]
  rw [if_pos (by omega)]

theorem EntRel.filter {p : Nat → Bool} : ∀ {es : List AEnt} {l : List MapEntry}, EntRel Y ρ es l → EntRel Y ρ (es.filter fun e => p e.born) (l.filter fun e => p e.born)
  | [], [], _ => trivial
  | a :: es, e :: l, ⟨h1, h2, h3, h4⟩ => by
    simp only [List.filter_cons, h3]
    split
    · exact ⟨h1, h2, h3, h4.filter⟩
    · exact h4.filter
  | [], _ :: _, h => h.elim
  | _ :: _, [], h => h.elim

theorem leftEnts_eq (seen : List Nat) : ∀ es, leftEnts seen es = es.filter fun e => !memN seen e.born
  | [] => rfl
  | e :: r => by
    simp only [leftEnts, List.filter_cons]
    cases hm : memN seen e.born with
    | true => simp [leftEnts_eq seen r]
    | false => simp [leftEnts_eq seen r]

theorem allBorn_rel {last : Nat} : ∀ {es : List AEnt} {l : List MapEntry}, EntRel Y ρ es l → allBorn last es = l.all fun e => decide (e.born ≥ last)
  | [], [], _ => rfl
  | a :: es, e :: l, ⟨h1, h2, h3, h4⟩ => by
    simp only [allBorn, List.all_cons, ← h3]
    cases hb : Nat.ble last a.born with
    | true => simp [Nat.le_of_ble_eq_true hb, allBorn_rel h4]
    | false =>
      have : ¬ last ≤ a.born := fun h => by rw [Nat.ble_eq_true_of_le h] at hb; cases hb
      simp [this]
  | [], _ :: _, h => h.elim
  | _ :: _, [], h => h.elim

theorem memN_contains (l : List Nat) (n : Nat) : memN l n = l.toArray.contains n := by
  rw [List.contains_toArray]
  cases hm : memN l n with
  | true => have := (memN_iff l n).1 hm; simp [this]
  | false =>
    have : n ∉ l := fun h => by rw [(memN_iff l n).2 h] at hm; cases hm
    simp [this]

theorem next_ok (hr : Rel Y E ρ h w) {it v : AV} {cit : Value} {isS : Bool} {ty : TypeId} {h' : H} (hl : nextA h it isS = some (v, h')) (hit : conc Y ρ it = some cit) : Acts Y E ρ h w (Instr.next cit isS ty) v h' := by
  unfold nextA at hl
  split at hl
  · rename_i r
    obtain ⟨L, hL, rfl⟩ := conc_ptr hit
    split at hl
    · rename_i s pos hb
      obtain ⟨L', ob, h1, h2, hsh, hok, rfl⟩ := hr.obj r _ hb rfl
      rw [hL] at h1
      cases h1
      have hgo : (getObj L.blk).run E.P w = .ok (.stringIter (bytesV s) pos) w := run_getObj' h2 (fun _ _ _ h => by cases h)
      have ha : L.addr 0 = ⟨L.blk, 0, none⟩ := by simp [Loc.addr, hsh]
      split at hl
      · rename_i hc
        cases hl
        refine ⟨.tuple #[.bool false], w, ρ, ?_, Goes.refl hr, rfl⟩
        have hge : ¬ pos < (bytesV s).size := by
          rw [bytesV_size]
          intro hlt
          rw [List.getElem?_eq_getElem hlt] at hc
          cases hc
        rw [ha]
        simp [Instr.next, hgo, hge]
      · rename_i c hc
        split at hl
        · cases hl
        · rename_i hlt
          have hlt' := (blt_iff _ _).1 hlt
          simp only [forceN_eq] at hl
          split at hl
          · rename_i h1 hu
            cases hl
            have hp : pos < (bytesV s).size := by
              rw [bytesV_size]
              rcases Nat.lt_or_ge pos s.length with h' | h'
              · exact h'
              · rw [List.getElem?_eq_none h'] at hc; cases hc
            have hst : ∀ o', (setObj L.blk o').run E.P w = .ok () (putW w L.blk o') := fun o' => run_setObj' h2 (fun _ _ _ h => by cases h)
            refine ⟨.tuple #[.bool true, goInt pos, .int .i32 c], putW w L.blk (.stringIter (bytesV s) (pos + 1)), ρ, ?_, Goes.put hr hb rfl hL hu ⟨hsh, hok, rfl⟩, rfl⟩
            rw [ha]
            simp [Instr.next, hgo, hp, decode_ascii hc hlt', hst]
          · cases hl
    · rename_i si se la hb
      cases hl
      obtain ⟨L', ob, h1, h2, hsh, m', rfl, hm⟩ := hr.obj r _ hb rfl
      rw [hL] at h1
      cases h1
      have hm' : m' = none := hm
      subst hm'
      have hgo : (getObj L.blk).run E.P w = .ok (.mapIter none si se.toArray la) w := run_getObj' h2 (fun _ _ _ h => by cases h)
      have ha : L.addr 0 = ⟨L.blk, 0, none⟩ := by simp [Loc.addr, hsh]
      refine ⟨.tuple #[.bool false], w, ρ, ?_, Goes.refl hr, rfl⟩
      rw [ha]
      simp [Instr.next, hgo]
    · rename_i m si se la hb
      obtain ⟨L', ob, h1, h2, hsh, m', rfl, hm⟩ := hr.obj r _ hb rfl
      rw [hL] at h1
      cases h1
      obtain ⟨M, hM, rfl⟩ : ∃ M, ρ m = some M ∧ m' = some M.blk := hm
      have hgo : (getObj L.blk).run E.P w = .ok (.mapIter (some M.blk) si se.toArray la) w := run_getObj' h2 (fun _ _ _ h => by cases h)
      have hst : ∀ o', (setObj L.blk o').run E.P w = .ok () (putW w L.blk o') := fun o' => run_setObj' h2 (fun _ _ _ h => by cases h)
      have ha : L.addr 0 = ⟨L.blk, 0, none⟩ := by simp [Loc.addr, hsh]
      split at hl
      · rename_i es clock hmb
        obtain ⟨M', l, k1, k2, k3⟩ := hr.mapAt hmb
        rw [hM] at k1
        cases k1
        have hgm : (getObj M.blk).run E.P w = .ok (.map l clock) w := run_getObj' k2 (fun _ _ _ h => by cases h)
        rw [Option.bind_eq_some_iff] at hl
        obtain ⟨_, hguard, hl⟩ := hl
        have hno : ¬ ((!se.toArray.isEmpty && !l.isEmpty && l.all fun e => decide (e.born ≥ la)) = true) := by
          have hall : (l.all fun e => decide (e.born ≥ la)) = allBorn la es := by
            rw [allBorn_rel k3, Array.all_toList]
          rw [hall]
          split at hguard
          · split at hguard
            · cases hguard
            · rename_i hf; rw [hf]; simp
          · rename_i hne
            cases se with
            | nil => simp
            | cons a se =>
              cases es with
              | nil =>
                have := k3.length
                simp only [List.length_nil, Array.length_toList] at this
                have : l = #[] := Array.eq_empty_of_size_eq_zero this
                subst this
                simp
              | cons e es => exact (hne _ _ _ _ rfl rfl).elim
        have hleft : EntRel Y ρ (leftEnts se es) ((l.filter fun e => !se.toArray.contains e.born).toList) := by
          rw [leftEnts_eq, Array.toList_filter]
          have := EntRel.filter (p := fun n => !memN se n) k3
          simpa only [memN_contains] using this
        split at hl
        · rename_i hle
          cases hl
          rw [hle] at hleft
          have hnil : (l.filter fun e => !se.toArray.contains e.born) = #[] := by
            cases hq : (l.filter fun e => !se.toArray.contains e.born).toList with
            | nil => exact Array.toList_eq_nil_iff.1 hq
            | cons _ _ => rw [hq] at hleft; exact hleft.elim
          refine ⟨.tuple #[.bool false], w, ρ, ?_, Goes.refl hr, rfl⟩
          rw [ha]
          simp only [Instr.next, Sem.run_bind, hgo, Result.andThen_ok, hgm, Sem.run_ite, hno, hnil]
          simp [Question.forced]
        · rename_i e hle
          rw [hle] at hleft
          split at hl
          · rename_i hlt
            have hlt' := (blt_iff _ _).1 hlt
            split at hl
            · rename_i h1 hu
              cases hl
              obtain ⟨e', hq⟩ : ∃ e', (l.filter fun e => !se.toArray.contains e.born) = #[e'] := by
                cases hq : (l.filter fun e => !se.toArray.contains e.born).toList with
                | nil => rw [hq] at hleft; exact hleft.elim
                | cons e' r' =>
                  rw [hq] at hleft
                  cases r' with
                  | nil => exact ⟨e', by apply Array.ext'; simpa using hq⟩
                  | cons _ _ => exact hleft.2.2.2.elim
              rw [hq] at hleft
              obtain ⟨g1, g2, g3, _⟩ := hleft
              refine ⟨.tuple #[.bool true, e'.key, e'.val], putW w L.blk (.mapIter (some M.blk) si (se.toArray.push e'.born) clock), ρ, ?_, Goes.put hr hb rfl hL hu ⟨hsh, some M.blk, ?_, M, hM, rfl⟩, by simp [conc, concs, g1, g2]⟩
              · rw [ha]
                have hb' : e'.born < si := by rw [← g3]; exact hlt'
                have hb2 : ¬ (si ≤ e'.born) := by omega
                simp only [Instr.next, Sem.run_bind, hgo, Result.andThen_ok, hgm, Sem.run_ite, hno, hq]
                simp [Question.forced, hb', hb2, hst]
              · rw [g3]; simp
            · cases hl
          · cases hl
        · cases hl
      · cases hl
    · cases hl
  · cases hl

theorem outsA_get {r m since clock : Nat} {seen : List Nat} : ∀ {l : List AEnt} {o : List (AV × H)}, outsA h r m since seen clock l = some o → ∀ (i : Nat) e, l[i]? = some e → e.born < since ∧ ∃ h', h.upd r (.miter (some m) since (seen ++ [e.born]) clock) = some h' ∧ (AV.tuple [.bool true, e.key, e.val], h') ∈ o
  | [], _, _, i, e, hi => by simp at hi
  | a :: l, o, ho, i, e, hi => by
    simp only [outsA] at ho
    split at ho
    · cases ho
    · rename_i hlt
      split at ho
      · rename_i h' o' hu ho'
        cases ho
        cases i with
        | zero =>
          simp at hi
          subst hi
          exact ⟨(blt_iff _ _).1 hlt, h', hu, by simp⟩
        | succ i =>
          obtain ⟨h1, h2, h3, h4⟩ := outsA_get ho' i e (by simpa using hi)
          exact ⟨h1, h2, h3, by simp [h4]⟩
      · cases ho

theorem EntRel.at_ : ∀ {es : List AEnt} {l : List MapEntry}, EntRel Y ρ es l → ∀ (i : Nat) e, l[i]? = some e → ∃ a, es[i]? = some a ∧ conc Y ρ a.key = some e.key ∧ conc Y ρ a.val = some e.val ∧ a.born = e.born
  | [], [], _, i, e, h => by simp at h
  | a :: es, e :: l, ⟨h1, h2, h3, h4⟩, i, e', h => by
    cases i with
    | zero => simp at h; subst h; exact ⟨a, rfl, h1, h2, h3⟩
    | succ i => obtain ⟨a', k⟩ := EntRel.at_ h4 i e' (by simpa using h); exact ⟨a', by simpa using k⟩
  | [], _ :: _, h, _, _, _ => h.elim
  | _ :: _, [], h, _, _, _ => h.elim

theorem nextMany_ok (hr : Rel Y E ρ h w) {it : AV} {ci : Value} {o : List (AV × H)} (ty : TypeId) (hl : nextMany h it = some o) (hi : conc Y ρ it = some ci) : ∃ x ∈ o, Acts Y E ρ h w (Instr.next ci false ty) x.1 x.2 := by
  unfold nextMany at hl
  split at hl
  · rename_i r
    obtain ⟨L, hL, rfl⟩ := conc_ptr hi
    split at hl
    · rename_i m si se la hb
      obtain ⟨L', ob, h1, h2, hsh, m', rfl, hm⟩ := hr.obj r _ hb rfl
      rw [hL] at h1
      cases h1
      obtain ⟨M, hM, rfl⟩ : ∃ M, ρ m = some M ∧ m' = some M.blk := hm
      have hgo : (getObj L.blk).run E.P w = .ok (.mapIter (some M.blk) si se.toArray la) w := run_getObj' h2 (fun _ _ _ h => by cases h)
      have ha : L.addr 0 = ⟨L.blk, 0, none⟩ := by simp [Loc.addr, hsh]
      split at hl
      · rename_i es clock hmb
        obtain ⟨M', l, k1, k2, k3⟩ := hr.mapAt hmb
        rw [hM] at k1
        cases k1
        have hgm : (getObj M.blk).run E.P w = .ok (.map l clock) w := run_getObj' k2 (fun _ _ _ h => by cases h)
        rw [Option.bind_eq_some_iff] at hl
        obtain ⟨_, hguard, hl⟩ := hl
        have hno : ¬ ((!se.toArray.isEmpty && !l.isEmpty && l.all fun e => decide (e.born ≥ la)) = true) := by
          have hall : (l.all fun e => decide (e.born ≥ la)) = allBorn la es := by
            rw [allBorn_rel k3, Array.all_toList]
          rw [hall]
          split at hguard
          · split at hguard
            · cases hguard
            · rename_i hf; rw [hf]; simp
          · rename_i hne
            cases se with
            | nil => simp
            | cons a se =>
              cases es with
              | nil =>
                have := k3.length
                simp only [List.length_nil, Array.length_toList] at this
                have : l = #[] := Array.eq_empty_of_size_eq_zero this
                subst this
                simp
              | cons e es => exact (hne _ _ _ _ rfl rfl).elim
        have hleft : EntRel Y ρ (leftEnts se es) ((l.filter fun e => !se.toArray.contains e.born).toList) := by
          rw [leftEnts_eq, Array.toList_filter]
          have := EntRel.filter (p := fun n => !memN se n) k3
          simpa only [memN_contains] using this
        split at hl
        · rename_i e1 e2 rest hle
          rw [hle] at hleft
          have hlen := hleft.length
          generalize hq : (l.filter fun e => !se.toArray.contains e.born) = left at hleft hlen
          have hsz : 2 ≤ left.size := by
            rw [← Array.length_toList, hlen]
            simp
          have hborn : ∀ e ∈ left, e.born < si := by
            intro e he
            obtain ⟨i, hi⟩ := List.mem_iff_getElem?.1 (Array.mem_toList_iff.2 he)
            obtain ⟨a, a1, _, _, a4⟩ := hleft.at_ i e hi
            rw [← a4]
            exact (outsA_get hl i a a1).1
          have hold : (left.filter fun e => decide (e.born < si)) = left := by
            rw [Array.filter_eq_self]
            intro e he
            simpa using hborn e he
          have hnew : (left.filter fun e => decide (e.born ≥ si)) = #[] := by
            rw [Array.filter_eq_empty_iff]
            intro e he
            have := hborn e he
            simp
            omega
          have hne : left.isEmpty = false := by
            cases hh : left.isEmpty with
            | false => rfl
            | true => rw [Array.isEmpty_iff] at hh; rw [hh] at hsz; simp at hsz
          -- which one is drawn
          have hlt : (w.tape w.drawn (.mapNext left.size)) % left.size < left.size := Nat.mod_lt _ (by omega)
          generalize hj : (w.tape w.drawn (.mapNext left.size)) % left.size = j at hlt
          have hej : left[j]? = some left[j] := Array.getElem?_eq_getElem hlt
          obtain ⟨a, a1, a2, a3, a4⟩ := hleft.at_ j left[j] (by rw [Array.getElem?_toList]; exact hej)
          obtain ⟨_, h', hu, hmem⟩ := outsA_get hl j a a1
          have hr' : Rel Y E ρ h w.drew := hr.of_heap rfl
          have hst : ∀ o', (setObj L.blk o').run E.P w.drew = .ok () (putW w.drew L.blk o') := fun o' => run_setObj' (w := w.drew) h2 (fun _ _ _ h => by cases h)
          refine ⟨_, hmem, .tuple #[.bool true, left[j].key, left[j].val], putW w.drew L.blk (.mapIter (some M.blk) si (se.toArray.push left[j].born) clock), ρ, ?_,
            Goes.trans hr (Goes.of_drawn (w' := w.drew) hr rfl rfl rfl rfl) (Goes.put hr' hb rfl hL hu ⟨hsh, some M.blk, ?_, M, hM, rfl⟩), by simp [conc, concs, a2, a3]⟩
          · rw [ha]
            have hforced : (Question.mapNext left.size).forced = false := by
              simp [Question.forced]; omega
            have hcand : ((if left.isEmpty = true then #[none] else #[]) ++ (left ++ #[]).map some : Array (Option MapEntry)) = left.map some := by
              rw [hne]
              simp
            simp only [Instr.next, Sem.run_bind, hgo, Result.andThen_ok, hgm, Sem.run_ite, hno, hq, hold, hnew, hcand, Array.size_map]
            have hch : (choose (.mapNext left.size)).run E.P w = .ok j w.drew := by
              show (if (Question.mapNext left.size).forced = true then Result.ok 0 w else Result.ok ((Question.mapNext left.size).cut (w.tape w.drawn (.mapNext left.size))) w.drew) = .ok j w.drew
              rw [hforced]
              simp [Question.cut, hj]
            simp [hch, hlt, hst]
          · rw [a4]; simp
        · cases hl
      · cases hl
    · cases hl
  · cases hl

theorem allK_mem {l : List (AV × H)} {k : KV} (hk : allK l k = true) {x : AV × H} (hx : x ∈ l) : k x.1 x.2 = true := by
  induction l with
  | nil => cases hx
  | cons a l ih =>
    have e : allK (a :: l) k = Bool.rec (motive := fun _ => Bool) false (allK l k) (k a.1 a.2) := rfl
    rw [e] at hk
    cases ha : k a.1 a.2 with
    | false => rw [ha] at hk; cases hk
    | true =>
      rw [ha] at hk
      rcases List.mem_cons.1 hx with rfl | hx
      · exact ha
      · exact ih hk hx

theorem lastN_eq : ∀ l : List Nat, lastN l = l.getLast?
  | [] => rfl
  | [a] => rfl
  | _ :: b :: r => by
    rw [List.getLast?_cons_cons]
    exact lastN_eq (b :: r)

theorem findBorn_ok {s : Nat} : ∀ {es : List AEnt} {l : List MapEntry} {e : AEnt}, EntRel Y ρ es l → findBorn s es = some e → ∃ x, l.find? (fun y => y.born == s) = some x ∧ conc Y ρ e.key = some x.key ∧ conc Y ρ e.val = some x.val
  | [], _, _, _, h => by cases h
  | _ :: _, [], _, h, _ => h.elim
  | a :: r, x :: l, e, ⟨h1, h2, h3, h4⟩, h => by
    simp only [findBorn] at h
    cases hb : Nat.beq a.born s with
    | true =>
      rw [hb] at h
      cases h
      have := Nat.eq_of_beq_eq_true hb
      refine ⟨x, ?_, h1, h2⟩
      rw [List.find?_cons_of_pos (by simp [← h3, this])]
    | false =>
      rw [hb] at h
      obtain ⟨y, k1, k2⟩ := findBorn_ok h4 h
      have := Nat.ne_of_beq_eq_false hb
      refine ⟨y, ?_, k2⟩
      rw [List.find?_cons_of_neg (by simp [← h3, this])]
      exact k1

theorem entry_ok (hr : Rel Y E ρ h w) {it v : AV} {cit : Value} (hl : entryA h it = some v) (hc : conc Y ρ it = some cit) : Yields Y E ρ w (Instr.entry cit) v := by
  unfold entryA at hl
  split at hl
  · rename_i r
    obtain ⟨L, hL, rfl⟩ := conc_ptr hc
    split at hl
    · rename_i m si se st hb
      obtain ⟨L', ob, h1, h2, hsh, m', rfl, hm⟩ := hr.obj r _ hb rfl
      rw [hL] at h1
      cases h1
      obtain ⟨M, hM, rfl⟩ : ∃ M, ρ m = some M ∧ m' = some M.blk := hm
      split at hl
      · rename_i stamp es clock hlast hmb
        obtain ⟨M', l, k1, k2, k3⟩ := hr.mapAt hmb
        rw [hM] at k1
        cases k1
        split at hl
        · rename_i e hck hf
          cases hl
          have hck' := Nat.eq_of_beq_eq_true hck
          subst hck'
          obtain ⟨x, f1, f2, f3⟩ := findBorn_ok k3 hf
          have hgo : (getObj L.blk).run E.P w = .ok (.mapIter (some M.blk) si se.toArray clock) w := run_getObj' h2 (fun _ _ _ h => by cases h)
          have hgm : (getObj M.blk).run E.P w = .ok (.map l clock) w := run_getObj' k2 (fun _ _ _ h => by cases h)
          have ha : L.addr 0 = ⟨L.blk, 0, none⟩ := by simp [Loc.addr, hsh]
          have hback : se.toArray.back? = some stamp := by rw [List.back?_toArray, ← lastN_eq, hlast]
          have hfind : l.find? (fun y => y.born == stamp) = some x := by rw [← Array.find?_toList]; exact f1
          refine ⟨.tuple #[x.key, x.val], ?_, by simp [conc, concs, f2, f3]⟩
          rw [ha]
          simp [Instr.entry, hgo, hback, hgm, hfind]
        · cases hl
      · cases hl
    · cases hl
  · cases hl

end
end Go.AE
