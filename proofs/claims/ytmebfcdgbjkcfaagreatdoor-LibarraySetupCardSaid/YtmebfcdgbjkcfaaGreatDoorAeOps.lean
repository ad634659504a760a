/-
  The operations that only compute.
-/
import Derived.Test.YtmebfcdgbjkcfaaGreatDoorAeSym
namespace Go.AE

section
variable {Y : Sy} {E : Env} {ρ : Rho} {w : World}

/-- a value of the model's for a value of the evaluator's -/
def Yields (Y : Sy) (E : Env) (ρ : Rho) (w : World) (s : Sem Value) (v : AV) : Prop := ∃ cv, s.run E.P w = .ok cv w ∧ conc Y ρ v = some cv

theorem pick_ok {c a b v : AV} {cc ca cb : Value} (h : pickA c a b = some v) (hc : conc Y ρ c = some cc) (ha : conc Y ρ a = some ca) (hb : conc Y ρ b = some cb) :
    Yields Y E ρ w (do pure (if ← asBool cc then ca else cb)) v := by
  unfold pickA at h
  split at h
  · cases h; cases hc; exact ⟨ca, by simp [asBool], ha⟩
  · cases h; cases hc; exact ⟨cb, by simp [asBool], hb⟩
  · rename_i e ks e' ks'
    split at h
    · rename_i h1 h2
      cases h
      obtain rfl := eqX_eq h1
      obtain rfl := eqIs_eq h2
      cases hc
      cases hb
      simp only [conc] at ha
      cases hi : inV (e.val Y) ks with
      | true =>
        rw [hi, if_pos rfl] at ha
        cases ha
        exact ⟨.bool false, by simp [asBool, Q.val, hi], rfl⟩
      | false => exact ⟨.bool false, by simp [asBool, Q.val, hi], rfl⟩
    · cases h
  · cases h

theorem fieldAddr_ok (hE : EnvOk Y E) {s : TypeId} {f : Nat} {x v : AV} {cx : Value} (h : fieldAddrP E s f x = some v) (hx : conc Y ρ x = some cx) : Yields Y E ρ w (Instr.fieldAt s cx f) v := by
  unfold fieldAddrP at h
  cases hund : E.und s with
  | none => rw [hund] at h; cases h
  | some d =>
    rw [hund] at h
    cases d with
    | struct fields =>
      dsimp only at h
      cases hfd : fields.toList[f]? with
      | none => rw [hfd] at h; cases h
      | some fd =>
        rw [hfd] at h
        dsimp only at h
        cases hn : E.size fd.type with
        | none => rw [hn] at h; cases h
        | some n =>
          rw [hn] at h
          dsimp only at h
          cases hn0 : Nat.beq n 0 with
          | true => rw [hn0] at h; cases h
          | false =>
            rw [hn0] at h
            dsimp only at h
            cases hp : asP x with
            | none => rw [hp] at h; cases h
            | some p =>
              rw [hp] at h
              rw [asP_eq hp] at hx
              simp only [conc, Option.map_eq_some_iff] at hx
              obtain ⟨L, hL, rfl⟩ := hx
              simp only [forceN_eq] at h
              cases h
              have hn1 : n ≠ 0 := Nat.ne_of_beq_eq_false hn0
              have hfd' : fields[f]? = some fd := by rw [← hfd, Array.getElem?_toList]
              refine ⟨.pointer (some (L.addr (p.2 + fd.offset))), ?_, by simp [conc, hL]⟩
              simp [Instr.fieldAt, run_und hE hund, hfd', Instr.sureAddr, fieldPlace, run_size hE hn, hn1, addr_add]
    | _ => cases h

theorem part_ok (hE : EnvOk Y E) {t : TypeId} {l : List AV} {cs : List Value} {off : Nat} {v : AV} (h : partA E t l off = some v) (hl : concs Y ρ l = some cs) (hcell : l.all isCell = true) :
    Yields Y E ρ w (part t cs.toArray off) v := by
  unfold partA at h
  split at h
  · cases h
  · rename_i d hd
    split at h
    · rename_i hagg
      split at h
      · rename_i n hn
        cases h
        have hsub : ((l.drop off).take n).all isCell = true := by
          rw [List.all_eq_true] at hcell ⊢
          exact fun x hx => hcell x (List.mem_of_mem_drop (List.mem_of_mem_take hx))
        refine ⟨.agg ((cs.drop off).take n).toArray, ?_, by simp [conc, hsub, concs_take (concs_drop hl off) n]⟩
        simp [part, run_isAgg hE hd, hagg, run_size hE hn]
      · cases h
    · rename_i hagg
      obtain ⟨cv, h1, h2⟩ := concs_getElem hl off v h
      refine ⟨cv, ?_, h1⟩
      simp [part, run_isAgg hE hd, hagg, h2]

theorem conc_agg {l : List AV} {c : Value} (h : conc Y ρ (.agg l) = some c) : ∃ cs, concs Y ρ l = some cs ∧ c = .agg cs.toArray ∧ l.all isCell = true := by
  simp only [conc] at h
  split at h
  · rename_i h0
    split at h
    · rename_i cs h1; cases h; exact ⟨cs, h1, rfl, h0⟩
    · cases h
  · cases h

theorem conc_tuple {l : List AV} {c : Value} (h : conc Y ρ (.tuple l) = some c) : ∃ cs, concs Y ρ l = some cs ∧ c = .tuple cs.toArray := by
  simp only [conc] at h
  split at h
  · rename_i cs h1; cases h; exact ⟨cs, h1, rfl⟩
  · cases h

theorem field_ok (hE : EnvOk Y E) {t : TypeId} {f : Nat} {x v : AV} {cx : Value} (h : fieldA E t x f = some v) (hx : conc Y ρ x = some cx) : Yields Y E ρ w (Instr.field t cx f) v := by
  unfold fieldA at h
  split at h
  · rename_i fields l hund
    split at h
    · rename_i fd hfd
      obtain ⟨cs, h1, rfl, h2⟩ := conc_agg hx
      obtain ⟨cv, h3, h4⟩ := part_ok (w := w) hE h h1 h2
      have hfd' : fields[f]? = some fd := by rw [← hfd, Array.getElem?_toList]
      exact ⟨cv, by simp [Instr.field, run_und hE hund, hfd', asAgg, h3], h4⟩
    · cases h
  · cases h

theorem extract_ok {x v : AV} {i : Nat} {cx : Value} (h : extractA x i = some v) (hx : conc Y ρ x = some cx) : Yields Y E ρ w (Instr.extract cx i) v := by
  unfold extractA at h
  split at h
  · obtain ⟨cs, h1, rfl⟩ := conc_tuple hx
    obtain ⟨cv, h2, h3⟩ := concs_getElem h1 i v h
    exact ⟨cv, by simp [Instr.extract, h3], h2⟩
  · cases h

theorem conc_ptr {b o : Nat} {c : Value} (h : conc Y ρ (.ptr b o) = some c) : ∃ L, ρ b = some L ∧ c = .pointer (some (L.addr o)) := by
  simp only [conc, Option.map_eq_some_iff] at h
  obtain ⟨L, h1, h2⟩ := h
  exact ⟨L, h1, h2.symm⟩
theorem conc_slice {b o n c : Nat} {cv : Value} (h : conc Y ρ (.slice b o n c) = some cv) : ∃ L, ρ b = some L ∧ cv = .slice (some (L.addr o)) n c := by
  simp only [conc, Option.map_eq_some_iff] at h
  obtain ⟨L, h1, h2⟩ := h
  exact ⟨L, h1, h2.symm⟩
theorem conc_gslice' {b o n p : Nat} {cv : Value} (h : conc Y ρ (.gslice b o n p) = some cv) : ∃ L, ρ b = some L ∧ cv = .slice (some (L.addr o)) n (L.cap - p) ∧ n ≤ L.cap - p := by
  simp only [conc, Option.bind_eq_some_iff] at h
  obtain ⟨L, h1, h2⟩ := h
  split at h2
  · rename_i hle; cases h2; exact ⟨L, h1, rfl, hle⟩
  · cases h2
theorem conc_gslice {b o n p : Nat} {cv : Value} (h : conc Y ρ (.gslice b o n p) = some cv) : ∃ L, ρ b = some L ∧ cv = .slice (some (L.addr o)) n (L.cap - p) :=
  let ⟨L, h1, h2, _⟩ := conc_gslice' h
  ⟨L, h1, h2⟩
theorem conc_oslice {i : Nat} {cv : Value} (h : conc Y ρ (.oslice i) = some cv) : cv = .slice (Y.sls i).1 (Y.sls i).2.1 (Y.sls i).2.2 := by
  simp only [conc] at h
  cases h
  rfl

theorem conc_uslice {i b o lo hi : Nat} {cv : Value} (h : conc Y ρ (.uslice i b o lo hi) = some cv) :
    cv = .slice (Y.sls i).1 (Y.sls i).2.1 (Y.sls i).2.2 ∧ lo ≤ (Y.sls i).2.1 ∧ (Y.sls i).2.1 ≤ hi ∧
      (lo ≠ 0 → ∃ L, ρ b = some L ∧ (Y.sls i).1 = some (L.addr o) ∧ (Y.sls i).2.1 ≤ L.cap ∧ (Y.sls i).2.2 = L.cap) := by
  simp only [conc] at h
  split at h
  · rename_i h1
    split at h
    · rename_i h2
      cases h
      exact ⟨rfl, h1.1, h1.2, fun h3 => absurd h2 h3⟩
    · rw [Option.bind_eq_some_iff] at h
      obtain ⟨L, hL, h⟩ := h
      split at h
      · rename_i h3
        cases h
        exact ⟨rfl, h1.1, h1.2, fun _ => ⟨L, hL, h3.1, h3.2.1, h3.2.2⟩⟩
      · cases h
  · cases h

theorem conc_eslice {b o l s p : Nat} {cv : Value} (h : conc Y ρ (.eslice b o l s p) = some cv) : ∃ a c, cv = .slice (some a) 0 c := by
  simp only [conc, Option.bind_eq_some_iff] at h
  obtain ⟨L, _, h⟩ := h
  split at h
  · split at h <;> (cases h; exact ⟨_, _, rfl⟩)
  · cases h
theorem conc_of_gslice {b o n p : Nat} {L : Loc} (hL : ρ b = some L) (hle : n ≤ L.cap - p) : conc Y ρ (.gslice b o n p) = some (.slice (some (L.addr o)) n (L.cap - p)) := by
  simp [conc, hL, hle]
theorem conc_map {b : Nat} {cv : Value} (h : conc Y ρ (.map b) = some cv) : ∃ L, ρ b = some L ∧ cv = .map (some L.blk) := by
  simp only [conc, Option.map_eq_some_iff] at h
  obtain ⟨L, h1, h2⟩ := h
  exact ⟨L, h1, h2.symm⟩
theorem conc_iface {t : TypeId} {v : AV} {cv : Value} (h : conc Y ρ (.iface t v) = some cv) : ∃ c, conc Y ρ v = some c ∧ cv = .iface t c := by
  simp only [conc] at h
  split at h
  · rename_i c h1; cases h; exact ⟨c, h1, rfl⟩
  · cases h

theorem indexAddr_ok (hE : EnvOk Y E) {t : TypeId} {x i v : AV} {cx ci : Value} (h : indexAddrP E t x i = some v) (hx : conc Y ρ x = some cx) (hi : conc Y ρ i = some ci) : Yields Y E ρ w (Instr.indexAt t cx ci) v := by
  unfold indexAddrP at h
  cases hd : E.und t with
  | none => rw [hd] at h; cases h
  | some d =>
    rw [hd] at h
    dsimp only at h
    cases he : elemOfD d with
    | none => rw [he] at h; cases h
    | some e =>
      rw [he] at h
      dsimp only at h
      cases hs : E.size e with
      | none => rw [hs] at h; cases h
      | some s =>
        rw [hs] at h
        dsimp only at h
        cases hq : spanOf d x with
        | none => rw [hq] at h; cases h
        | some q =>
          rw [hq] at h
          cases hn : asI i with
          | none => simp only [hn] at h; cases h
          | some n =>
            simp only [hn] at h
            cases hm : natI n with
            | none => simp only [hm] at h; cases h
            | some m =>
              simp only [hm] at h
              cases hlt : Nat.blt m q.2.2 with
              | false => simp only [hlt] at h; cases h
              | true =>
                simp only [hlt, forceN_eq] at h
                have hlt' := (blt_iff _ _).1 hlt
                have hn' := natI_eq hm
                subst hn'
                rw [asI_eq hn] at hi
                cases hi
                have hcond : 0 ≤ (m : Int) ∧ (m : Int) < (q.2.2 : Int) := by omega
                cases h
                have hund := run_und (w := w) hE hd
                have hsz := run_size (w := w) hE hs
                unfold spanOf at hq
                split at hq
                · cases hq
                  cases he
                  obtain ⟨L, hL, rfl⟩ := conc_slice hx
                  refine ⟨.pointer (some (L.addr _)), ?_, by simp only [conc, hL]; rfl⟩
                  simp only [Instr.indexAt, asIntOf, Sem.run_bind, Sem.run_pure, Result.andThen_ok, hund, Sem.run_ite]
                  rw [if_pos hcond]
                  simp [hsz, addr_add]
                · cases hq
                  cases he
                  obtain ⟨L, hL, rfl⟩ := conc_gslice hx
                  refine ⟨.pointer (some (L.addr _)), ?_, by simp only [conc, hL]; rfl⟩
                  simp only [Instr.indexAt, asIntOf, Sem.run_bind, Sem.run_pure, Result.andThen_ok, hund, Sem.run_ite]
                  rw [if_pos hcond]
                  simp [hsz, addr_add]
                · cases hq
                  cases he
                  obtain ⟨rfl, g1, _, g2⟩ := conc_uslice hx
                  have hn0 : ∀ {x : Nat}, m < x → x ≠ 0 := fun h => by omega
                  obtain ⟨L, hL, ha, _, _⟩ := g2 (hn0 hlt')
                  refine ⟨.pointer (some (L.addr _)), ?_, by simp only [conc, hL]; rfl⟩
                  rw [ha]
                  simp only [Instr.indexAt, asIntOf, Sem.run_bind, Sem.run_pure, Result.andThen_ok, hund, Sem.run_ite]
                  rw [if_pos (by dsimp only at hcond; omega)]
                  simp [hsz, addr_add]
                · cases hq
                  cases he
                  obtain ⟨L, hL, rfl⟩ := conc_ptr hx
                  refine ⟨.pointer (some (L.addr _)), ?_, by simp only [conc, hL]; rfl⟩
                  simp only [Instr.indexAt, asIntOf, Instr.sureAddr, Sem.run_bind, Sem.run_pure, Result.andThen_ok, hund, Sem.run_ite]
                  rw [if_pos hcond]
                  simp [hsz, addr_add]
                · cases hq

theorem indexK_ok (hE : EnvOk Y E) {t : TypeId} {x i v : AV} {cx ci : Value} (h : indexK E t x i = some v) (hx : conc Y ρ x = some cx) (hi : conc Y ρ i = some ci) : Yields Y E ρ w (Instr.index t cx ci) v := by
  unfold indexK at h
  split at h
  · rename_i n hn
    obtain ⟨k, rfl⟩ := conc_anyI hn hi
    split at h
    · cases h
    · rename_i m hm
      have hn' := natI_eq hm
      subst hn'
      split at h
      · rename_i s hund
        obtain ⟨hok, rfl⟩ := conc_str hx
        split at h
        · rename_i b hb
          cases h
          have hlt : m < s.length := by
            rcases Nat.lt_or_ge m s.length with h' | h'
            · exact h'
            · rw [List.getElem?_eq_none h'] at hb; cases hb
          have hb256 : b < 256 := by
            have := List.all_eq_true.1 hok b (List.mem_of_getElem? hb)
            simpa using this
          refine ⟨.int .u8 b, ?_, rfl⟩
          have hget : (bytesV s)[m]? = some (UInt8.ofNat b) := by
            have h1 : (bytesV s).data[m]? = some (UInt8.ofNat b) := by simp [bytesV, hb]
            have h2 : m < (bytesV s).size := by rw [bytesV_size]; exact hlt
            rw [Array.getElem?_eq_some_iff] at h1
            obtain ⟨h3, h4⟩ := h1
            have h5 : (bytesV s)[m]? = some (bytesV s)[m] := getElem?_pos (bytesV s) m h2
            rw [h5, ← h4]
            rfl
          simp only [Instr.index, asIntOf, Sem.run_bind, Sem.run_pure, Result.andThen_ok, run_und hE hund]
          have h0 : (0 : Int) ≤ (m : Int) := by omega
          simp only [h0, if_true, Int.toNat_natCast, hget, Sem.run_pure, toNat_ofNat hb256]
        · cases h
      · rename_i si lo hi hund
        obtain ⟨rfl, a1, _⟩ := conc_sstr hx
        split at h
        · rename_i hlt
          cases h
          have hlt' : m < (Y.strs si).size := Nat.lt_of_lt_of_le ((blt_iff _ _).1 hlt) a1
          have hget : (Y.strs si)[m]? = some (Y.strs si)[m] := getElem?_pos (Y.strs si) m hlt'
          have hval : SX.val Y (.byte si m) = ((Y.strs si)[m].toNat : Int) := by
            show (((Y.strs si)[m]?.getD 0).toNat : Int) = _
            rw [hget]
            rfl
          have hb := (Y.strs si)[m].toNat_lt
          refine ⟨.int .u8 ((Y.strs si)[m].toNat : Int), ?_, ?_⟩
          · simp only [Instr.index, asIntOf, Sem.run_bind, Sem.run_pure, Result.andThen_ok, run_und hE hund]
            have h0 : (0 : Int) ≤ (m : Int) := by omega
            simp only [h0, if_true, Int.toNat_natCast, hget, Sem.run_pure]
          · rw [← hval]
            exact mkSym_ok hE (e := .byte si m) (by rw [hval]; omega) (by rw [hval]; omega)
        · cases h
      · rename_i len elem l hund
        obtain ⟨cs, h1, rfl, h2⟩ := conc_agg hx
        split at h
        · rename_i s hlt hs
          have hlt' := (blt_iff _ _).1 hlt
          obtain ⟨cv, h3, h4⟩ := part_ok (w := w) hE h h1 h2
          refine ⟨cv, ?_, h4⟩
          have hcond : 0 ≤ (m : Int) ∧ (m : Int) < (len : Int) := by omega
          simp only [Instr.index, asIntOf, Sem.run_bind, Sem.run_pure, Result.andThen_ok, run_und hE hund, Sem.run_ite]
          rw [if_pos hcond]
          simp only [run_size hE hs, Result.andThen_ok, Int.toNat_natCast]
          exact h3
        · cases h
      · cases h
  · cases h

theorem index_ok (hE : EnvOk Y E) {t : TypeId} {x i v : AV} {cx ci : Value} (h : indexA E t x i = some v) (hx : conc Y ρ x = some cx) (hi : conc Y ρ i = some ci) : Yields Y E ρ w (Instr.index t cx ci) v := by
  unfold indexA at h
  split at h
  · rename_i h0
    cases h
    exact indexK_ok hE h0 hx hi
  · split at h
    · rename_i hu
      obtain ⟨s, n, k, b, h1, h2, h3, h4⟩ := hE.orc _ (orcIdx_mem h)
      obtain rfl := Option.some.inj (hx.symm.trans (h1 ρ))
      obtain rfl := Option.some.inj (hi.symm.trans (h2 ρ))
      refine ⟨_, ?_, h4 ρ⟩
      have h0 : (0 : Int) ≤ (n : Int) := by omega
      simp only [Instr.index, asIntOf, Sem.run_bind, Sem.run_pure, Result.andThen_ok, run_und hE hu, h0, if_true, Int.toNat_natCast, h3]
    · cases h

theorem nilCheck_ok {x v : AV} {cx : Value} (h : nilCheckA x = some v) (hx : conc Y ρ x = some cx) (o : Oper) (ρe : Operand → Value) (y : Operand) (ho : o.op = .nilCheck y) (hy : ρe y = cx) :
    ∃ cv, (execOp ρe o).run E.P w = .ok (.value cv) w ∧ conc Y ρ v = some cv := by
  have hv : v = x := by
    cases x <;> first | (cases h; done) | (cases h; rfl) | skip
    case func fn a c =>
      cases fn <;> first | (cases h; done) | (cases h; rfl)
  subst hv
  refine ⟨cx, ?_, hx⟩
  simp only [execOp, ho, hy]
  cases v with
  | nilptr => cases h
  | niliface => cases h
  | nilfunc => cases h
  | func fn a c =>
    simp only [conc] at hx
    split at hx
    · rename_i fn' a' c' h1 _ _
      cases hx
      cases fn with
      | func f => cases h1; rfl
      | yield l =>
        simp only [concFn, Option.map_eq_some_iff] at h1
        obtain ⟨L, _, rfl⟩ := h1
        rfl
      | method n => cases h
      | methodOf t n => cases h
      | via t p f b => cases h
    · cases hx
  | ptr b o => obtain ⟨L, _, rfl⟩ := conc_ptr hx; rfl
  | slice b o n c => obtain ⟨L, _, rfl⟩ := conc_slice hx; rfl
  | gslice b o n c => obtain ⟨L, _, rfl⟩ := conc_gslice hx; rfl
  | map b => obtain ⟨L, _, rfl⟩ := conc_map hx; rfl
  | str s => obtain ⟨_, rfl⟩ := conc_str hx; rfl
  | iface t u => obtain ⟨c, _, rfl⟩ := conc_iface hx; rfl
  | agg l => obtain ⟨cs, _, rfl, _⟩ := conc_agg hx; rfl
  | tuple l => obtain ⟨cs, _, rfl⟩ := conc_tuple hx; rfl
  | sint k e lo hi => obtain ⟨rfl, _, _⟩ := symOf_conc (v := .sint k e lo hi) rfl hx; rfl
  | sstr i lo hi => obtain ⟨rfl, _, _⟩ := conc_sstr hx; rfl
  | eslice b o l s p => obtain ⟨a, c, rfl⟩ := conc_eslice hx; rfl
  | oslice i => cases conc_oslice hx; rfl
  | opq i => cases h
  | «when» e ks u => cases h
  | uslice i b o lo hi => cases (conc_uslice hx).1; rfl
  | _ => cases hx; rfl

theorem unOp_ok {op : UnOp} {x v : AV} {cx : Value} (h : unOpA op x = some v) (hx : conc Y ρ x = some cx) : Yields Y E ρ w (Op.unary op cx) v := by
  unfold unOpA at h
  split at h
  · cases hb : asB x with
    | none => rw [hb] at h; cases h
    | some b =>
      rw [hb] at h
      rw [asB_eq hb] at hx
      cases hx
      cases h
      exact ⟨.bool !b, rfl, by cases b <;> rfl⟩
  · split at h
    · rename_i k n hk
      have := conc_kindOf hk hx
      subst this
      simp only [someI, forceI_eq] at h
      cases h
      refine ⟨.int k (k.wrap (0 - n)), ?_, conc_mkInt _ _⟩
      simp [Op.unary, Op.intArith]
    · cases h
  · cases h

theorem convert_ok (hE : EnvOk Y E) {s d : TypeId} {x v : AV} {cx : Value} (h : convertA E s d x = some v) (hx : conc Y ρ x = some cx) : Yields Y E ρ w (convert s d cx) v := by
  unfold convertA at h
  split at h
  · rename_i ds str h1 h2
    cases h
    obtain ⟨hok, rfl⟩ := conc_str hx
    refine ⟨.string (bytesV str), ?_, conc_of_str hok⟩
    simp only [convert, Sem.run_bind, run_und hE h1, run_und hE h2, Result.andThen_ok]
    rfl
  · rename_i ds k h1 h2
    split at h
    · rename_i n hn
      obtain ⟨k', rfl⟩ := conc_anyI hn hx
      simp only [someI, forceI_eq] at h
      cases h
      refine ⟨.int k (k.wrap n), ?_, conc_mkInt _ _⟩
      simp only [convert, Sem.run_bind, run_und hE h1, run_und hE h2, Result.andThen_ok, Conv.intToInt, Sem.run_pure]
    · split at h
      · rename_i e lo hi _
        cases h
        obtain ⟨rfl, a1, a2⟩ := symOf_conc (v := .sint _ e lo hi) rfl hx
        refine ⟨.int k (k.wrap (e.val Y)), ?_, symConv_ok hE a1 a2⟩
        simp only [convert, Sem.run_bind, run_und hE h1, run_und hE h2, Result.andThen_ok, Conv.intToInt, Sem.run_pure]
      · cases h
  · cases h

theorem makeIface_ok (hE : EnvOk Y E) {t : TypeId} {x v : AV} {cx : Value} (h : makeIfaceA E t x = some v) (hx : conc Y ρ x = some cx) : Yields Y E ρ w (Instr.makeInterface t cx) v := by
  unfold makeIfaceA at h
  split at h
  · cases h
  · rename_i d hne hd
    cases h
    refine ⟨.iface t cx, ?_, by simp [conc, hx]⟩
    simp only [Instr.makeInterface, Sem.run_bind, run_und hE hd, Result.andThen_ok]
    cases d <;> first | rfl | exact absurd rfl (hne _)
  · cases h

theorem cap_ok (hE : EnvOk Y E) {t ty : TypeId} {x v : AV} {cx : Value} {ts : Array TypeId} {args : Array Value} (h : capA E t x = some v) (hx : conc Y ρ x = some cx) (ht : ts[0]? = some t) (ha : args[0]? = some cx) : Yields Y E ρ w (Builtin.cap_ ts ty args) v := by
  unfold capA at h
  split at h
  · rename_i hd
    cases h
    obtain ⟨L, _, rfl⟩ := conc_slice hx
    exact ⟨_, by simp [Builtin.cap_, ht, ha, run_und hE hd, goInt], rfl⟩
  · rename_i hd
    cases h
    cases hx
    exact ⟨_, by simp [Builtin.cap_, ht, ha, run_und hE hd, goInt], rfl⟩
  · rename_i n e hd
    cases h
    exact ⟨_, by simp [Builtin.cap_, ht, ha, run_und hE hd, goInt], rfl⟩
  · cases h

theorem maxFrom_ok : ∀ {l : List AV} {a : Int} {v : AV} {cs : List Value}, maxFrom a l = some v → concs Y ρ l = some cs → Yields Y E ρ w (cs.foldlM Builtin.max2 (.int .i64 a)) v
  | [], a, v, cs, h, hc => by
    rw [concs_nil] at hc
    subst hc
    cases h
    exact ⟨_, rfl, rfl⟩
  | x :: r, a, v, cs, h, hc => by
    obtain ⟨cx, cr, h1, h2, rfl⟩ := concs_cons.1 hc
    simp only [maxFrom] at h
    split at h
    · rename_i b hb
      rw [asI_eq hb] at h1
      cases h1
      obtain ⟨cv, h3, h4⟩ := maxFrom_ok h h2
      refine ⟨cv, ?_, h4⟩
      simp only [List.foldlM_cons, Builtin.max2, pure_bind]
      rw [ltI_eq] at h3
      have e : (if b > a then b else a) = (match decide (a < b) with | true => b | false => a) := by
        by_cases hab : a < b <;> simp [hab]
      rw [e]
      exact h3
    · cases h

theorem max_ok {l : List AV} {v : AV} {cs : List Value} {ts : Array TypeId} {ty : TypeId} (h : maxA l = some v) (hc : concs Y ρ l = some cs) : Yields Y E ρ w (Builtin.max_ ts ty cs.toArray) v := by
  unfold maxA at h
  split at h
  · rename_i x r
    obtain ⟨cx, cr, h1, h2, rfl⟩ := concs_cons.1 hc
    split at h
    · rename_i a ha
      rw [asI_eq ha] at h1
      cases h1
      obtain ⟨cv, h3, h4⟩ := maxFrom_ok (w := w) h h2
      exact ⟨cv, by simpa [Builtin.max_] using h3, h4⟩
    · cases h
  · cases h

theorem minFrom_ok : ∀ {l : List AV} {a : Int} {v : AV} {cs : List Value}, minFrom a l = some v → concs Y ρ l = some cs → Yields Y E ρ w (cs.foldlM Builtin.min2 (.int .i64 a)) v
  | [], a, v, cs, h, hc => by
    rw [concs_nil] at hc
    subst hc
    cases h
    exact ⟨_, rfl, rfl⟩
  | x :: r, a, v, cs, h, hc => by
    obtain ⟨cx, cr, h1, h2, rfl⟩ := concs_cons.1 hc
    simp only [minFrom] at h
    split at h
    · rename_i b hb
      rw [asI_eq hb] at h1
      cases h1
      obtain ⟨cv, h3, h4⟩ := minFrom_ok h h2
      refine ⟨cv, ?_, h4⟩
      simp only [List.foldlM_cons, Builtin.min2, pure_bind]
      rw [ltI_eq] at h3
      have e : (if b < a then b else a) = (match decide (b < a) with | true => b | false => a) := by
        by_cases hab : b < a <;> simp [hab]
      rw [e]
      exact h3
    · cases h

theorem min_ok {l : List AV} {v : AV} {cs : List Value} {ts : Array TypeId} {ty : TypeId} (h : minA l = some v) (hc : concs Y ρ l = some cs) : Yields Y E ρ w (Builtin.min_ ts ty cs.toArray) v := by
  unfold minA at h
  split at h
  · rename_i x r
    obtain ⟨cx, cr, h1, h2, rfl⟩ := concs_cons.1 hc
    split at h
    · rename_i a ha
      rw [asI_eq ha] at h1
      cases h1
      obtain ⟨cv, h3, h4⟩ := minFrom_ok (w := w) h h2
      exact ⟨cv, by simpa [Builtin.min_] using h3, h4⟩
    · cases h
  · cases h

theorem pickLt_ok (w : World) (hE : EnvOk Y E) {x y : AV} {b : Bool} {cx cy : Value} (h : pickLt E x y = some b) (hx : conc Y ρ x = some cx) (hy : conc Y ρ y = some cy) : ∃ k m n, cx = .int k m ∧ cy = .int k n ∧ b = decide (m < n) := by
  unfold pickLt at h
  split at h
  · rename_i k e lo hi k' e' lo' hi' h1 h2
    obtain ⟨rfl, l1, l2⟩ := symOf_conc h1 hx
    obtain ⟨rfl, l3, l4⟩ := symOf_conc h2 hy
    split at h
    · rename_i hk
      have := eqKind_eq hk
      subst this
      refine ⟨k, _, _, rfl, rfl, ?_⟩
      split at h
      · rename_i b' hb
        cases h
        exact ltSym_ok hb l1 l2 l3 l4
      · split at h
        · rename_i b' hb
          cases h
          obtain ⟨dx, dy, dz, k1, k2, k3, _, k5⟩ := hE.orc _ (orcBin_mem hb)
          obtain rfl := Option.some.inj (hx.symm.trans (k1 ρ))
          obtain rfl := Option.some.inj (hy.symm.trans (k2 ρ))
          have e3 : dz = .bool b := (Option.some.inj (k3 ρ)).symm
          subst e3
          have k6 := k5 E.P 0 w
          simp [binOp, Op.intCmp] at k6
          exact k6.symm
        · cases h
    · cases h
  · cases h

theorem minO_ok (hE : EnvOk Y E) {l : List AV} {v : AV} {cs : List Value} {ts : Array TypeId} {ty : TypeId} (h : minO E l = some v) (hc : concs Y ρ l = some cs) : Yields Y E ρ w (Builtin.min_ ts ty cs.toArray) v := by
  unfold minO at h
  split at h
  · rename_i h0
    cases h
    exact min_ok h0 hc
  · split at h
    · rename_i x y
      obtain ⟨cx, r, h1, h2, rfl⟩ := concs_cons.1 hc
      obtain ⟨cy, r', h3, h4, rfl⟩ := concs_cons.1 h2
      rw [concs_nil] at h4
      subst h4
      split at h
      · rename_i hb
        cases h
        obtain ⟨k, m, n, rfl, rfl, hd⟩ := pickLt_ok w hE hb h3 h1
        have hd' : m < n := of_decide_eq_true hd.symm
        exact ⟨_, by simp [Builtin.min_, Builtin.min2, hd'], h3⟩
      · rename_i hb
        cases h
        obtain ⟨k, m, n, rfl, rfl, hd⟩ := pickLt_ok w hE hb h3 h1
        have hd' : ¬ m < n := of_decide_eq_false hd.symm
        exact ⟨_, by simp [Builtin.min_, Builtin.min2, hd'], h1⟩
      · cases h
    · cases h

theorem maxO_ok (hE : EnvOk Y E) {l : List AV} {v : AV} {cs : List Value} {ts : Array TypeId} {ty : TypeId} (h : maxO E l = some v) (hc : concs Y ρ l = some cs) : Yields Y E ρ w (Builtin.max_ ts ty cs.toArray) v := by
  unfold maxO at h
  split at h
  · rename_i h0
    cases h
    exact max_ok h0 hc
  · split at h
    · rename_i x y
      obtain ⟨cx, r, h1, h2, rfl⟩ := concs_cons.1 hc
      obtain ⟨cy, r', h3, h4, rfl⟩ := concs_cons.1 h2
      rw [concs_nil] at h4
      subst h4
      split at h
      · rename_i hb
        cases h
        obtain ⟨k, m, n, rfl, rfl, hd⟩ := pickLt_ok w hE hb h1 h3
        have hd' : m < n := of_decide_eq_true hd.symm
        exact ⟨_, by simp [Builtin.max_, Builtin.max2, hd'], h3⟩
      · rename_i hb
        cases h
        obtain ⟨k, m, n, rfl, rfl, hd⟩ := pickLt_ok w hE hb h1 h3
        have hd' : ¬ m < n := of_decide_eq_false hd.symm
        exact ⟨_, by simp [Builtin.max_, Builtin.max2, hd'], h1⟩
      · cases h
    · cases h

theorem typeAssert_ok (hE : EnvOk Y E) {x v : AV} {xt a : TypeId} {ok : Bool} {cx : Value} (h : typeAssertA E x a ok = some v) (hx : conc Y ρ x = some cx) : Yields Y E ρ w (Instr.typeAssert cx xt a ok) v := by
  unfold typeAssertA at h
  split at h
  · cases h
  · rename_i d hne hd
    cases hx
    split at h
    · split at h
      · rename_i z hz
        cases h
        obtain ⟨cz, h1, h2⟩ := run_zero (Y := Y) (ρ := ρ) (w := w) hE hz
        refine ⟨.tuple #[cz, .bool false], ?_, by simp [conc, concs, h2]⟩
        simp only [Instr.typeAssert, Sem.run_bind, run_und hE hd, Result.andThen_ok]
        cases d <;> first | (simp [h1]; done) | exact absurd rfl (hne _)
      · cases h
    · cases h
  · rename_i d t u hne hd
    obtain ⟨cu, hcu, rfl⟩ := conc_iface hx
    split at h
    · rename_i heq
      have := Nat.eq_of_beq_eq_true heq
      subst this
      cases h
      cases ok with
      | true =>
        refine ⟨.tuple #[cu, .bool true], ?_, by simp [conc, concs, hcu]⟩
        simp only [Instr.typeAssert, Sem.run_bind, run_und hE hd, Result.andThen_ok]
        cases d <;> first | (simp; done) | exact absurd rfl (hne _)
      | false =>
        refine ⟨cu, ?_, hcu⟩
        simp only [Instr.typeAssert, Sem.run_bind, run_und hE hd, Result.andThen_ok]
        cases d <;> first | (simp; done) | exact absurd rfl (hne _)
    · rename_i heq
      have hne' : t ≠ a := Nat.ne_of_beq_eq_false heq
      split at h
      · split at h
        · rename_i z hz
          cases h
          obtain ⟨cz, h1, h2⟩ := run_zero (Y := Y) (ρ := ρ) (w := w) hE hz
          refine ⟨.tuple #[cz, .bool false], ?_, by simp [conc, concs, h2]⟩
          simp only [Instr.typeAssert, Sem.run_bind, run_und hE hd, Result.andThen_ok]
          cases d <;> first | (simp [h1, hne']; done) | exact absurd rfl (hne _)
        · cases h
      · cases h
  · cases h

end
end Go.AE
