/-
  append and copy.
-/
import Derived.Test.YtmebfcdgbjkcfaaGreatDoorAeAct
import Derived.Deep.AppendSrc
namespace Go.AE

section
variable {Y : Sy} {E : Env} {ρ : Rho} {h : H} {w : World}

/-- what is appended -/
def Src2 (P : Program) (size : Nat) (elem tx : TypeId) (x : Value) (n : Nat) (news : List Value) (w : World) : Prop :=
  (((∃ e', P.underlying tx = some (.slice e')) ∨ P.underlying tx = some .string) ∧ ∀ w' : World, w'.heap = w.heap → (Builtin.lenOf x).run P w' = .ok n w' ∧ (Builtin.firstCells size n x).run P w' = .ok news.toArray w') ∨
  (∃ k z i, P.underlying tx = some (.int k) ∧ x = .int .i64 (n : Int) ∧ n ≤ 16777216 ∧ P.info? elem = some i ∧ n * i.bytes ≤ 281474976710656 ∧ i.zero = some z ∧ (n * size = 0 → news = []) ∧ (n * size ≠ 0 → Builtin.zeroCells z.cells n = news.toArray))

theorem run_append_room2 {P : Program} {t tx ty elem : TypeId} {i : TypeInfo} (ht : P.underlying t = some (.slice elem)) (hi : P.info? elem = some i) {base : Option Addr} {sLen sCap n : Nat} {x : Value} {news : List Value} (hs : Src2 P i.size elem tx x n news w)
    (hroom : sLen + n ≤ sCap) : (Builtin.append_ #[t, tx] ty #[.slice base sLen sCap, x]).run P w =
      (match base with
       | some a => (storeCells (a.add (sLen * i.size)) news).run P w
       | none => .ok () w).andThen fun _ w' => .ok (.slice base (sLen + n) sCap) w' := by
  rcases hs with ⟨hk, hs⟩ | ⟨k, z, i', hk, rfl, hn, hi', hb, hz, h0, h1⟩
  · obtain ⟨l1, l2⟩ := hs w rfl
    rcases hk with ⟨e', hk⟩ | hk
    · simp [Builtin.append_, run_underlying ht, run_underlying hk, sizeOf, typeInfo, hi, l1, hroom, l2]
      cases base <;> simp
    · simp [Builtin.append_, run_underlying ht, run_underlying hk, sizeOf, typeInfo, hi, l1, hroom, l2]
      cases base <;> simp
  · rw [hi] at hi'
    cases hi'
    have w1 : IntKind.wrap .i64 (n : Int) = n := wrap64_in _ (by omega) (by omega)
    have hb' : ¬ (281474976710656 < (n : Int) * (i.bytes : Int)) := by
      have : ((n * i.bytes : Nat) : Int) ≤ ((281474976710656 : Nat) : Int) := Int.ofNat_le.2 hb
      omega
    have hneg : ¬ ((n : Int) < 0) := by omega
    by_cases hz0 : n * i.size = 0
    · rw [h0 hz0]
      simp [Builtin.append_, run_underlying ht, run_underlying hk, sizeOf, typeInfo, hi, asInt, asIntOf, w1, hneg, hb', hroom, hz0]
      cases base <;> simp
    · simp [Builtin.append_, run_underlying ht, run_underlying hk, sizeOf, typeInfo, hi, asInt, asIntOf, w1, hneg, hb', hroom, hz0, zeroValue, hz, h1 hz0]
      cases base <;> simp

theorem run_append_grow2 {P : Program} {t tx ty elem : TypeId} {i : TypeInfo} {z : Value} (ht : P.underlying t = some (.slice elem)) (hi : P.info? elem = some i) (hz : i.zero = some z) {base : Option Addr} {sLen sCap n : Nat} {x : Value} {news olds : List Value} (hs : Src2 P i.size elem tx x n news w)
    (hold : (Builtin.firstCells i.size sLen (.slice base sLen sCap)).run P w.drew = .ok olds.toArray w.drew)
    (hg : sCap < sLen + n) (h63 : sLen + n ≤ 4611686018427387904) (hfit : Builtin.nextslicecap (sLen + n) sCap * i.bytes ≤ 281474976710656) :
    (Builtin.append_ #[t, tx] ty #[.slice base sLen sCap, x]).run P w =
      .ok (.slice (some ⟨w.heap.size, 0, none⟩) (sLen + n) (grownCap w (sLen + n) sCap elem))
        (w.drew.alloc (.cells ((olds ++ news).toArray ++ Builtin.zeroCells z.cells (grownCap w (sLen + n) sCap elem - (sLen + n))) elem)) := by
  have hn : ¬ (sLen + n ≤ sCap) := by omega
  have h63' : ¬ (9223372036854775807 < ((sLen : Int) + (n : Int))) := by omega
  have h48' : ¬ (281474976710656 < Builtin.nextslicecap (sLen + n) sCap * i.bytes) := by omega
  rcases hs with ⟨hk, hs⟩ | ⟨k, z', i', hk, rfl, hn', hi', hb, hz', h0, h1⟩
  · obtain ⟨l1, l2⟩ := hs w rfl
    obtain ⟨l3, l4⟩ := hs w.drew rfl
    rcases hk with ⟨e', hk⟩ | hk
    · simp [Builtin.append_, run_underlying ht, run_underlying hk, sizeOf, typeInfo, zeroValue, hi, hz, l1, hn, h63', h48', Question.forced, l4, hold, newRow, grownCap]
      congr 2
      apply Array.ext'
      simp [List.append_assoc]
    · simp [Builtin.append_, run_underlying ht, run_underlying hk, sizeOf, typeInfo, zeroValue, hi, hz, l1, hn, h63', h48', Question.forced, l4, hold, newRow, grownCap]
      congr 2
      apply Array.ext'
      simp [List.append_assoc]
  · rw [hi] at hi'
    cases hi'
    rw [hz] at hz'
    cases hz'
    have w1 : IntKind.wrap .i64 (n : Int) = n := wrap64_in _ (by omega) (by omega)
    have hb' : ¬ (281474976710656 < (n : Int) * (i.bytes : Int)) := by
      have : ((n * i.bytes : Nat) : Int) ≤ ((281474976710656 : Nat) : Int) := Int.ofNat_le.2 hb
      omega
    have hneg : ¬ ((n : Int) < 0) := by omega
    by_cases hz0 : n * i.size = 0
    · have e0 := h0 hz0
      subst e0
      simp [Builtin.append_, run_underlying ht, run_underlying hk, sizeOf, typeInfo, zeroValue, hi, hz, asInt, asIntOf, w1, hneg, hb', hn, h63', h48', Question.forced, hold, newRow, grownCap, hz0]
    · simp [Builtin.append_, run_underlying ht, run_underlying hk, sizeOf, typeInfo, zeroValue, hi, hz, asInt, asIntOf, w1, hneg, hb', hn, h63', h48', Question.forced, hold, newRow, grownCap, hz0, h1 hz0]
      congr 2
      apply Array.ext'
      simp [List.append_assoc]

/-! ### How far a slice may grow -/
theorem growBy_le (need : Nat) : ∀ (r c : Nat), c ≤ 2 * need + 4096 → Builtin.growBy need r c ≤ 2 * need + 4096 ∨ Builtin.growBy need r c ≤ c := by
  intro r
  induction r with
  | zero => intro c _; exact .inr (Nat.le_refl _)
  | succ r ih =>
    intro c hc
    unfold Builtin.growBy
    split
    · exact .inr (Nat.le_refl _)
    · left
      rcases ih (c + (c + 768) / 4) (by omega) with h | h
      · exact h
      · omega

theorem nextcap_le (need cap : Nat) (h : cap < need) : Builtin.nextslicecap need cap ≤ need * 4 + 4096 := by
  unfold Builtin.nextslicecap
  split
  · omega
  · split
    · omega
    · rcases growBy_le need 4 cap (by omega) with h | h <;> omega

theorem grownCap_ge (w : World) (need old : Nat) (e : TypeId) : need ≤ grownCap w need old e := by
  unfold grownCap Question.cut
  exact Nat.le_add_right _ _

/-! ### Where the appended lies -/
theorem cell_heap {w' : World} (e : w'.heap = w.heap) (a : Addr) : w'.cell? a = w.cell? a := by
  simp [World.cell?, e]

theorem bytes_cells {s : List Nat} (hs : okBytes s = true) : ∃ cs, concs Y ρ (s.map fun b => AV.int .u8 (.ofNat b)) = some cs ∧ cs = byteCells (bytesV s) := by
  refine ⟨_, ?_, rfl⟩
  unfold byteCells
  rw [bytesV_toList]
  induction s with
  | nil => rfl
  | cons b r ih =>
    obtain ⟨h1, h2⟩ := (okBytes_cons b r).1 hs
    refine concs_cons.2 ⟨_, _, rfl, ih h2, ?_⟩
    simp only [List.map_cons, toNat_ofNat h1]
    rfl

theorem src_ok (hr : Rel Y E ρ h w) {size n : Nat} {x : AV} {cx : Value} {new : List AV} (hs : srcCells h size x = some (n, new)) (hx : conc Y ρ x = some cx) :
    ∃ news, (∀ w' : World, w'.heap = w.heap → (Builtin.lenOf cx).run E.P w' = .ok n w' ∧ (Builtin.firstCells size n cx).run E.P w' = .ok news.toArray w' ∧
        ∀ k, k ≤ n → (Builtin.firstCells size k cx).run E.P w' = .ok (news.take (k * size)).toArray w') ∧ concs Y ρ new = some news ∧ new.all isCell = true ∧ new.length = n * size := by
  have slc : ∀ (b o m : Nat) (L : Loc) (cap : Nat), (match loadCellsA h b o (Nat.mul m size) with | some l => some (m, l) | none => none) = some (n, new) → ρ b = some L → cx = .slice (some (L.addr o)) m cap →
      ∃ news, (∀ w' : World, w'.heap = w.heap → (Builtin.lenOf cx).run E.P w' = .ok n w' ∧ (Builtin.firstCells size n cx).run E.P w' = .ok news.toArray w' ∧
        ∀ k, k ≤ n → (Builtin.firstCells size k cx).run E.P w' = .ok (news.take (k * size)).toArray w') ∧ concs Y ρ new = some news ∧ new.all isCell = true ∧ new.length = n * size := by
    intro b o m L cap hs hL hcx
    cases hl : loadCellsA h b o (Nat.mul m size) with
    | none => rw [hl] at hs; cases hs
    | some l =>
      rw [hl] at hs
      cases hs
      obtain ⟨L', cs, k1, k2, k3, k4, k5⟩ := loadCells_sound hr hl
      rw [hL] at k1
      cases k1
      subst hcx
      have hlen := concs_length k2
      rw [k4] at hlen
      have hl1 : cs.length = n * size := hlen
      refine ⟨cs, fun w' e => ⟨rfl, ?_, fun k hk => ?_⟩, k2, k3, k4⟩
      · exact run_firstCells_some w' size n _ _ _ cs hl1 (fun j v hv => by rw [cell_heap e, addr_add]; exact k5 j v hv)
      · have : k * size ≤ n * size := Nat.mul_le_mul_right _ hk
        refine run_firstCells_some w' size k _ _ _ _ (by rw [List.length_take]; omega) (fun j v hv => ?_)
        rw [cell_heap e, addr_add]
        refine k5 j v ?_
        rw [List.getElem?_take] at hv
        split at hv
        · exact hv
        · cases hv
  unfold srcCells at hs
  split at hs
  · cases hs
    cases hx
    exact ⟨[], fun w' _ => ⟨rfl, rfl, fun k hk => by have : k = 0 := by omega
                                                     subst this; simp [Builtin.firstCells]⟩, rfl, rfl, by simp⟩
  · cases hs
    obtain ⟨a, c, rfl⟩ := conc_eslice hx
    have h0 : ∀ w' : World, (Builtin.firstCells size 0 (.slice (some a) 0 c)).run E.P w' = .ok (([] : List Value).toArray) w' := fun w' => run_firstCells_some (P := E.P) w' size 0 a 0 c [] (by simp) (fun j v hv => by simp at hv)
    exact ⟨[], fun w' _ => ⟨rfl, h0 w', fun k hk => by
      have : k = 0 := by omega
      subst this
      simpa using h0 w'⟩, rfl, rfl, by simp⟩
  · obtain ⟨L, hL, rfl⟩ := conc_slice hx
    exact slc _ _ _ L _ hs hL rfl
  · obtain ⟨L, hL, rfl⟩ := conc_gslice hx
    exact slc _ _ _ L _ hs hL rfl
  · rename_i s
    split at hs
    · rename_i hsz
      have := Nat.eq_of_beq_eq_true hsz
      subst this
      simp only [forceN_eq] at hs
      cases hs
      obtain ⟨hok, rfl⟩ := conc_str hx
      obtain ⟨cs, k1, rfl⟩ := bytes_cells (Y := Y) (ρ := ρ) hok
      refine ⟨_, fun w' _ => ⟨by simp [Builtin.lenOf, bytesV_size], ?_, fun k hk => ?_⟩, k1, ?_, by simp⟩
      · have := firstCells_string (P := E.P) (bytesV s) w'
        rw [bytesV_size] at this
        exact this
      · simp only [Builtin.firstCells, Sem.run_pure, Nat.mul_one]
        congr 1
        apply Array.ext'
        simp [byteCells, bytesV, List.map_take]
      · rw [List.all_map, List.all_eq_true]
        exact fun _ _ => rfl
    · cases hs
  · cases hs

theorem appSrc_ok (hE : EnvOk Y E) (hr : Rel Y E ρ h w) {elem xt : TypeId} {i : TypeInfo} {n : Nat} {x : AV} {cx : Value} {new : List AV} (hi : E.info elem = some i) (hs : appSrc E h elem i (E.und xt) x = some (n, new)) (hx : conc Y ρ x = some cx) :
    ∃ news, Src2 E.P i.size elem xt cx n news w ∧ concs Y ρ new = some news ∧ new.all isCell = true ∧ new.length = n * i.size := by
  unfold appSrc at hs
  split at hs
  · rename_i k hu
    split at hs
    · rename_i l z hz
      split at hs
      · rename_i g1 g2 g3
        cases hs
        have g1' := Nat.eq_of_beq_eq_true g1
        have g2' : n ≤ 16777216 := Nat.le_of_ble_eq_true g2
        have g3' : n * i.bytes ≤ 281474976710656 := Nat.le_of_ble_eq_true g3
        have e1 : conc Y ρ (.i64 (.ofNat n)) = some (.int .i64 (n : Int)) := rfl
        rw [e1] at hx
        cases hx
        obtain ⟨z0, hz0⟩ : ∃ z0, E.zero elem = some z0 := by
          unfold Env.zeros at hz
          cases h0 : E.zero elem with
          | none => rw [h0] at hz; cases hz
          | some z0 => exact ⟨z0, rfl⟩
        obtain ⟨cv, hcv⟩ : ∃ cv, i.zero = some cv := by
          unfold Env.zero at hz0
          have : E.tt.get elem = some i := hi
          rw [this] at hz0
          dsimp only at hz0
          cases hzz : i.zero with
          | none => rw [hzz] at hz0; cases hz0
          | some v => exact ⟨v, rfl⟩
        obtain ⟨cz, cs, k1, k2, k3, k4⟩ := run_zeros (Y := Y) (ρ := ρ) (w := w) hE hz
        have hinfo := hE.tt elem i hi
        have hcz : cz = cv := by
          simp [zeroValue, typeInfo, hinfo, hcv] at k1
          exact k1.symm
        subst hcz
        have hcl := concs_length k2
        refine ⟨repeatC cs n, .inr ⟨k, cz, i, und_ok hE hu, rfl, g2', hinfo, g3', hcv, fun h0 => ?_, fun _ => ?_⟩, repeat_conc k2 n, repeat_cell k4 n, ?_⟩
        · have := repeatC_length cs n
          rw [hcl, g1', h0] at this
          exact List.eq_nil_of_length_eq_zero this
        · rw [k3]; exact zeroCells_eq cs n
        · have := concs_length (repeat_conc (Y := Y) (ρ := ρ) k2 n)
          rw [repeatC_length, hcl, g1'] at this
          exact this.symm
      · cases hs
    · cases hs
  · rename_i e' hu
    obtain ⟨news, k1, k2, k3, k4⟩ := src_ok hr hs hx
    exact ⟨news, .inl ⟨.inl ⟨e', und_ok hE hu⟩, fun w' e => ⟨(k1 w' e).1, (k1 w' e).2.1⟩⟩, k2, k3, k4⟩
  · rename_i hu
    obtain ⟨news, k1, k2, k3, k4⟩ := src_ok hr hs hx
    exact ⟨news, .inl ⟨.inr (und_ok hE hu), fun w' e => ⟨(k1 w' e).1, (k1 w' e).2.1⟩⟩, k2, k3, k4⟩
  · cases hs

/-! ### New rows -/
theorem zeroOk_eq (hE : EnvOk Y E) {elem : TypeId} {i : TypeInfo} (hi : E.info elem = some i) (hz : zeroOk E elem i = true) : ∃ (z : Value) (cs : List Value), i.zero = some z ∧ z.cells = cs.toArray ∧ cs.length = i.size ∧ 1 ≤ i.size := by
  unfold zeroOk at hz
  split at hz
  · rename_i zs hzs
    split at hz
    · rename_i hl
      have hl' := Nat.eq_of_beq_eq_true hl
      obtain ⟨cz, cs, k1, k2, k3, k4⟩ := run_zeros (Y := Y) (ρ := fun _ => none) (w := default) hE hzs
      have hinfo := hE.tt elem i hi
      cases hzz : i.zero with
      | none => simp [zeroValue, typeInfo, hinfo, hzz] at k1
      | some v =>
        simp [zeroValue, typeInfo, hinfo, hzz] at k1
        exact ⟨v, cs, rfl, by rw [k1]; exact k3, by rw [concs_length k2]; exact hl', Nat.le_of_ble_eq_true hz⟩
    · cases hz
  · cases hz

theorem newRowA_eq (h : H) (vs : List AV) (gs : Nat) : newRowA h vs gs = h.new (.cells (ofListV vs) vs.length gs) := by
  unfold newRowA
  rw [forceN_eq]

theorem growA_eq {elem : TypeId} {i : TypeInfo} {need : Nat} {cs : List AV} {v : AV} {h' : H} (hg : growA E elem h i need cs = some (v, h')) :
    (need * 4 + 4096) * i.bytes ≤ 281474976710656 ∧ zeroOk E elem i = true ∧ need ≤ 4611686018427387904 ∧ v = .gslice h.next 0 need 0 ∧ h' = (h.new (.cells (ofListV cs) cs.length i.size)).2 := by
  unfold growA at hg
  split at hg
  · rename_i g1 g2 g3
    have g1' : (need * 4 + 4096) * i.bytes ≤ 281474976710656 := Nat.le_of_ble_eq_true g1
    have g3' := Nat.le_of_ble_eq_true g3
    rw [newRowA_eq, H.new_eq] at hg
    cases hg
    exact ⟨g1', g2, g3', rfl, by rw [H.new_eq]⟩
  · cases hg

theorem growT_eq {elem : TypeId} {i : TypeInfo} {need n : Nat} {c : T AV} {v : AV} {h' : H} (hg : growT E elem h i need c n = some (v, h')) :
    (need * 4 + 4096) * i.bytes ≤ 281474976710656 ∧ zeroOk E elem i = true ∧ need ≤ 4611686018427387904 ∧ v = .gslice h.next 0 need 0 ∧ h' = (h.new (.cells c n i.size)).2 := by
  unfold growT at hg
  split at hg
  · rename_i g1 g2 g3
    have g1' : (need * 4 + 4096) * i.bytes ≤ 281474976710656 := Nat.le_of_ble_eq_true g1
    have g3' := Nat.le_of_ble_eq_true g3
    have e : ∀ {β : Type} (k : T AV → β), forceT c k = k c := fun k => by cases c <;> rfl
    rw [e, H.new_eq] at hg
    cases hg
    exact ⟨g1', g2, g3', rfl, by rw [H.new_eq]⟩
  · cases hg

theorem grow_relT (hr : Rel Y E ρ h w) {c : T AV} {ccs zs : List Value} {need cap size : Nat} {elem : TypeId} (hc : ∀ j v, getV c j = some v → isCell v = true ∧ ∃ cv, conc Y ρ v = some cv ∧ ccs[j]? = some cv) (hlen : ccs.length = need * size) (hz : zs.length = size) (hcap : need ≤ cap) :
    Goes Y E ρ h w (ρ.set h.next ⟨w.heap.size, 0, cap⟩) (h.new (.cells c ccs.length size)).2 (w.alloc (.cells (ccs.toArray ++ Builtin.zeroCells zs.toArray (cap - need)) elem)) := by
  have hle : ρ.le (ρ.set h.next ⟨w.heap.size, 0, cap⟩) := Rho.le_set (hr.fresh h.next (Nat.le_refl _)) _
  refine Goes.alloc (L := ⟨w.heap.size, 0, cap⟩) hr rfl ⟨_, elem, rfl, ?_, fun _ => ⟨?_, ?_⟩, fun i v hv => ?_⟩
  · simp
  · rw [hlen]; exact Nat.mul_le_mul_right _ hcap
  · rw [zeroCells_eq]
    have h2 := repeatC_length zs (cap - need)
    simp only [Array.size_append, List.size_toArray, h2, hz, hlen, Nat.zero_add]
    rw [← Nat.add_mul]
    congr 1
    omega
  · obtain ⟨h1, cv, e1, e2⟩ := hc i v hv
    have hi : i < ccs.length := by
      rcases Nat.lt_or_ge i ccs.length with h' | h'
      · exact h'
      · rw [List.getElem?_eq_none h'] at e2; cases e2
    refine ⟨hi, h1, cv, conc_mono hle e1, ?_⟩
    simp only [Nat.zero_add]
    rw [Array.getElem?_append_left (by simpa using hi)]
    simpa using e2

theorem grow_rel (hr : Rel Y E ρ h w) {cs : List AV} {ccs zs : List Value} {need cap size : Nat} {elem : TypeId} (hcs : concs Y ρ cs = some ccs) (hcell : cs.all isCell = true) (hlen : cs.length = need * size) (hz : zs.length = size) (hcap : need ≤ cap) :
    Goes Y E ρ h w (ρ.set h.next ⟨w.heap.size, 0, cap⟩) (h.new (.cells (ofListV cs) cs.length size)).2 (w.alloc (.cells (ccs.toArray ++ Builtin.zeroCells zs.toArray (cap - need)) elem)) := by
  have hle : ρ.le (ρ.set h.next ⟨w.heap.size, 0, cap⟩) := Rho.le_set (hr.fresh h.next (Nat.le_refl _)) _
  refine Goes.alloc (L := ⟨w.heap.size, 0, cap⟩) hr rfl ⟨_, elem, rfl, ?_, fun _ => ⟨?_, ?_⟩, fun i v hv => ?_⟩
  · have := concs_length hcs
    simp; omega
  · rw [hlen]; exact Nat.mul_le_mul_right _ hcap
  · rw [zeroCells_eq]
    have h1 := concs_length hcs
    have h2 := repeatC_length zs (cap - need)
    simp only [Array.size_append, List.size_toArray, h1, h2, hz, hlen, Nat.zero_add]
    rw [← Nat.add_mul]
    congr 1
    omega
  · rw [get_ofListV] at hv
    obtain ⟨cv, e1, e2⟩ := concs_getElem hcs i v hv
    have hi : i < cs.length := by
      rcases Nat.lt_or_ge i cs.length with h' | h'
      · exact h'
      · rw [List.getElem?_eq_none h'] at hv; cases hv
    refine ⟨hi, List.all_eq_true.1 hcell v (List.mem_of_getElem? hv), cv, conc_mono hle e1, ?_⟩
    have hl := concs_length hcs
    simp only [Nat.zero_add]
    rw [Array.getElem?_append_left (by simp; omega)]
    simpa using e2

/-- the row behind a block goes on under a new number -/
theorem Goes.regrow {h1 : H} {w' : World} {b : Nat} {o o₀ : AObj} {L L' : Loc} {ob : Obj} (hr : Rel Y E ρ h w) (hb : h.get b = some o₀) (ha₀ : o₀.alive = true) (hL : ρ b = some L) (hu : h.upd b .dead = some h1)
    (e1 : w'.os = w.os) (e2 : w'.tape = w.tape) (e3 : w'.output = w.output) (hs : w'.heap.size = w.heap.size) (hat : w'.heap[L.blk]? = some ob) (hother : ∀ c, c ≠ L.blk → w'.heap[c]? = w.heap[c]?)
    (hL' : L'.blk = L.blk) (ho : ORel Y E (ρ.set h.next L') L' o ob) : Goes Y E ρ h w (ρ.set h.next L') (h1.new o).2 w' := by
  obtain ⟨hp, rfl⟩ := H.upd_eq.1 hu
  have hn := hr.fresh h.next (Nat.le_refl _)
  have hle := Rho.le_set hn L'
  have hmb : memN h.mask b = false := by
    rw [H.get_eq] at hb
    cases hm : memN h.mask b with
    | false => rfl
    | true => rw [hm] at hb; simp at hb
  have hblt : b < h.next := by
    rcases Nat.lt_or_ge b h.next with h4 | h4
    · exact h4
    · rw [hr.fresh b h4] at hL; cases hL
  rw [H.new_eq]
  have hget : ∀ c, (H.mk (putO (putO h.t b .dead) h.next o) (h.next + 1) h.mask h.prot).get c = if memN h.mask c = true then none else if c = h.next then some o else if c = b then some .dead else getO h.t c := by
    intro c
    rw [H.get_eq, get_putO, get_putO]
  -- an old block that lives still is another one
  have hold : ∀ c p, c ≠ h.next → (H.mk (putO (putO h.t b .dead) h.next o) (h.next + 1) h.mask h.prot).get c = some p → p.alive = true → c ≠ b ∧ h.get c = some p := by
    intro c p hc hp ha
    rw [hget, if_neg hc] at hp
    have hcb : c ≠ b := by
      rintro rfl
      rw [hmb] at hp
      simp at hp
      subst hp
      cases ha
    rw [if_neg hcb] at hp
    exact ⟨hcb, by rw [H.get_eq]; exact hp⟩
  have hnewo : ∀ p, (H.mk (putO (putO h.t b .dead) h.next o) (h.next + 1) h.mask h.prot).get h.next = some p → p = o := by
    intro p hp
    rw [hget] at hp
    split at hp
    · cases hp
    · simpa using hp.symm
  have hnew : ∀ (M : Loc) (c : Nat), c ≠ h.next → (ρ.set h.next L') c = some M → ρ c = some M := by
    intro M c hc hM
    simpa [Rho.set, hc] using hM
  refine ⟨hle, ⟨fun c p hp ha => ?_, fun c d p q M N hp hq ha hd hM hN e => ?_, fun c hc => ?_, fun c M hM => ?_⟩, ⟨e1, e2, e3, by omega, fun c _ hno => hother c (fun e => hno b o₀ L hb (wr_mk ha₀ hp) hL e.symm)⟩, ⟨rfl, rfl, by simp, fun c hc hm => ?_, fun c p hc hp ha => ?_⟩, fun c M h0 h4 => ?_, fun c hc => Rho.set_other _ (Nat.ne_of_lt hc)⟩
  · by_cases hcn : c = h.next
    · subst hcn
      have := hnewo p hp
      subst this
      exact ⟨L', ob, Rho.set_same _ _ _, by rw [hL']; exact hat, ho⟩
    · obtain ⟨hcb, hg⟩ := hold c p hcn hp ha
      obtain ⟨M, ob', k1, k2, k3⟩ := hr.obj c p hg ha
      refine ⟨M, ob', hle _ _ k1, ?_, k3.mono hle⟩
      rw [hother M.blk (fun e => hcb (hr.inj c b p o₀ M L hg hb ha ha₀ k1 hL e))]
      exact k2
  · by_cases hcn : c = h.next
    · by_cases hdn : d = h.next
      · rw [hcn, hdn]
      · obtain ⟨hdb, hg⟩ := hold d q hdn hq hd
        subst hcn
        rw [Rho.set_same] at hM
        cases hM
        exact absurd (hr.inj d b q o₀ N L hg hb hd ha₀ (hnew N d hdn hN) hL (by rw [← e, hL'])) hdb
    · obtain ⟨hcb, hg⟩ := hold c p hcn hp ha
      by_cases hdn : d = h.next
      · subst hdn
        rw [Rho.set_same] at hN
        cases hN
        exact absurd (hr.inj c b p o₀ M L hg hb ha ha₀ (hnew M c hcn hM) hL (by rw [e, hL'])) hcb
      · obtain ⟨_, hg'⟩ := hold d q hdn hq hd
        exact hr.inj c d p q M N hg hg' ha hd (hnew M c hcn hM) (hnew N d hdn hN) e
  · have hc' : h.next + 1 ≤ c := hc
    have : c ≠ h.next := by omega
    simp only [Rho.set, this, if_false]
    exact hr.fresh c (by omega)
  · rw [hs]
    by_cases hcn : c = h.next
    · subst hcn
      rw [Rho.set_same] at hM
      cases hM
      rw [hL']
      exact hr.bound b L hL
    · exact hr.bound c M (hnew M c hcn hM)
  · show getO (putO (putO h.t b .dead) h.next o) c = _
    have hcb : c ≠ b := by
      rintro rfl
      rcases hm with hm | hm
      · rw [hmb] at hm; cases hm
      · rw [hp] at hm; cases hm
    rw [get_putO, if_neg (by omega), get_putO, if_neg hcb]
  · obtain ⟨_, hg⟩ := hold c p (by omega) hp ha
    exact ⟨p, hg, ha⟩
  · by_cases hcn : c = h.next
    · subst hcn
      rw [Rho.set_same] at h4
      cases h4
      exact .inr ⟨b, o₀, L, hb, wr_mk ha₀ hp, hL, hL'.symm⟩
    · rw [hnew M c hcn h4] at h0; cases h0

end
end Go.AE
