/-
  What makes one block, and what reads one.
-/
import Derived.Test.YtmebfcdgbjkcfaaGreatDoorAeMake
namespace Go.AE

section
variable {Y : Sy} {E : Env} {ρ : Rho} {h : H} {w : World}

/-- one block is made -/
def Makes (Y : Sy) (E : Env) (ρ : Rho) (w : World) (s : Sem Value) (o : AObj) (mk : Nat → AV) : Prop :=
  ∃ ob cv, s.run E.P w = .ok cv (w.alloc ob) ∧ (∀ ρ', ρ.le ρ' → ORel Y E ρ' ⟨w.heap.size, 0, 0⟩ o ob) ∧
    ∀ ρ' b, ρ.le ρ' → ρ' b = some ⟨w.heap.size, 0, 0⟩ → conc Y ρ' (mk b) = some cv

theorem run_newRow' {P : Program} (elem : TypeId) (cs : Array Value) : (newRow elem cs).run P w = .ok ⟨w.heap.size, 0, none⟩ (w.alloc (.cells cs elem)) := by
  simp [newRow]

theorem alloc_ok (hE : EnvOk Y E) {elem : TypeId} {z : List AV} (hz : E.zeros elem = some z) : Makes Y E ρ w (Instr.alloc elem true (.tuple #[])) (rowObj z 0) fun b => .ptr b 0 := by
  obtain ⟨cz, cs, h1, h2, h3, h4⟩ := run_zeros (Y := Y) (ρ := ρ) (w := w) hE hz
  refine ⟨.cells cs.toArray elem, .pointer (some ⟨w.heap.size, 0, none⟩), ?_, fun ρ' hle => newRow_orel h2 h4 _ _ _ hle, fun ρ' b _ hb => by simp [conc, hb, Loc.addr]⟩
  simp only [Instr.alloc, Sem.run_bind, h1, Result.andThen_ok, newVar, run_newRow', h3, Sem.run_pure]

theorem box_ok {elem : TypeId} {v : AV} {cv : Value} {vs : List AV} (hv : conc Y ρ v = some cv) (hc : cellsOf v = some vs) : Makes Y E ρ w (Instr.box elem cv) (rowObj vs 0) fun b => .ptr b 0 := by
  obtain ⟨cs, h1, h2, h3⟩ := cellsOf_conc hc hv
  refine ⟨.cells cs.toArray elem, .pointer (some ⟨w.heap.size, 0, none⟩), ?_, fun ρ' hle => newRow_orel h1 h3 _ _ _ hle, fun ρ' b _ hb => by simp [conc, hb, Loc.addr]⟩
  simp only [Instr.box, Sem.run_bind, newVar, run_newRow', h2, Sem.run_pure, Result.andThen_ok]

theorem buildSlice_ok (hE : EnvOk Y E) {t : TypeId} {n : Nat} {parts : List (Nat × AV)} {cparts : List (Nat × Value)} {o : AObj} (hr : PartsRel Y ρ parts cparts) (h : buildSliceA E t n parts = some o) :
    Makes Y E ρ w (Instr.buildSlice t n cparts.toArray) o fun b => .slice b 0 n n := by
  unfold buildSliceA at h
  split at h
  · rename_i elem hu
    split at h
    · rename_i s z hs hz
      split at h
      · rename_i hle hlen
        split at h
        · rename_i l hl
          cases h
          have hle' : n * s ≤ 16777216 := Nat.le_of_ble_eq_true hle
          have hlen' := Nat.eq_of_beq_eq_true hlen
          obtain ⟨cz, cs, k1, k2, k3, k4⟩ := run_zeros (Y := Y) (ρ := ρ) (w := w) hE hz
          have hcl := concs_length k2
          obtain ⟨cout, e1, e2, e3⟩ := fill_ok (Y := Y) (ρ := ρ) (pa := fun i => some (Nat.mul i s, s)) (pc := fun i => some (i * s, s)) (fun i r h => h) parts cparts _ _ l hr (repeat_conc k2 n) (repeat_cell k4 n) hl
          refine ⟨.cells cout.toArray elem, .slice (some ⟨w.heap.size, 0, none⟩) n n, ?_, fun ρ' hle => newRow_orel e2 e3 _ _ _ hle, fun ρ' b _ hb => by simp [conc, hb, Loc.addr]⟩
          have hno : ¬ (n * s > 2 ^ 24) := by omega
          simp only [Instr.buildSlice, Sem.run_bind, run_und hE hu, Result.andThen_ok, run_size hE hs, Sem.run_ite, hno, if_false, Sem.run_pure]
          by_cases h0 : n * s = 0
          · rw [if_pos h0]
            have h1 : repeatC cs n = [] := by
              have := repeatC_length cs n
              rw [hcl, hlen', h0] at this
              exact List.eq_nil_of_length_eq_zero this
            have h2 : (Array.map (fun x => (#[] : Array Value)[x % (#[] : Array Value).size]!) (Array.range (n * s))) = (repeatC cs n).toArray := by
              rw [h1, h0]; simp
            simp only [Sem.run_pure, Result.andThen_ok, h2, e1, Sem.run_bind, run_newRow']
          · rw [if_neg h0]
            have h2 := range_zeros cs n
            rw [hcl, hlen'] at h2
            simp only [Sem.run_bind, k1, Result.andThen_ok, k3, Sem.run_pure, h2, e1, run_newRow']
        · cases h
      · cases h
    · cases h
  · cases h

theorem makeMapV_ok (hE : EnvOk Y E) {t : TypeId} {n : AV} {cn : Value} {p : AObj × (Nat → AV)} (hp : makeMapV E t [n] = some p) (hn : conc Y ρ n = some cn) : Makes Y E ρ w (Instr.makeMap t (some cn)) p.1 p.2 := by
  unfold makeMapV at hp
  dsimp only at hp
  split at hp
  · rename_i kt et i hu hi
    cases hp
    rw [asI_eq hi] at hn
    cases hn
    refine ⟨.map #[] 0, .map (some w.heap.size), ?_, fun ρ' _ => ⟨#[], rfl, trivial⟩, fun ρ' b _ hb => by simp [conc, hb]⟩
    simp [Instr.makeMap, run_und hE hu, asInt, asIntOf]
  · cases hp

theorem makeMap_ok {t : TypeId} : Makes Y E ρ w (Instr.makeMap t none) (.map [] 0) .map := by
  refine ⟨.map #[] 0, .map (some w.heap.size), by simp [Instr.makeMap], fun ρ' _ => ⟨#[], rfl, trivial⟩, fun ρ' b _ hb => by simp [conc, hb]⟩

theorem makeSlice_ok (hE : EnvOk Y E) {t : TypeId} {l c : AV} {cl cc : Value} {o : AObj} {n m : Nat} (hl : conc Y ρ l = some cl) (hc : conc Y ρ c = some cc) (h : makeSliceA E t l c = some (o, n, m)) :
    Makes Y E ρ w (Instr.makeSlice t cl cc) o fun b => .slice b 0 n m := by
  unfold makeSliceA at h
  split at h
  · rename_i elem l' c' hu
    split at h
    · rename_i i z hi hz
      split at h
      · rename_i g1 g2 g3 g4
        cases h
        have g1' : n ≤ m := Nat.le_of_ble_eq_true g1
        have g2' : i.bytes * m ≤ 281474976710656 := Nat.le_of_ble_eq_true g2
        have g3' : m ≤ 16777216 := Nat.le_of_ble_eq_true g3
        have g4' := Nat.eq_of_beq_eq_true g4
        have e1 : conc Y ρ (.i64 (.ofNat n)) = some (.int .i64 (n : Int)) := rfl
        have e2 : conc Y ρ (.i64 (.ofNat m)) = some (.int .i64 (m : Int)) := rfl
        rw [e1] at hl
        rw [e2] at hc
        cases hl
        cases hc
        obtain ⟨cz, cs, k1, k2, k3, k4⟩ := run_zeros (Y := Y) (ρ := ρ) (w := w) hE hz
        have hcl := concs_length k2
        refine ⟨.cells (repeatC cs m).toArray elem, .slice (some ⟨w.heap.size, 0, none⟩) n m, ?_, fun ρ' hle => newRow_orel (repeat_conc k2 m) (repeat_cell k4 m) _ _ _ hle, fun ρ' b _ hb => by simp [conc, hb, Loc.addr]⟩
        have w1 : IntKind.wrap .i64 (n : Int) = n := wrap64_in _ (by omega) (by omega)
        have w2 : IntKind.wrap .i64 (m : Int) = m := wrap64_in _ (by omega) (by omega)
        have hsz : E.size elem = some i.size := by
          unfold Env.size
          have : E.tt.get elem = some i := hi
          rw [this]
        have hb1 : ¬ ((i.bytes : Int) * (m : Int) > 2 ^ 48) := by
          have : ((i.bytes * m : Nat) : Int) ≤ ((281474976710656 : Nat) : Int) := Int.ofNat_le.2 g2'
          omega
        have hcond : ¬ ((decide ((m : Int) < 0) || decide ((i.bytes : Int) * (m : Int) > 2 ^ 48) || decide ((n : Int) < 0) || decide ((n : Int) > (m : Int))) = true) := by
          simp only [Bool.or_eq_true, decide_eq_true_eq]
          omega
        simp only [Instr.makeSlice, asInt, asIntOf, Sem.run_bind, Sem.run_pure, run_und hE hu, Result.andThen_ok, run_info hE hi, w1, w2, Sem.run_ite]
        rw [if_neg hcond]
        simp only [Result.andThen_ok, run_askRoom, Int.toNat_natCast, run_size hE hsz]
        by_cases h0 : m * i.size = 0
        · rw [if_pos h0]
          simp only [Result.andThen_ok, run_newRow']
          have : repeatC cs m = [] := by
            have := repeatC_length cs m
            rw [hcl, g4', h0] at this
            exact List.eq_nil_of_length_eq_zero this
          have hr0 : ∀ f : Nat → Value, Array.map f (Array.range 0) = #[] := fun f => by simp
          rw [this, h0, hr0]
        · rw [if_neg h0]
          simp only [k1, Result.andThen_ok, k3, run_newRow']
          have := range_zeros cs m
          rw [hcl, g4'] at this
          rw [this]
      · cases h
    · cases h
  · cases h

/-! ### Reading -/
theorem load_ok (hE : EnvOk Y E) (hr : Rel Y E ρ h w) {t : TypeId} {a v : AV} {ca : Value} (hl : loadP E t a h = some v) (ha : conc Y ρ a = some ca) : Yields Y E ρ w (Instr.loadAt t ca) v := by
  unfold loadP at hl
  cases hd : E.und t with
  | none => rw [hd] at hl; cases hl
  | some d =>
    rw [hd] at hl
    dsimp only at hl
    cases hag : isAggD d with
    | false =>
      rw [hag] at hl
      dsimp only at hl
      cases hp : asP a with
      | none => rw [hp] at hl; cases hl
      | some p =>
        rw [hp] at hl
        dsimp only at hl
        rw [asP_eq hp] at ha
        obtain ⟨L, hL, rfl⟩ := conc_ptr ha
        obtain ⟨L', cv, k1, k2, _, k4⟩ := loadCell_sound hr hl
        rw [hL] at k1
        cases k1
        refine ⟨cv, ?_, k2⟩
        simp [Instr.loadAt, Instr.sureAddr, loadVar, run_isAgg hE hd, hag, k4]
    | true =>
      rw [hag] at hl
      dsimp only at hl
      cases hs : E.size t with
      | none => rw [hs] at hl; cases hl
      | some n =>
        rw [hs] at hl
        dsimp only at hl
        cases hp : asP a with
        | none => rw [hp] at hl; cases hl
        | some p =>
          rw [hp] at hl
          dsimp only at hl
          cases hcs : loadCellsA h p.1 p.2 n with
          | none => rw [hcs] at hl; cases hl
          | some l =>
            rw [hcs] at hl
            cases hl
            rw [asP_eq hp] at ha
            obtain ⟨L, hL, rfl⟩ := conc_ptr ha
            obtain ⟨L', cs, k1, k2, k3, k4, k5⟩ := loadCells_sound hr hcs
            rw [hL] at k1
            cases k1
            have hlen := concs_length k2
            have hrun := run_loadCells_list (P := E.P) w (L.addr p.2) cs (fun j v hv => by rw [addr_add]; exact k5 j v hv)
            rw [hlen, k4] at hrun
            refine ⟨.agg cs.toArray, ?_, by simp [conc, k2, k3]⟩
            simp only [Instr.loadAt, Instr.sureAddr, loadVar, Sem.run_bind, Sem.run_pure, Result.andThen_ok, run_isAgg hE hd, hag, if_true, run_size hE hs, hrun]

theorem EntRel.length : ∀ {es : List AEnt} {l : List MapEntry}, EntRel Y ρ es l → l.length = es.length
  | [], [], _ => rfl
  | _ :: _, _ :: _, ⟨_, _, _, h4⟩ => by simp [h4.length]
  | [], _ :: _, h => h.elim
  | _ :: _, [], h => h.elim

theorem Rel.mapAt {b : Nat} {es : List AEnt} {clock : Nat} (hr : Rel Y E ρ h w) (hb : h.get b = some (.map es clock)) : ∃ L l, ρ b = some L ∧ w.heap[L.blk]? = some (.map l clock) ∧ EntRel Y ρ es l.toList := by
  obtain ⟨L, ob, h1, h2, l, rfl, h3⟩ := hr.obj b _ hb rfl
  exact ⟨L, l, h1, h2, h3⟩

theorem len_ok (hE : EnvOk Y E) (hr : Rel Y E ρ h w) {t : TypeId} {x v : AV} {cx : Value} (hl : lenA E h t x = some v) (hx : conc Y ρ x = some cx) (ts : Array TypeId) (args : Array Value) (ht : ts[0]? = some t) (ha : args[0]? = some cx) (ty : TypeId) :
    Yields Y E ρ w (Builtin.len_ ts ty args) v := by
  unfold lenA at hl
  split at hl
  · rename_i s hu
    simp only [forceN_eq] at hl
    cases hl
    obtain ⟨_, rfl⟩ := conc_str hx
    exact ⟨_, by simp [Builtin.len_, ht, ha, run_und hE hu, bytesV_size]; rfl, rfl⟩
  · rename_i i lo hi hu
    cases hl
    obtain ⟨rfl, a1, a2⟩ := conc_sstr hx
    refine ⟨.int .i64 ((Y.strs i).size : Int), by simp [Builtin.len_, ht, ha, run_und hE hu]; rfl, ?_⟩
    exact mkSym_ok hE (e := .len i) (by show (Int.ofNat lo) ≤ ((Y.strs i).size : Int); simp; omega) (by show ((Y.strs i).size : Int) ≤ Int.ofNat hi; simp; omega)
  · rename_i b o n c hu
    cases hl
    obtain ⟨L, _, rfl⟩ := conc_slice hx
    exact ⟨_, by simp [Builtin.len_, ht, ha, run_und hE hu]; rfl, rfl⟩
  · rename_i b o n c hu
    cases hl
    obtain ⟨L, _, rfl⟩ := conc_gslice hx
    exact ⟨_, by simp [Builtin.len_, ht, ha, run_und hE hu]; rfl, rfl⟩
  · rename_i hu
    cases hl
    cases hx
    exact ⟨_, by simp [Builtin.len_, ht, ha, run_und hE hu]; rfl, rfl⟩
  · rename_i b o l s p hu
    cases hl
    obtain ⟨_, _, rfl⟩ := conc_eslice hx
    exact ⟨_, by simp [Builtin.len_, ht, ha, run_und hE hu]; rfl, rfl⟩
  · rename_i i b o lo hi hu
    cases hl
    obtain ⟨rfl, a1, a2, _⟩ := conc_uslice hx
    refine ⟨.int .i64 ((Y.sls i).2.1 : Int), by simp [Builtin.len_, ht, ha, run_und hE hu]; rfl, ?_⟩
    exact mkSym_ok hE (e := .slen i) (by show (Int.ofNat lo) ≤ ((Y.sls i).2.1 : Int); simp; omega) (by show ((Y.sls i).2.1 : Int) ≤ Int.ofNat hi; simp; omega)
  · rename_i n el hu
    cases hl
    exact ⟨_, by simp [Builtin.len_, ht, ha, run_und hE hu]; rfl, rfl⟩
  · rename_i k el hu
    cases hl
    cases hx
    exact ⟨_, by simp [Builtin.len_, ht, ha, run_und hE hu]; rfl, rfl⟩
  · rename_i k el b hu
    split at hl
    · rename_i es clock hb
      simp only [forceN_eq] at hl
      cases hl
      obtain ⟨L, l, h1, h2, h3⟩ := hr.mapAt hb
      obtain ⟨L', hL', rfl⟩ := conc_map hx
      rw [h1] at hL'
      cases hL'
      have hln := h3.length
      refine ⟨_, ?_, rfl⟩
      have hg : (getObj L.blk).run E.P w = .ok (.map l clock) w := by simp [getObj, Sem.run, h2]
      simp [Builtin.len_, ht, ha, run_und hE hu, hg, ← hln]
      rfl
    · cases hl
  · cases hl

end
end Go.AE
