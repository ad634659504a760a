/-
  AeRune: Runes: '[]rune(s)', 'string(r)', where all is ASCII.
  AeSem: One operation: what each class of operations does.
  AeOp: Every operation is of its class.
  AeSeq: Operands; regions whose operations go in the text's order.
  AeReg: Regions in the text's order; what a region leaves; what code leaves.
  AeFork: A region whose two operations in the middle stand in either order: both orders are run.
  AeRecov: The body of a deferred function that calls 'recover' where nothing is to be recovered.
  AeCode: Code.
  AeCall: Calls: the evaluator is sound.
  AeDr1: Regions that draw: the checks, and the records.
  AeDr2: Regions that draw: small operations, hidden blocks.
  AeDr3: Regions that draw: the invariant, and its steps.
  AeDr4: Regions that draw: the steps of the invariant.
  AeDr5: Regions that draw: operations are run.
-/
import Derived.Test.YtfiainenbpldgaaGreatDoorAeKit2
import Derived.Laws.IdiomStrings
import Derived.RangeFuncLeaves
import Derived.OrdersIn
import Derived.RecoverIn

namespace Go.AE

section
variable {Y : Sy} {E : Env} {ρ : Rho} {h : H} {w : World}

theorem asciiS_all : ∀ {s : List Nat}, asciiS s = true → ∀ b ∈ s, b < 128
  | [], _, b, hb => by cases hb
  | a :: r, h, b, hb => by
    have e : asciiS (a :: r) = Bool.rec (motive := fun _ => Bool) false (asciiS r) (Nat.blt a 128) := rfl
    rw [e] at h
    cases ha : Nat.blt a 128 with
    | false => rw [ha] at h; cases h
    | true =>
      rw [ha] at h
      rcases List.mem_cons.1 hb with rfl | hb
      · exact Nat.le_of_ble_eq_true ha
      · exact asciiS_all h b hb

theorem decode_ascii2 (s : ByteArray) (i : Nat) (h : (s.get! i).toNat < 128) : Utf8.decode s i = ((s.get! i).toNat, 1) := by
  unfold Utf8.decode
  have h' : (s.get! (i + 0)).toNat < 128 := h
  simp only [h', if_true]
  rfl

theorem runesFrom_ascii (s : ByteArray) (hs : ∀ i, i < s.size → (s.get! i).toNat < 128) : ∀ (bound i : Nat) (acc : Array Value), s.size ≤ i + bound →
    Conv.runesFrom s bound i acc = acc ++ ((s.data.toList.drop i).map fun b => Value.int .i32 (b.toNat : Int)).toArray
  | 0, i, acc, hb => by
    have : s.data.toList.drop i = [] := List.drop_eq_nil_of_le (by show s.data.toList.length ≤ i; rw [Array.length_toList]; exact hb)
    rw [this]
    simp [Conv.runesFrom]
  | bound + 1, i, acc, hb => by
    unfold Conv.runesFrom
    split
    · rename_i hlt
      rw [decode_ascii2 s i (hs i hlt)]
      dsimp only
      rw [runesFrom_ascii s hs bound (i + 1) _ (by omega)]
      have hl : i < s.data.toList.length := by rw [Array.length_toList]; exact hlt
      rw [List.drop_eq_getElem_cons hl]
      have hg : s.get! i = s.data.toList[i] := by
        have : s.get! i = s.data[i]! := rfl
        rw [this, getElem!_pos s.data i hlt]
        simp
      apply Array.ext'
      simp [hg]
    · rename_i hlt
      have : s.data.toList.drop i = [] := List.drop_eq_nil_of_le (by rw [Array.length_toList]; exact Nat.le_of_not_lt hlt)
      rw [this]
      simp

theorem bytesV_get {s : List Nat} (h : ∀ b ∈ s, b < 128) : ((bytesV s).data.toList.map fun b => Value.int .i32 (b.toNat : Int)) = s.map fun b : Nat => Value.int .i32 (b : Int) := by
  unfold bytesV
  simp only [List.map_map]
  apply List.map_congr_left
  intro b hb
  have := h b hb
  simp only [Function.comp]
  have : (UInt8.ofNat b).toNat = b := by
    rw [UInt8.toNat_ofNat']
    omega
  rw [this]

theorem concs_runes (s : List Nat) : concs Y ρ (s.map fun b => AV.int .i32 (.ofNat b)) = some (s.map fun b : Nat => Value.int .i32 (b : Int)) := by
  induction s with
  | nil => rfl
  | cons a r ih => exact concs_cons.2 ⟨_, _, rfl, ih, rfl⟩

theorem convK_to {s d : TypeId} (h : convK E s d = .toRunes) : ∃ e, E.und s = some .string ∧ E.und d = some (.slice e) ∧ E.und e = some (.int .i32) := by
  unfold convK at h
  split at h
  · rename_i e h1 h2
    split at h
    · rename_i h3; exact ⟨e, h1, h2, h3⟩
    · cases h
  · split at h <;> cases h
  · cases h

theorem convK_of {s d : TypeId} (h : convK E s d = .ofRunes) : ∃ e, E.und d = some .string ∧ E.und s = some (.slice e) ∧ E.und e = some (.int .i32) := by
  unfold convK at h
  split at h
  · split at h <;> cases h
  · rename_i e h1 h2
    split at h
    · rename_i h3; exact ⟨e, h2, h1, h3⟩
    · cases h
    · cases h
  · cases h

theorem convK_ofB {s d : TypeId} (h : convK E s d = .ofBytes) : ∃ e, E.und d = some .string ∧ E.und s = some (.slice e) ∧ E.und e = some (.int .u8) := by
  unfold convK at h
  split at h
  · split at h <;> cases h
  · rename_i e h1 h2
    split at h
    · cases h
    · rename_i h3; exact ⟨e, h2, h1, h3⟩
    · cases h
  · cases h

theorem repeatC_one (v : Value) (n : Nat) : repeatC [v] n = List.replicate n v := by
  induction n with
  | zero => rfl
  | succ n ih => rw [List.replicate_succ, ← ih]; rfl

theorem runes_ok (hE : EnvOk Y E) (hr : Rel Y E ρ h w) {s d : TypeId} {l : List Nat} {cx : Value} (hc : convK E s d = .toRunes) (hx : conc Y ρ (.str l) = some cx) {v : AV} {h' : H} (hv : runesA h l = some (v, h')) :
    Acts Y E ρ h w (convert s d cx) v h' := by
  obtain ⟨e, h1, h2, h3⟩ := convK_to hc
  unfold runesA at hv
  split at hv
  · rename_i g1 g2
    have g2' := Nat.le_of_ble_eq_true g2
    have ha := asciiS_all g1
    rw [forceN_eq, newRowA_eq, H.new_eq] at hv
    cases hv
    have hok : okBytes l = true := by
      unfold okBytes
      rw [List.all_eq_true]
      intro b hb
      have := ha b hb
      simp; omega
    have hcx : cx = .string (bytesV l) := by
      simp only [conc, hok, if_true] at hx
      cases hx; rfl
    subst hcx
    have hsz : (bytesV l).size = l.length := by show (l.map UInt8.ofNat).toArray.size = _; simp
    have hall : ∀ i, i < (bytesV l).size → ((bytesV l).get! i).toNat < 128 := fun i hi => by
      have hi' : i < l.length := by rw [← hsz]; exact hi
      have e1 : (bytesV l).get! i = (l.map UInt8.ofNat).toArray[i]! := rfl
      rw [e1, getElem!_pos _ i (by simpa using hi')]
      simp only [List.getElem_toArray, List.getElem_map]
      have := ha _ (List.getElem_mem hi')
      rw [UInt8.toNat_ofNat']
      omega
    have hrf : Conv.runesFrom (bytesV l) (bytesV l).size 0 #[] = (l.map fun b : Nat => Value.int .i32 (b : Int)).toArray := by
      rw [runesFrom_ascii _ hall _ _ _ (by omega), List.drop_zero, bytesV_get ha]
      simp
    have hn : (Conv.runesFrom (bytesV l) (bytesV l).size 0 #[]).size = l.length := by rw [hrf]; simp
    have hrun := run_runes_of_string (P := E.P) w s d e (bytesV l) (und_ok hE h1) (und_ok hE h2) (und_ok hE h3) (by rw [hn]; omega)
    rw [hn, hrf] at hrun
    have hr' : Rel Y E ρ h w.drew := hr.of_heap rfl
    have hcap := grownCap_ge w l.length 0 e
    have hgo := grow_rel hr' (cs := l.map fun b => AV.int .i32 (.ofNat b)) (ccs := l.map fun b : Nat => Value.int .i32 (b : Int)) (zs := [.int .i32 0]) (need := l.length) (cap := grownCap w l.length 0 e) (size := 1) (elem := e)
      (concs_runes l) (by rw [List.all_eq_true]; intro x hx; obtain ⟨b, _, rfl⟩ := List.mem_map.1 hx; rfl) (by simp) rfl hcap
    rw [zeroCells_eq, repeatC_one, H.new_eq] at hgo
    rw [show (Array.replicate (grownCap w l.length 0 e - l.length) (Value.int .i32 0)) = (List.replicate (grownCap w l.length 0 e - l.length) (Value.int .i32 0)).toArray by simp] at hrun
    refine ⟨_, _, _, hrun, Goes.trans hr (Goes.of_drawn (w' := w.drew) hr rfl rfl rfl rfl) hgo, ?_⟩
    rw [conc_of_gslice (L := ⟨w.drew.heap.size, 0, grownCap w l.length 0 e⟩) (Rho.set_same _ _ _) (by simpa using hcap)]
    rfl
  · cases hv

theorem runeB_eq {a : AV} {n : Nat} (h : runeB a = some n) : a = .int .i32 (.ofNat n) ∧ n < 128 := by
  unfold runeB at h
  split at h
  · split at h
    · rename_i hlt; cases h; exact ⟨rfl, Nat.le_of_ble_eq_true hlt⟩
    · cases h
  · cases h

theorem runesS_eq : ∀ {l : List AV} {s : List Nat}, runesS l = some s → (l = s.map fun b => AV.int .i32 (.ofNat b)) ∧ ∀ b ∈ s, b < 128
  | [], s, h => by cases h; exact ⟨rfl, fun b hb => by cases hb⟩
  | a :: r, s, h => by
    unfold runesS at h
    split at h
    · rename_i n l h1 h2
      cases h
      obtain ⟨rfl, hn⟩ := runeB_eq h1
      obtain ⟨rfl, hl⟩ := runesS_eq h2
      refine ⟨rfl, fun b hb => ?_⟩
      rcases List.mem_cons.1 hb with rfl | hb
      · exact hn
      · exact hl b hb
    · cases h

theorem encode_ascii {n : Nat} (h : n < 128) : Utf8.encode (n : Int) = ⟨#[UInt8.ofNat n]⟩ := by
  unfold Utf8.encode
  have hv : Utf8.valid (n : Int) = true := by unfold Utf8.valid; simp; omega
  have h' : ((n : Int).toNat) < 128 := by omega
  simp only [hv, if_true, h']
  simp

theorem run_runesToString (P : Program) (w : World) (a : Addr) (n c : Nat) (s : List Nat) (hs : ∀ b ∈ s, b < 128)
    (hl : (loadCells a n).run P w = .ok (s.map fun b : Nat => Value.int .i32 (b : Int)).toArray w) :
    (Conv.runesToString (.slice (some a) n c)).run P w = .ok (.string (bytesV s)) w := by
  have key : ∀ (s : List Nat) (acc : ByteArray), (∀ b ∈ s, b < 128) → (do
      let mut r := acc
      for c in (s.map fun b : Nat => Value.int .i32 (b : Int)).toArray do
        let .int .i32 n := c | stuck "runesToString: rune expected"
        r := r ++ Utf8.encode n
      pure (.string r) : Sem Value).run P w = .ok (.string (acc ++ bytesV s)) w := by
    intro s
    induction s with
    | nil => intro acc _; have e0 : bytesV [] = ByteArray.empty := rfl; rw [e0]; simp
    | cons b r ih =>
      intro acc h
      have := ih (acc ++ Utf8.encode (b : Int)) (fun x hx => h x (by simp [hx]))
      simp at this ⊢
      rw [this, encode_ascii (h b (by simp)), ByteArray.append_assoc]
      rfl
  unfold Conv.runesToString
  simp only [Sem.run_bind, hl, Result.andThen_ok]
  have := key s ByteArray.empty hs
  simpa using this

theorem ofRunes_ok (hE : EnvOk Y E) (hr : Rel Y E ρ h w) {s d : TypeId} {x : AV} {cx : Value} (hc : convK E s d = .ofRunes) (hx : conc Y ρ x = some cx) {v : AV} (hv : ofRunesA h x = some v) :
    Acts Y E ρ h w (convert s d cx) v h := by
  obtain ⟨e, h1, h2, h3⟩ := convK_of hc
  have key : ∀ (b o n c : Nat) (L : Loc), ρ b = some L → cx = .slice (some (L.addr o)) n c → (match loadCellsA h b o n with | some l => (match runesS l with | some s => some (AV.str s) | none => none) | none => none) = some v → Acts Y E ρ h w (convert s d cx) v h := by
    intro b o n c L hL hcx hm
    subst hcx
    split at hm
    · rename_i l hl
      split at hm
      · rename_i sl hsl
        cases hm
        obtain ⟨rfl, hlt⟩ := runesS_eq hsl
        obtain ⟨L', cs, q1, q2, q3, q4, q5⟩ := loadCells_sound hr hl
        rw [hL] at q1
        cases q1
        rw [concs_runes] at q2
        cases q2
        have hload := run_loadCells_list (P := E.P) w (L.addr o) (sl.map fun b : Nat => Value.int .i32 (b : Int)) (fun j v hj => by
          rw [addr_add]
          exact q5 j v hj)
        rw [show (sl.map fun b : Nat => Value.int .i32 (b : Int)).length = n by rw [List.length_map] at q4 ⊢; exact q4] at hload
        have hrun := run_runesToString E.P w (L.addr o) n c sl hlt hload
        refine ⟨.string (bytesV sl), w, ρ, ?_, Goes.refl hr, ?_⟩
        · simp only [convert, Sem.run_bind, run_und hE h2, run_und hE h1, run_und hE h3, Result.andThen_ok]
          exact hrun
        · have hok : okBytes sl = true := by
            unfold okBytes
            rw [List.all_eq_true]
            intro b hb
            have := hlt b hb
            simp; omega
          simp only [conc, hok, if_true]
      · cases hm
    · cases hm
  unfold ofRunesA at hv
  split at hv
  · obtain ⟨L, hL, e⟩ := conc_slice hx
    exact key _ _ _ _ L hL e hv
  · obtain ⟨L, hL, e⟩ := conc_gslice hx
    exact key _ _ _ _ L hL e hv
  · cases hv

theorem byteB_eq {a : AV} {n : Nat} (h : byteB a = some n) : a = .int .u8 (.ofNat n) ∧ n < 256 := by
  unfold byteB at h
  split at h
  · split at h
    · rename_i hlt; cases h; exact ⟨rfl, Nat.le_of_ble_eq_true hlt⟩
    · cases h
  · cases h

theorem bytesS_eq : ∀ {l : List AV} {s : List Nat}, bytesS l = some s → (l = s.map fun b => AV.int .u8 (.ofNat b)) ∧ ∀ b ∈ s, b < 256
  | [], s, h => by cases h; exact ⟨rfl, fun b hb => by cases hb⟩
  | a :: r, s, h => by
    unfold bytesS at h
    split at h
    · rename_i n l h1 h2
      cases h
      obtain ⟨rfl, hn⟩ := byteB_eq h1
      obtain ⟨rfl, hl⟩ := bytesS_eq h2
      refine ⟨rfl, fun b hb => ?_⟩
      rcases List.mem_cons.1 hb with rfl | hb
      · exact hn
      · exact hl b hb
    · cases h

theorem concs_bytes (s : List Nat) : concs Y ρ (s.map fun b => AV.int .u8 (.ofNat b)) = some (s.map fun b : Nat => Value.int .u8 (b : Int)) := by
  induction s with
  | nil => rfl
  | cons a r ih => exact concs_cons.2 ⟨_, _, rfl, ih, rfl⟩

theorem ofBytes_ok (hE : EnvOk Y E) (hr : Rel Y E ρ h w) {s d : TypeId} {x : AV} {cx : Value} (hc : convK E s d = .ofBytes) (hx : conc Y ρ x = some cx) {v : AV} (hv : ofBytesA h x = some v) :
    Acts Y E ρ h w (convert s d cx) v h := by
  obtain ⟨e, h1, h2, h3⟩ := convK_ofB hc
  have key : ∀ (b o n c : Nat) (L : Loc), ρ b = some L → cx = .slice (some (L.addr o)) n c → (match loadCellsA h b o n with | some l => (match bytesS l with | some s => some (AV.str s) | none => none) | none => none) = some v → Acts Y E ρ h w (convert s d cx) v h := by
    intro b o n c L hL hcx hm
    subst hcx
    split at hm
    · rename_i l hl
      split at hm
      · rename_i sl hsl
        cases hm
        obtain ⟨rfl, hlt⟩ := bytesS_eq hsl
        obtain ⟨L', cs, q1, q2, q3, q4, q5⟩ := loadCells_sound hr hl
        rw [hL] at q1
        cases q1
        rw [concs_bytes] at q2
        cases q2
        have hln : (sl.map UInt8.ofNat).length = n := by rw [List.length_map] at q4 ⊢; exact q4
        have hrun := run_convert_bytes_back (P := E.P) w s d e (L.addr o) c (sl.map UInt8.ofNat) (und_ok hE h2) (und_ok hE h3) (und_ok hE h1) (fun j hj => by
          rw [addr_add]
          refine q5 j _ ?_
          have hj' : j < sl.length := by simpa using hj
          have hb := hlt _ (List.getElem_mem hj')
          rw [List.getElem?_map, List.getElem?_eq_getElem hj', List.getElem_map, UInt8.toNat_ofNat', Nat.mod_eq_of_lt (by omega)]
          rfl)
        rw [hln] at hrun
        refine ⟨.string (bytesV sl), w, ρ, hrun, Goes.refl hr, ?_⟩
        have hok : okBytes sl = true := by
          unfold okBytes
          rw [List.all_eq_true]
          intro b hb
          have := hlt b hb
          simpa using this
        simp only [conc, hok, if_true]
      · cases hm
    · cases hm
  unfold ofBytesA at hv
  split at hv
  · cases hv
    simp only [conc] at hx
    cases hx
    refine ⟨.string (bytesV []), w, ρ, ?_, Goes.refl hr, rfl⟩
    simp only [convert, Sem.run_bind, run_und hE h2, run_und hE h1, run_und hE h3, Result.andThen_ok]
    rfl
  · obtain ⟨L, hL, e⟩ := conc_slice hx
    exact key _ _ _ _ L hL e hv
  · obtain ⟨L, hL, e⟩ := conc_gslice hx
    exact key _ _ _ _ L hL e hv
  · cases hv

theorem concs_one {a : AV} {x : Value} (h : concs Y ρ [a] = some [x]) : conc Y ρ a = some x := by
  obtain ⟨_, _, h1, _, e⟩ := concs_cons.1 h
  cases e
  exact h1

end
end Go.AE

namespace Go.AE

/-- the program's own variables lie at the heap's start -/
def Glob (E : Env) (ρ : Rho) : Prop := ∀ g, g < E.ng → ∃ c, ρ g = some ⟨g, 0, c⟩

theorem Glob.mono {E : Env} {ρ ρ' : Rho} (h : Glob E ρ) (hle : ρ.le ρ') : Glob E ρ' := fun g hg => let ⟨c, hc⟩ := h g hg; ⟨c, hle _ _ hc⟩

/-- a value is handed over, and the heap has gone on -/
def PostV (Y : Sy) (E : Env) (ρ : Rho) (h : H) (w : World) (k : KV) : Ending → World → Prop
  | .returned v, w' => ∃ ρ' h' av, Goes Y E ρ h w ρ' h' w' ∧ conc Y ρ' av = some v ∧ k av h' = true
  | _, _ => False

/-- what the calls of the evaluator are worth -/
def RecOk (Y : Sy) (E : Env) (rc : Rec) : Prop :=
  ∀ (tgt : Tgt) (args : List AV) (h : H) (k : KV) (ρ : Rho) (w : World) (cargs : List Value), Rel Y E ρ h w → Glob E ρ → concs Y ρ args = some cargs → rc tgt args h k = true →
    match tgt with
    | .fn f => (callFunc f cargs.toArray).run E.P w = .ok (.enter f cargs.toArray) w ∧ ∀ n, CallsIn Fence.wide n E.P f cargs.toArray w (PostV Y E ρ h w k)
    | .yield l => ∃ L f tmps as b, ρ l = some L ∧ (Instr.yield L.blk cargs.toArray).run E.P w = .ok (.round L.blk f tmps as b) w ∧ ∀ n, RoundIn Fence.wide n E.P L.blk f tmps as b w (PostV Y E ρ h w k)
    | .dfn f => (callFunc f cargs.toArray).run E.P w = .ok (.enter f cargs.toArray) w ∧ ∀ n, CallsDIn Fence.wide n E.P f cargs.toArray .returning w fun e u' w' => u' = .returning ∧ PostV Y E ρ h w k e w'

/-- what comes of an operation that may call -/
def BigPost (Y : Sy) (E : Env) (ρ : Rho) (h : H) (w : World) (k : KV) : Result Next → Prop
  | .ok (.value v) w' => PostV Y E ρ h w k (.returned v) w'
  | .ok .skip w' => PostV Y E ρ h w k (.returned undef) w'
  | .ok (.enter f args) w' => ∀ n, CallsIn Fence.wide n E.P f args w' (PostV Y E ρ h w k)
  | .ok (.round l f tmps as b) w' => ∀ n, RoundIn Fence.wide n E.P l f tmps as b w' (PostV Y E ρ h w k)
  | _ => False

/-- two heaps that agree on the blocks of a value -/
def SameAt (a : AV) (h h' : H) : Prop := ∀ b ∈ blkOf a, h'.get b = h.get b

def KOk (Y : Sy) (E : Env) (o : Oper) : K → Prop
  | .p1 x g => ∀ (ρ : Rho) (ev : Operand → Value) (w : World) (a v : AV), conc Y ρ a = some (ev x) → g a = some v → ∃ cv, (execOp ev o).run E.P w = .ok (.value cv) w ∧ conc Y ρ v = some cv
  | .p2 x y g => ∀ (ρ : Rho) (ev : Operand → Value) (w : World) (a b v : AV), conc Y ρ a = some (ev x) → conc Y ρ b = some (ev y) → g a b = some v → ∃ cv, (execOp ev o).run E.P w = .ok (.value cv) w ∧ conc Y ρ v = some cv
  | .pn xs g => ∀ (ρ : Rho) (ev : Operand → Value) (w : World) (l : List AV) (v : AV), concs Y ρ l = some (xs.map ev) → g l = some v → ∃ cv, (execOp ev o).run E.P w = .ok (.value cv) w ∧ conc Y ρ v = some cv
  | .r1 x g => (∀ a h h', SameAt a h h' → g a h' = g a h) ∧
      ∀ (ρ : Rho) (ev : Operand → Value) (w : World) (h : H) (a v : AV), Rel Y E ρ h w → conc Y ρ a = some (ev x) → g a h = some v → ∃ cv, (execOp ev o).run E.P w = .ok (.value cv) w ∧ conc Y ρ v = some cv
  | .r2 x y g => (∀ a b h h', SameAt a h h' → g a b h' = g a b h) ∧
      ∀ (ρ : Rho) (ev : Operand → Value) (w : World) (h : H) (a b v : AV), Rel Y E ρ h w → conc Y ρ a = some (ev x) → conc Y ρ b = some (ev y) → g a b h = some v → ∃ cv, (execOp ev o).run E.P w = .ok (.value cv) w ∧ conc Y ρ v = some cv
  | .rn xs bk g => (∀ l h h', (∀ b ∈ bk l, h'.get b = h.get b) → g l h' = g l h) ∧ (∀ (ρ : Rho) l cs, concs Y ρ l = some cs → ∀ b ∈ bk l, ∃ L, ρ b = some L) ∧
      ∀ (ρ : Rho) (ev : Operand → Value) (w : World) (h : H) (l : List AV) (v : AV), Rel Y E ρ h w → concs Y ρ l = some (xs.map ev) → g l h = some v → ∃ cv, (execOp ev o).run E.P w = .ok (.value cv) w ∧ conc Y ρ v = some cv
  | .a1 x g => ∀ (ρ : Rho) (ev : Operand → Value) (w : World) (a : AV) (ob : AObj), conc Y ρ a = some (ev x) → g a = some ob → ∃ s, execOp ev o = (do pure (.value (← s)) : Sem Next) ∧ Makes Y E ρ w s ob fun b => .ptr b 0
  | .an xs g => ∀ (ρ : Rho) (ev : Operand → Value) (w : World) (l : List AV) (p : AObj × (Nat → AV)), concs Y ρ l = some (xs.map ev) → g l = some p → ∃ s, execOp ev o = (do pure (.value (← s)) : Sem Next) ∧ Makes Y E ρ w s p.1 p.2
  | .b2 x y g => ∀ (ρ : Rho) (ev : Operand → Value) (w : World) (h h' : H) (a b : AV), Rel Y E ρ h w → conc Y ρ a = some (ev x) → conc Y ρ b = some (ev y) → g a b h = some h' → ∃ w', (execOp ev o).run E.P w = .ok .skip w' ∧ Goes Y E ρ h w ρ h' w'
  | .bn xs g => ∀ (rc : Rec) (k : KV) (ρ : Rho) (ev : Operand → Value) (w : World) (h : H) (l : List AV), RecOk Y E rc → Rel Y E ρ h w → Glob E ρ → concs Y ρ l = some (xs.map ev) → g rc l h k = true → BigPost Y E ρ h w k ((execOp ev o).run E.P w)
  | .df xs g => (∃ c, o.op = .defer c) ∧ ∀ (ρ : Rho) (ev : Operand → Value) (w : World) (l : List AV) (v : AV), concs Y ρ l = some (xs.map ev) → g l = some v →
      ∃ fn fn' first cap cfirst ccap, v = .func fn first cap ∧ concFn ρ fn = some fn' ∧ concs Y ρ first = some cfirst ∧ concs Y ρ cap = some ccap ∧ (execOp ev o).run E.P w = .ok (.defer { target := .fn fn' ccap.toArray, args := cfirst.toArray }) w
  | .bad => True

section
variable {Y : Sy} {E : Env} {ρ : Rho} {h : H} {w : World}

theorem run_v {α : Type} {P : Program} {s : Sem α} {f : α → Next} {a : α} {w' : World} (h : s.run P w = .ok a w') : (do pure (f (← s)) : Sem Next).run P w = .ok (f a) w' := by
  simp only [Sem.run_bind, h, Result.andThen_ok, Sem.run_pure]

theorem run_u {P : Program} {s : Sem Unit} {w' : World} (h : s.run P w = .ok () w') : (do s; pure .skip : Sem Next).run P w = .ok .skip w' := by
  simp only [Sem.run_bind, h, Result.andThen_ok, Sem.run_pure]

theorem Yields.next {s : Sem Value} {v : AV} (h : Yields Y E ρ w s v) : ∃ cv, (do pure (.value (← s)) : Sem Next).run E.P w = .ok (.value cv) w ∧ conc Y ρ v = some cv :=
  let ⟨cv, h1, h2⟩ := h; ⟨cv, run_v h1, h2⟩

theorem Acts.big {s : Sem Value} {v : AV} {h' : H} {k : KV} (ha : Acts Y E ρ h w s v h') (hk : k v h' = true) : BigPost Y E ρ h w k ((do pure (.value (← s)) : Sem Next).run E.P w) := by
  obtain ⟨cv, w', ρ', h1, h2, h3⟩ := ha
  rw [run_v h1]
  exact ⟨ρ', h', v, h2, h3, hk⟩

theorem parts_rel {ev : Operand → Value} : ∀ (ps : List (Nat × Operand)) (l : List AV), concs Y ρ l = some ((snds ps).map ev) → PartsRel Y ρ (zipIdx (fsts ps) l) (ps.map fun p => (p.1, ev p.2))
  | [], l, h => by
    have : l = [] := by
      cases l with
      | nil => rfl
      | cons v r => obtain ⟨_, _, _, _, e⟩ := concs_cons.1 h; cases e
    subst this
    trivial
  | (i, x) :: r, l, h => by
    cases l with
    | nil => rw [concs_nil] at h; cases h
    | cons v l =>
      obtain ⟨cv, cr, h1, h2, e⟩ := concs_cons.1 h
      simp only [snds, List.map_cons, List.cons.injEq] at e
      obtain ⟨rfl, rfl⟩ := e
      exact ⟨rfl, h1, parts_rel r l h2⟩

theorem concs_pair {a b : AV} {x y : Value} (h : concs Y ρ [a, b] = some [x, y]) : conc Y ρ a = some x ∧ conc Y ρ b = some y := by
  obtain ⟨_, _, h1, h2, e⟩ := concs_cons.1 h
  obtain ⟨_, _, h3, _, e'⟩ := concs_cons.1 h2
  cases e
  cases e'
  exact ⟨h1, h3⟩

theorem concs_pop {v : AV} {r : List AV} {x : Value} {cs : List Value} (h : concs Y ρ (v :: r) = some (x :: cs)) : conc Y ρ v = some x ∧ concs Y ρ r = some cs := by
  obtain ⟨_, _, h1, h2, e⟩ := concs_cons.1 h
  cases e
  exact ⟨h1, h2⟩

theorem takeO_ok {ev : Operand → Value} {a : Option Operand} {l : List AV} {cs : List Value} (h : concs Y ρ l = some ((optL a).map ev ++ cs)) :
    OptRel Y ρ (takeO a l).1 (a.map ev) ∧ concs Y ρ (takeO a l).2 = some cs := by
  cases a with
  | none =>
    have e : takeO none l = (none, l) := by cases l <;> rfl
    rw [e]
    exact ⟨trivial, by simpa [optL] using h⟩
  | some x =>
    cases l with
    | nil => rw [concs_nil] at h; simp [optL] at h
    | cons v r =>
      have h' : concs Y ρ (v :: r) = some (ev x :: cs) := by simpa [optL] using h
      obtain ⟨h1, h2⟩ := concs_pop h'
      exact ⟨h1, h2⟩

theorem get_same {b : Nat} {h h' : H} (e : h'.get b = h.get b) (o : Nat) : loadCellA h' b o = loadCellA h b o := by
  unfold loadCellA; rw [e]

theorem gets_same {b : Nat} {h h' : H} (e : h'.get b = h.get b) (o n : Nat) : loadCellsA h' b o n = loadCellsA h b o n := by
  unfold loadCellsA; rw [e]

theorem loadP_same {t : TypeId} {a : AV} {h h' : H} (hs : SameAt a h h') : loadP E t a h' = loadP E t a h := by
  unfold loadP
  cases E.und t with
  | none => rfl
  | some d =>
    dsimp only
    cases isAggD d with
    | false =>
      dsimp only
      cases hp : asP a with
      | none => rfl
      | some p =>
        dsimp only
        rw [asP_eq hp] at hs
        exact get_same (hs p.1 (by simp [blkOf])) _
    | true =>
      dsimp only
      cases E.size t with
      | none => rfl
      | some n =>
        dsimp only
        cases hp : asP a with
        | none => rfl
        | some p =>
          dsimp only
          rw [asP_eq hp] at hs
          rw [gets_same (hs p.1 (by simp [blkOf]))]

theorem lenA_same {t : TypeId} {a : AV} {h h' : H} (hs : SameAt a h h') : lenA E h' t a = lenA E h t a := by
  unfold lenA
  split <;> first | rfl | skip
  rw [hs _ (by simp [blkOf])]

theorem lookupK_same {t : TypeId} {a b : AV} {ok : Bool} {h h' : H} (hs : SameAt a h h') : lookupK E h' t a b ok = lookupK E h t a b ok := by
  unfold lookupK
  split
  · split
    · rfl
    · split
      · rfl
      · split
        · rfl
        · rw [hs _ (by simp [blkOf])]
        · rfl
  · rfl

theorem lookupS_same {t : TypeId} {a b : AV} {ok : Bool} {h h' : H} (hs : SameAt a h h') : lookupS E h' t a b ok = lookupS E h t a b ok := by
  unfold lookupS
  split
  · rw [hs _ (by simp [blkOf])]
  · rfl

theorem lookupA_same {t : TypeId} {a b : AV} {ok : Bool} {h h' : H} (hs : SameAt a h h') : lookupA E h' t a b ok = lookupA E h t a b ok := by
  unfold lookupA
  rw [lookupK_same hs, lookupS_same hs]

theorem findMethod_find {name : String} : ∀ {ms : List Method} {m : Method}, findMethod name ms = some m → ms.find? (·.name == name) = some m
  | [], _, h => by cases h
  | x :: r, m, h => by
    simp only [findMethod] at h
    cases hd : decide (x.name = name) with
    | true =>
      rw [hd] at h
      cases h
      have := of_decide_eq_true hd
      simp [this]
    | false =>
      rw [hd] at h
      have := of_decide_eq_false hd
      simp only [List.find?_cons]
      have e : (x.name == name) = false := by simpa using this
      rw [e]
      exact findMethod_find h

theorem follow_ok (hE : EnvOk Y E) : ∀ (p : List FieldStep) (t : TypeId) (v : AV) (cv : Value) (xt : TypeId) (x : AV), conc Y ρ v = some cv → followA E p t v = some (xt, x) →
    ∃ cx, (follow p t (.val cv)).run E.P w = .ok (xt, .val cx) w ∧ (followBlind p t (some cv)).run E.P w = .ok (.ok (xt, some cx)) w ∧ conc Y ρ x = some cx
  | [], t, v, cv, xt, x, hv, hf => by
    cases hf
    exact ⟨cv, rfl, rfl, hv⟩
  | s :: r, t, v, cv, xt, x, hv, hf => by
    simp only [followA] at hf
    split at hf
    · rename_i fields l hd hu
      obtain ⟨cs, h1, rfl, h2⟩ := conc_agg hv
      split at hf
      · rename_i f hff
        rw [bnd_eq] at hf
        obtain ⟨v', hp, hf⟩ := hf
        obtain ⟨cv', k1, k2⟩ := part_ok (w := w) hE hp h1 h2
        obtain ⟨cx, k3, k4, k5⟩ := follow_ok hE r f.type v' cv' xt x k2 hf
        have hff' : fields[s.index]? = some f := by rw [← Array.getElem?_toList]; exact hff
        refine ⟨cx, ?_, ?_, k5⟩
        · simp only [follow, Sem.run_bind, run_und hE hu, Result.andThen_ok, hff', hd, Bool.false_eq_true, if_false, k1, k3]
        · simp only [followBlind, Sem.run_bind, run_und hE hu, Result.andThen_ok, hff', hd, k1, k4]
      · cases hf
    · cases hf

theorem recv_ok (hE : EnvOk Y E) {t : TypeId} {name : String} {v v' : AV} {cv : Value} {f : FuncId} (hv : conc Y ρ v = some cv) (hm : recvA E t name v = some (f, v')) :
    ∃ cv', (method (E.P.types.size + Made.depth) t cv name).run E.P w = .ok (f, cv') w ∧ (nilAhead (E.P.types.size + Made.depth) t cv name).run E.P w = .ok (some false) w ∧ conc Y ρ v' = some cv' := by
  unfold recvA at hm
  rw [bnd_eq] at hm
  obtain ⟨i, hi, hm⟩ := hm
  rw [bnd_eq] at hm
  obtain ⟨m, hfm, hm⟩ := hm
  rw [bnd_eq] at hm
  obtain ⟨⟨xt, x⟩, hfo, hm⟩ := hm
  obtain ⟨cx, k1, k2, k3⟩ := follow_ok (w := w) hE _ _ _ _ _ _ hv hfo
  obtain ⟨n, hn⟩ : ∃ n, E.P.types.size + Made.depth = n + 1 := ⟨E.P.types.size + Made.depth - 1, by have := hE.some_types; omega⟩
  rw [hn]
  have hfind : i.methods.find? (·.name == name) = some m := by
    rw [← Array.find?_toList]
    exact findMethod_find hfm
  split at hm
  · rename_i f' e hf hu
    cases hm
    refine ⟨cx, ?_, ?_, k3⟩
    · simp only [method, Sem.run_bind, run_info hE hi, Result.andThen_ok, hfind, k1, hf, receiverAt, run_und hE hu, Place.get, Sem.run_pure]
    · simp only [nilAhead, Sem.run_bind, run_info hE hi, Result.andThen_ok, hfind, k2, hf, Sem.run_pure]
  · cases hm
  · cases hm
  · rename_i f' d hno hf hu
    cases hm
    refine ⟨cx, ?_, ?_, k3⟩
    · simp only [method, Sem.run_bind, run_info hE hi, Result.andThen_ok, hfind, k1, hf, receiverAt, run_und hE hu]
      cases d <;> first | (simp [Place.get]; done) | exact absurd rfl (hno _)
    · simp only [nilAhead, Sem.run_bind, run_info hE hi, Result.andThen_ok, hfind, k2, hf, run_und hE hu]
      cases d <;> first | (simp; done) | exact absurd rfl (hno _)
  · cases hm

/-- a method of an interface value is called -/
theorem methodV_ok (hE : EnvOk Y E) {rc : Rec} {k : KV} {name : String} {l : List AV} {cs : List Value} (hrc : RecOk Y E rc) (hr : Rel Y E ρ h w) (hg : Glob E ρ) (hl : concs Y ρ l = some cs) (hc : methodV E name rc l h k = true) (cap : Array Value) :
    BigPost Y E ρ h w k ((invoke (.fn (.method name) cap) cs.toArray).run E.P w) := by
  unfold methodV at hc
  split at hc
  · rename_i t v args
    obtain ⟨c0, cr, h1, h2, rfl⟩ := concs_cons.1 hl
    obtain ⟨cv, h3, rfl⟩ := conc_iface h1
    obtain ⟨⟨f, v'⟩, hm, hk⟩ := optK_eq.1 hc
    obtain ⟨cv', k1, _, k2⟩ := recv_ok (w := w) hE h3 hm
    have hall : concs Y ρ (v' :: args) = some (cv' :: cr) := concs_cons.2 ⟨_, _, k2, h2, rfl⟩
    obtain ⟨g1, g2⟩ := hrc (.fn f) _ h k ρ w _ hr hg hall hk
    have e2 : (Value.iface t cv :: cr).toArray[0]? = some (.iface t cv) := by simp
    have e3 : (Value.iface t cv :: cr).toArray.extract 1 (Value.iface t cv :: cr).toArray.size = cr.toArray := by
      apply Array.ext'
      simp only [Array.toList_extract, List.extract]
      simp
    have e4 : #[cv'] ++ cr.toArray = (cv' :: cr).toArray := by simp
    simp only [invoke, e2, e3, callMethod, Sem.run_bind, run_program, Result.andThen_ok, k1, e4, g1]
    exact g2
  · cases hc

theorem callV_ok (hE : EnvOk Y E) {rc : Rec} {k : KV} {fv : AV} {args : List AV} {cf : Value} {cargs : List Value} (hrc : RecOk Y E rc) (hr : Rel Y E ρ h w) (hg : Glob E ρ) (hf : conc Y ρ fv = some cf) (ha : concs Y ρ args = some cargs) (hc : callV E rc fv args h k = true) :
    BigPost Y E ρ h w k ((do let d ← Deferred.ofValue cf cargs.toArray; invoke d.target d.args : Sem Next).run E.P w) := by
  unfold callV at hc
  split at hc
  · rename_i fn first cap
    simp only [conc] at hf
    split at hf
    · rename_i fn' cfirst ccap e1 e2 e3
      cases hf
      split at hc
      · rename_i f
        cases e1
        have hall : concs Y ρ (first ++ (args ++ cap)) = some (cfirst ++ (cargs ++ ccap)) := concs_append.2 ⟨_, _, e2, concs_append.2 ⟨_, _, ha, e3, rfl⟩, rfl⟩
        obtain ⟨h1, h2⟩ := hrc (.fn f) _ h k ρ w _ hr hg hall hc
        simp only [Deferred.ofValue, Sem.run_bind, Sem.run_pure, Result.andThen_ok, invoke]
        have e : cfirst.toArray ++ cargs.toArray ++ ccap.toArray = (cfirst ++ (cargs ++ ccap)).toArray := by simp
        rw [e, h1]
        exact h2
      · rename_i l
        split at hc
        · cases e2
          cases e3
          simp only [concFn, Option.map_eq_some_iff] at e1
          obtain ⟨L, hL, rfl⟩ := e1
          obtain ⟨L', f, tmps, as, b, h0, h1, h2⟩ := hrc (.yield l) _ h k ρ w _ hr hg ha hc
          rw [hL] at h0
          cases h0
          simp only [Deferred.ofValue, Sem.run_bind, Sem.run_pure, Result.andThen_ok, invoke]
          have e : ([] : List Value).toArray ++ cargs.toArray = cargs.toArray := by simp
          rw [e, h1]
          exact h2
        · cases hc
      · rename_i name
        cases e1
        have hall : concs Y ρ (first ++ args) = some (cfirst ++ cargs) := concs_append.2 ⟨_, _, e2, ha, rfl⟩
        have := methodV_ok hE hrc hr hg hall hc ccap.toArray
        simp only [Deferred.ofValue, Sem.run_bind, Sem.run_pure, Result.andThen_ok]
        have e : cfirst.toArray ++ cargs.toArray = (cfirst ++ cargs).toArray := by simp
        rw [e]
        exact this
      · cases hc
    · cases hf
  · cases hc

end
end Go.AE

namespace Go.AE

section
variable {Y : Sy} {E : Env} {ρ : Rho} {h : H} {w : World}

theorem valK_eq {r : Option (AV × H)} {k : KV} (hk : valK r k = true) : ∃ v h', r = some (v, h') ∧ k v h' = true := by
  unfold valK at hk
  split at hk
  · exact ⟨_, _, rfl, hk⟩
  · cases hk

theorem builtin_ok (hE : EnvOk Y E) (o : Oper) {c : Call} {b : Builtin} (ho : o.op = .call c) (hb : c.callee = .builtin b) : KOk Y E o (cBuiltin E b c.argTypes.toList c.args.toList) := by
  have hex : ∀ (ev : Operand → Value) (w : World), (execOp ev o).run E.P w = (builtin b c.argTypes o.type (c.args.map fun | .const _ => true | _ => false) (c.args.map ev)).run E.P w := by
    intro ev w
    simp only [execOp, ho, resolve, hb, Sem.run_bind, Sem.run_pure, Result.andThen_ok, invoke]
    rfl
  cases b with
  | append =>
    intro rc k ρ ev w h l hrc hr hg hl hk
    obtain ⟨v, h', e, hk⟩ := valK_eq hk
    have ha := append_ok hE hr o.type e hl
    rw [hex]
    have e1 : c.args.map ev = (c.args.toList.map ev).toArray := by apply Array.ext'; simp
    rw [e1]
    have := Acts.big ha hk
    simpa [builtin] using this
  | copy =>
    intro rc k ρ ev w h l hrc hr hg hl hk
    obtain ⟨v, h', e, hk⟩ := valK_eq hk
    have ha := copy_ok hE hr o.type e hl
    rw [hex]
    have e1 : c.args.map ev = (c.args.toList.map ev).toArray := by apply Array.ext'; simp
    rw [e1]
    have := Acts.big ha hk
    simpa [builtin] using this
  | len =>
    simp only [cBuiltin]
    cases ht : c.argTypes.toList with
    | nil => trivial
    | cons t ts =>
      cases hx : c.args.toList with
      | nil => trivial
      | cons x xs =>
        refine ⟨fun a h h' hs => lenA_same hs, fun ρ ev w h a v hr ha hv => ?_⟩
        rw [hex]
        have e1 : c.argTypes[0]? = some t := by rw [← Array.getElem?_toList, ht]; rfl
        have e2 : (c.args.map ev)[0]? = some (ev x) := by rw [← Array.getElem?_toList, Array.toList_map, hx]; rfl
        exact (len_ok hE hr hv ha c.argTypes (c.args.map ev) e1 e2 o.type).next
  | cap =>
    simp only [cBuiltin]
    cases ht : c.argTypes.toList with
    | nil => trivial
    | cons t ts =>
      cases hx : c.args.toList with
      | nil => trivial
      | cons x xs =>
        intro ρ ev w a v ha hv
        rw [hex]
        have e1 : c.argTypes[0]? = some t := by rw [← Array.getElem?_toList, ht]; rfl
        have e2 : (c.args.map ev)[0]? = some (ev x) := by rw [← Array.getElem?_toList, Array.toList_map, hx]; rfl
        exact (cap_ok hE hv ha e1 e2).next
  | delete =>
    simp only [cBuiltin]
    cases ht : c.argTypes.toList with
    | nil => trivial
    | cons t ts =>
      intro rc k ρ ev w h l hrc hr hg hl hk
      have e1 : c.argTypes[0]? = some t := by rw [← Array.getElem?_toList, ht]; rfl
      dsimp only at hk
      split at hk
      · rename_i m key
        obtain ⟨h', hd, hk⟩ := optK_eq.1 hk
        obtain ⟨cm, cr, g1, g2, e2⟩ := concs_cons.1 hl
        obtain ⟨ck, cr', g3, g4, rfl⟩ := concs_cons.1 g2
        rw [concs_nil] at g4
        subst g4
        have e3 : c.args.map ev = #[cm, ck] := by apply Array.ext'; rw [Array.toList_map]; exact e2
        obtain ⟨w', k1, k2⟩ := delete_ok (ty := o.type) hE hr e1 hd g1 g3
        rw [hex, e3]
        simp only [builtin]
        rw [run_v k1]
        exact ⟨ρ, h', undefA, k2, rfl, hk⟩
      · cases hk
  | clear =>
    simp only [cBuiltin]
    cases ht : c.argTypes.toList with
    | nil => trivial
    | cons t ts =>
      intro rc k ρ ev w h l hrc hr hg hl hk
      have e1 : c.argTypes[0]? = some t := by rw [← Array.getElem?_toList, ht]; rfl
      dsimp only at hk
      split at hk
      · rename_i x
        obtain ⟨h', hd, hk⟩ := optK_eq.1 hk
        obtain ⟨cx, cr, g1, g2, e2⟩ := concs_cons.1 hl
        rw [concs_nil] at g2
        subst g2
        have e3 : c.args.map ev = #[cx] := by apply Array.ext'; rw [Array.toList_map]; exact e2
        obtain ⟨w', k1, k2⟩ := clear_ok (ty := o.type) hE hr e1 hd g1
        rw [hex, e3]
        simp only [builtin]
        rw [run_v k1]
        exact ⟨ρ, h', undefA, k2, rfl, hk⟩
      · cases hk
  | max =>
    intro ρ ev w l v hl hv
    rw [hex]
    have e1 : c.args.map ev = (c.args.toList.map ev).toArray := by apply Array.ext'; simp
    rw [e1]
    exact (maxO_ok hE hv hl).next
  | min =>
    intro ρ ev w l v hl hv
    rw [hex]
    have e1 : c.args.map ev = (c.args.toList.map ev).toArray := by apply Array.ext'; simp
    rw [e1]
    exact (minO_ok hE hv hl).next
  | _ => trivial

theorem call_ok (hE : EnvOk Y E) (o : Oper) {c : Call} (ho : o.op = .call c) : KOk Y E o (cCall E c) := by
  unfold cCall
  split
  · rename_i b hb
    exact builtin_ok hE o ho hb
  · rename_i f hb
    intro rc k ρ ev w h l hrc hr hg hl hk
    cases l with
    | nil => cases hk
    | cons fv args =>
      obtain ⟨h1, h2⟩ := concs_pop hl
      have := callV_ok hE hrc hr hg h1 h2 hk
      have e1 : c.args.map ev = (c.args.toList.map ev).toArray := by apply Array.ext'; simp
      simp only [execOp, ho, resolve, hb, e1]
      exact this
  · rename_i r name hb
    intro rc k ρ ev w h l hrc hr hg hl hk
    have := methodV_ok hE hrc hr hg hl hk #[]
    have e1 : c.args.map ev = (c.args.toList.map ev).toArray := by apply Array.ext'; simp
    have e2 : #[ev r] ++ (c.args.toList.map ev).toArray = (ev r :: c.args.toList.map ev).toArray := by simp
    simp only [execOp, ho, resolve, hb, e1, e2, Sem.run_bind, Sem.run_pure, Result.andThen_ok]
    exact this

theorem nilCheckE_ok (hE : EnvOk Y E) {x v : AV} {cx : Value} (h : nilCheckE E x = some v) (hx : conc Y ρ x = some cx) (o : Oper) (ρe : Operand → Value) (y : Operand) (ho : o.op = .nilCheck y) (hy : ρe y = cx) :
    ∃ cv, (execOp ρe o).run E.P w = .ok (.value cv) w ∧ conc Y ρ v = some cv := by
  unfold nilCheckE at h
  cases hn : nilCheckA x with
  | some r =>
    rw [hn] at h
    cases h
    exact nilCheck_ok hn hx o ρe y ho hy
  | none =>
    rw [hn] at h
    dsimp only at h
    split at h
    · rename_i name t u rest cap
      split at h
      · rename_i p hp
        cases h
        obtain ⟨f, v'⟩ := p
        have hx' := hx
        simp only [conc] at hx
        split at hx
        · rename_i fn' a' c' h1 h2 h3
          cases h1
          have e := Option.some.inj hx
          obtain ⟨c0, cr, k1, k2, rfl⟩ := concs_cons.1 h2
          obtain ⟨cu, k3, rfl⟩ := conc_iface k1
          obtain ⟨cv', _, g2, _⟩ := recv_ok (w := w) hE k3 hp
          refine ⟨cx, ?_, hx'⟩
          have e0 : (Value.iface t cu :: cr).toArray[0]? = some (.iface t cu) := by simp
          simp only [execOp, ho, hy, ← e, e0, Sem.run_bind, run_program, Result.andThen_ok, g2]
          simp
        · cases hx
      · cases h
    · cases h

theorem defer_ok (o : Oper) {c : Call} (ho : o.op = .defer c) : KOk Y E o (match c.callee with | .value f => .df (f :: c.args.toList) deferV | _ => .bad) := by
  cases hc : c.callee with
  | value f =>
    refine ⟨⟨c, ho⟩, fun ρ ev w l v hl hv => ?_⟩
    unfold deferV at hv
    split at hv
    · rename_i fn first cap args
      cases hv
      obtain ⟨h1, h2⟩ := concs_pop hl
      simp only [conc] at h1
      split at h1
      · rename_i fn' cfirst ccap e1 e2 e3
        have e := Option.some.inj h1
        have ea : c.args.map ev = (c.args.toList.map ev).toArray := by apply Array.ext'; simp
        refine ⟨fn, fn', first ++ args, cap, cfirst ++ c.args.toList.map ev, ccap, rfl, e1, concs_append.2 ⟨_, _, e2, h2, rfl⟩, e3, ?_⟩
        simp only [execOp, ho, resolve, hc, ← e, Deferred.ofValue, ea, Sem.run_bind, Sem.run_pure, Result.andThen_ok]
        simp
      · cases h1
    · cases hv
  | builtin b => trivial
  | invoke r name => trivial

theorem cOp_ok (hE : EnvOk Y E) (o : Oper) : KOk Y E o (cOp E o.op) := by
  unfold cOp
  cases ho : o.op with
  | move x => intro ρ ev w a v ha hv; cases hv; exact ⟨ev x, by simp [execOp, ho], ha⟩
  | assign x => intro ρ ev w a v ha hv; cases hv; exact ⟨ev x, by simp [execOp, ho], ha⟩
  | pick c a b =>
    intro ρ ev w l v hl hv
    unfold pick3 at hv
    split at hv
    · obtain ⟨h1, h'⟩ := concs_pop hl
      obtain ⟨h2, h3⟩ := concs_pair h'
      obtain ⟨cv, k1, k2⟩ := pick_ok (E := E) (w := w) hv h1 h2 h3
      refine ⟨cv, ?_, k2⟩
      have := run_v (f := Next.value) k1
      simpa [execOp, ho] using this
    · cases hv
  | alloc elem =>
    intro ρ ev w l p hl hp
    rw [bnd_eq] at hp
    obtain ⟨z, hz, hp⟩ := hp
    cases hp
    exact ⟨_, by simp only [execOp, ho], alloc_ok hE hz⟩
  | box elem x =>
    intro ρ ev w a ob ha hob
    rw [bnd_eq] at hob
    obtain ⟨vs, hvs, hob⟩ := hob
    cases hob
    exact ⟨Instr.box elem (ev x), by simp only [execOp, ho], box_ok ha hvs⟩
  | build t ps =>
    intro ρ ev w l v hl hv
    have hpr := parts_rel ps.toList l hl
    have := (build_ok (w := w) hE hpr hv).next
    have e1 : (ps.toList.map fun p => (p.1, ev p.2)).toArray = ps.map fun p => (p.1, ev p.2) := by apply Array.ext'; simp
    rw [e1] at this
    simpa only [execOp, ho] using this
  | buildSlice t n ps =>
    intro ρ ev w l p hl hp
    rw [bnd_eq] at hp
    obtain ⟨ob, hob, hp⟩ := hp
    cases hp
    have hpr := parts_rel ps.toList l hl
    have := buildSlice_ok (w := w) hE hpr hob
    have e1 : (ps.toList.map fun p => (p.1, ev p.2)).toArray = ps.map fun p => (p.1, ev p.2) := by apply Array.ext'; simp
    rw [e1] at this
    exact ⟨_, by simp only [execOp, ho], this⟩
  | load t a => exact ⟨fun a h h' hs => loadP_same hs, fun ρ ev w h a v hr ha hv => by simp only [execOp, ho]; exact (load_ok hE hr hv ha).next⟩
  | store t a x =>
    intro ρ ev w h h' a b hr ha hb hs
    obtain ⟨w', k1, k2⟩ := store_ok hE hr hs ha hb
    exact ⟨w', by simp only [execOp, ho]; exact run_u k1, k2⟩
  | nilCheck x => intro ρ ev w a v ha hv; exact nilCheckE_ok hE hv ha o ev x ho rfl
  | binOp op t x y p => intro ρ ev w a b v ha hb hv; simp only [execOp, ho]; exact (bin_ok hE hv ha hb).next
  | unOp op t x => intro ρ ev w a v ha hv; simp only [execOp, ho]; exact (unOp_ok hv ha).next
  | convert s d x =>
    dsimp only
    split
    · rename_i hc
      intro rc k ρ ev w h l _ hr _ hl hk
      unfold toRunesV at hk
      split at hk
      · obtain ⟨v, h', h1, h2⟩ := valK_eq hk
        have hx := concs_one hl
        simp only [execOp, ho]
        exact (runes_ok hE hr hc hx h1).big h2
      · cases hk
    · rename_i hc
      intro rc k ρ ev w h l _ hr _ hl hk
      unfold ofRunesV at hk
      split at hk
      · split at hk
        · rename_i v hv
          have hx := concs_one hl
          simp only [execOp, ho]
          exact (ofRunes_ok hE hr hc hx hv).big hk
        · cases hk
      · cases hk
    · rename_i hc
      intro rc k ρ ev w h l _ hr _ hl hk
      unfold ofBytesV at hk
      split at hk
      · split at hk
        · rename_i v hv
          have hx := concs_one hl
          simp only [execOp, ho]
          exact (ofBytes_ok hE hr hc hx hv).big hk
        · cases hk
      · cases hk
    · intro ρ ev w a v ha hv; simp only [execOp, ho]; exact (convert_ok hE hv ha).next
  | makeInterface t x => intro ρ ev w a v ha hv; simp only [execOp, ho]; exact (makeIface_ok hE hv ha).next
  | makeFunc fn a c =>
    dsimp only
    split
    · trivial
    · rename_i hny
      intro ρ ev w l v hl hv
      cases hv
      obtain ⟨la, lc, h1, h2⟩ : ∃ la lc, la = (l.take a.size) ∧ lc = l.drop a.size := ⟨_, _, rfl, rfl⟩
      have h3 := concs_take hl a.size
      have h4 := concs_drop hl a.size
      rw [List.map_append] at h3 h4
      rw [List.take_left' (by simp)] at h3
      rw [List.drop_left' (by simp)] at h4
      have hfn : concFn ρ fn = some fn := by cases fn <;> first | rfl | exact absurd rfl (hny _)
      refine ⟨.func fn (a.map ev) (c.map ev), by simp [execOp, ho, Instr.makeFunc], ?_⟩
      have e1 : a.map ev = (a.toList.map ev).toArray := by apply Array.ext'; simp
      have e2 : c.map ev = (c.toList.map ev).toArray := by apply Array.ext'; simp
      rw [e1, e2]
      simp only [conc, hfn, h3, h4]
  | makeMap t r =>
    dsimp only
    cases r with
    | none => intro ρ ev w l p hl hp; cases hp; exact ⟨_, by simp only [execOp, ho]; rfl, makeMap_ok⟩
    | some n =>
      intro ρ ev w l p hl hp
      cases l with
      | nil => cases hp
      | cons a l =>
        obtain ⟨h1, h2⟩ := concs_pop hl
        cases l with
        | cons _ _ => obtain ⟨_, _, _, _, e⟩ := concs_cons.1 h2; cases e
        | nil => exact ⟨_, by simp only [execOp, ho]; rfl, makeMapV_ok hE hp h1⟩
  | makeSlice t x y =>
    intro ρ ev w l p hl hp
    dsimp only at hp
    split at hp
    · rename_i a b
      rw [bnd_eq] at hp
      obtain ⟨r, hr, hp⟩ := hp
      cases hp
      obtain ⟨h1, h2⟩ := concs_pair hl
      obtain ⟨ob, n, m⟩ := r
      exact ⟨_, by simp only [execOp, ho], makeSlice_ok hE h1 h2 hr⟩
    · cases hp
  | slice t x lo hi mx =>
    have pop : ∀ (ρ : Rho) (ev : Operand → Value) (xv : AV) (l : List AV), concs Y ρ (xv :: l) = some ((x :: (optL lo ++ (optL hi ++ optL mx))).map ev) →
        concs Y ρ (xv :: l) = some (ev x :: ((optL lo).map ev ++ ((optL hi).map ev ++ ((optL mx).map ev ++ [])))) := fun ρ ev xv l hl => by simpa using hl
    refine ⟨fun l h h' hs => ?_, fun ρ l cs hl b hb => ?_, fun ρ ev w h l v hr hl hv => ?_⟩
    · unfold sliceR
      cases hv : sliceV E t lo hi mx l with
      | some v => rfl
      | none =>
        dsimp only
        cases l with
        | nil => rfl
        | cons xv l =>
          unfold roomV
          dsimp only
          refine roomA_same fun b o n p e => hs b ?_
          subst e
          unfold sliceB
          rw [hv]
          simp
    · unfold sliceB at hb
      split at hb
      · cases hb
      · split at hb
        · rename_i b' o len pre l'
          simp at hb
          subst hb
          obtain ⟨c1, c2, k1, _, _⟩ := concs_cons.1 hl
          obtain ⟨L, hL, _⟩ := conc_gslice k1
          exact ⟨L, hL⟩
        · cases hb
    · unfold sliceR at hv
      split at hv
      · rename_i v' hv'
        cases hv
        unfold sliceV at hv'
        split at hv'
        · rename_i xv l
          obtain ⟨h0, h1⟩ := concs_pop (pop ρ ev xv l hl)
          obtain ⟨g1, h2⟩ := takeO_ok h1
          obtain ⟨g2, h3⟩ := takeO_ok h2
          obtain ⟨g3, h4⟩ := takeO_ok h3
          simp only [execOp, ho]
          exact (slice_ok hE hv' h0 g1 g2 g3).next
        · cases hv'
      · cases l with
        | nil => cases hv
        | cons xv l =>
          unfold roomV at hv
          dsimp only at hv
          obtain ⟨h0, h1⟩ := concs_pop (pop ρ ev xv l hl)
          obtain ⟨g1, h2⟩ := takeO_ok h1
          obtain ⟨g2, h3⟩ := takeO_ok h2
          obtain ⟨g3, h4⟩ := takeO_ok h3
          simp only [execOp, ho]
          exact (room_ok hE hr hv h0 g1 g2 g3).next
  | fieldAddr s x f => intro ρ ev w a v ha hv; simp only [execOp, ho]; exact (fieldAddr_ok hE hv ha).next
  | field t x f => intro ρ ev w a v ha hv; simp only [execOp, ho]; exact (field_ok hE hv ha).next
  | indexAddr t x i => intro ρ ev w a b v ha hb hv; simp only [execOp, ho]; exact (indexAddr_ok hE hv ha hb).next
  | index t x i => intro ρ ev w a b v ha hb hv; simp only [execOp, ho]; exact (index_ok hE hv ha hb).next
  | lookup t m k ok => exact ⟨fun a b h h' hs => lookupA_same hs, fun ρ ev w h a b v hr ha hb hv => by simp only [execOp, ho]; exact (lookup_ok hE hr hv ha hb).next⟩
  | mapUpdate t m k v =>
    intro rc kk ρ ev w h l hrc hr hg hl hk
    unfold mapUpdateV at hk
    split at hk
    · rename_i am ak av
      rw [optK_eq] at hk
      obtain ⟨h', hu, hk⟩ := hk
      obtain ⟨h1, hl'⟩ := concs_pop hl
      obtain ⟨h2, h3⟩ := concs_pair hl'
      obtain ⟨w', k1, k2⟩ := mapUpdate_ok hE hr hu h1 h2 h3
      simp only [execOp, ho]
      rw [run_u k1]
      exact ⟨ρ, h', undefA, k2, rfl, hk⟩
    · cases hk
  | insert t m k v =>
    intro rc kk ρ ev w h l hrc hr hg hl hk
    unfold mapUpdateV at hk
    split at hk
    · rename_i am ak av
      rw [optK_eq] at hk
      obtain ⟨h', hu, hk⟩ := hk
      obtain ⟨h1, hl'⟩ := concs_pop hl
      obtain ⟨h2, h3⟩ := concs_pair hl'
      obtain ⟨w', k1, k2⟩ := mapUpdate_ok hE hr hu h1 h2 h3
      simp only [execOp, ho]
      rw [run_u k1]
      exact ⟨ρ, h', undefA, k2, rfl, hk⟩
    · cases hk
  | range t x =>
    intro rc k ρ ev w h l hrc hr hg hl hk
    dsimp only at hk
    split at hk
    · rename_i a
      obtain ⟨h1, _⟩ := concs_pop hl
      obtain ⟨v, h', e, hk⟩ := valK_eq hk
      simp only [execOp, ho]
      exact Acts.big (range_ok hE hr e h1) hk
    · cases hk
  | next it isS =>
    intro rc k ρ ev w h l hrc hr hg hl hk
    dsimp only at hk
    split at hk
    · rename_i a
      obtain ⟨h1, _⟩ := concs_pop hl
      unfold nextV at hk
      split at hk
      · rename_i v h' e
        simp only [execOp, ho]
        exact Acts.big (next_ok hr e h1) hk
      · split at hk
        · rename_i o' ho'
          cases isS with
          | true => cases ho'
          | false =>
            obtain ⟨x, hx, hact⟩ := nextMany_ok (w := w) hr o.type ho' h1
            simp only [execOp, ho]
            exact Acts.big hact (allK_mem hk hx)
        · cases hk
    · cases hk
  | entry it =>
    intro rc k ρ ev w h l hrc hr hg hl hk
    dsimp only at hk
    split at hk
    · rename_i a
      obtain ⟨h1, _⟩ := concs_pop hl
      obtain ⟨v, e, hk⟩ := optK_eq.1 hk
      simp only [execOp, ho]
      obtain ⟨cv, k1, k2⟩ := (entry_ok (w := w) hr e h1).next
      rw [k1]
      exact ⟨ρ, h, v, Goes.refl hr, k2, hk⟩
    · cases hk
  | typeAssert x t a ok => intro ρ ev w b v ha hv; simp only [execOp, ho]; exact (typeAssert_ok hE hv ha).next
  | extract x i => intro ρ ev w a v ha hv; simp only [execOp, ho]; exact (extract_ok hv ha).next
  | call c => exact call_ok hE o ho
  | defer c => exact defer_ok o ho
  | _ => trivial

end
end Go.AE

namespace Go.AE

def fence (ro : Option Nat) : Fence := { Fence.wide with round := ro }

section
variable {Y : Sy} {E : Env} {ρ : Rho} {h : H} {w : World}

/-! ### Operands -/
/-- a frame within a region: 'ds', 'env': what was written in it, the last first; 'tm': what was there before -/
structure ERel (Y : Sy) (ρ : Rho) (L : Lv) (ds : List (Option Tmp)) (env : List AV) (tm : T AV) (tmps : Array Value) : Prop where
  here : ∀ t i, posOf t ds 0 = some i → conc Y ρ (nthA i env) = some (tmps.getD t undef)
  beyond : ∀ t, posOf t ds 0 = none → Nat.testBit L.live t = true → conc Y ρ (tget tm t) = some (tmps.getD t undef)

theorem ERel.mono {ρ' : Rho} {L : Lv} {ds : List (Option Tmp)} {env : List AV} {tm : T AV} {tmps : Array Value} (h : ERel Y ρ L ds env tm tmps) (hle : ρ.le ρ') : ERel Y ρ' L ds env tm tmps :=
  ⟨fun t i ht => conc_mono hle (h.here t i ht), fun t ht hl => conc_mono hle (h.beyond t ht hl)⟩

theorem ERel.start {L : Lv} {tm : T AV} {tmps : Array Value} (h : TRel Y ρ L.live tm tmps) : ERel Y ρ L [] [] tm tmps :=
  ⟨fun t i ht => by simp [posOf] at ht, fun t _ hl => h t hl⟩

theorem cX_ok {L : Lv} {ds : List (Option Tmp)} {env : List AV} {tm : T AV} {a : Act} {x : Operand} {X : X} (hx : cX L ds x = some X) (he : ERel Y ρ L ds env tm a.tmps) (hg : Glob E ρ) (hng : L.ng = E.ng) :
    conc Y ρ (X tm env) = some (a.eval x) := by
  unfold cX at hx
  split at hx
  · rename_i t
    split at hx
    · rename_i i hi
      cases hx
      exact he.here t i hi
    · rename_i hi
      split at hx
      · rename_i hl
        cases hx
        show conc Y ρ (tgetP (pathOf t) tm) = _
        rw [tgetP_of]
        exact he.beyond t hi hl
      · cases hx
  · split at hx
    · rename_i c ac hc
      cases hx
      exact ofConst_ok hc
    · cases hx
  · rename_i g
    split at hx
    · rename_i hlt
      cases hx
      obtain ⟨c, hc⟩ := hg g (by rw [← hng]; exact (blt_iff _ _).1 hlt)
      simp [conc, hc, Loc.addr, Act.eval]
    · cases hx
  · cases hx
    rfl

theorem cXs_cons (L : Lv) (ds : List (Option Tmp)) (x : Operand) (xs : List Operand) : cXs L ds (x :: xs) = (match cX L ds x, cXs L ds xs with | some f, some g => some fun tm env => f tm env :: g tm env | _, _ => none) := rfl

theorem cXs_ok {L : Lv} {ds : List (Option Tmp)} {env : List AV} {tm : T AV} {a : Act} (he : ERel Y ρ L ds env tm a.tmps) (hg : Glob E ρ) (hng : L.ng = E.ng) : ∀ {xs : List Operand} {X : XS}, cXs L ds xs = some X → concs Y ρ (X tm env) = some (xs.map a.eval) := by
  intro xs
  induction xs with
  | nil => intro X hx; cases hx; rfl
  | cons x xs ih =>
    intro X hx
    rw [cXs_cons] at hx
    cases h1 : cX L ds x with
    | none => rw [h1] at hx; cases hx
    | some f =>
      rw [h1] at hx
      cases h2 : cXs L ds xs with
      | none => rw [h2] at hx; cases hx
      | some g =>
        rw [h2] at hx
        cases hx
        exact concs_cons.2 ⟨_, _, cX_ok h1 he hg hng, ih h2, rfl⟩

theorem posOf_succ (t : Nat) : ∀ (ds : List (Option Tmp)) (i : Nat), posOf t ds (i + 1) = (posOf t ds i).map (· + 1)
  | [], _ => rfl
  | none :: r, i => posOf_succ t r (i + 1)
  | some d :: r, i => by
    simp only [posOf]
    cases Nat.beq d t with
    | true => rfl
    | false => exact posOf_succ t r (i + 1)

theorem getD_put {a : Act} {d : Nat} {v : Value} (hd : d < a.tmps.size) (t : Nat) : (a.put (some d) v).tmps.getD t undef = if t = d then v else a.tmps.getD t undef := by
  simp only [Act.put, Array.getD_eq_getD_getElem?, Array.getElem?_setIfInBounds]
  by_cases h : d = t
  · subst h; simp [hd]
  · rw [if_neg h, if_neg (fun e => h e.symm)]

theorem put_size {a : Act} {dst : Option Tmp} {v : Value} : (a.put dst v).tmps.size = a.tmps.size := by
  cases dst <;> simp [Act.put]

theorem put_defers {a : Act} {dst : Option Tmp} {v : Value} : (a.put dst v).defers = a.defers := by
  cases dst <;> rfl

theorem ERel.put {L : Lv} {ds : List (Option Tmp)} {env : List AV} {tm : T AV} {a : Act} {dst : Option Tmp} {v : AV} {cv : Value} (he : ERel Y ρ L ds env tm a.tmps) (hv : conc Y ρ v = some cv) (hd : ∀ d, dst = some d → d < a.tmps.size) :
    ERel Y ρ L (dst :: ds) (v :: env) tm (a.put dst cv).tmps := by
  cases dst with
  | none =>
    refine ⟨fun t i ht => ?_, fun t ht hl => ?_⟩
    · have ht' : posOf t ds (0 + 1) = some i := ht
      rw [posOf_succ, Option.map_eq_some_iff] at ht'
      obtain ⟨j, hj, rfl⟩ := ht'
      exact he.here t j hj
    · have ht' : posOf t ds (0 + 1) = none := ht
      rw [posOf_succ, Option.map_eq_none_iff] at ht'
      exact he.beyond t ht' hl
  | some d =>
    have hlt := hd d rfl
    refine ⟨fun t i ht => ?_, fun t ht hl => ?_⟩
    · rw [getD_put hlt]
      simp only [posOf] at ht
      cases hb : Nat.beq d t with
      | true =>
        rw [hb] at ht
        cases ht
        have := Nat.eq_of_beq_eq_true hb
        rw [if_pos this.symm]
        exact hv
      | false =>
        rw [hb] at ht
        have hne : d ≠ t := Nat.ne_of_beq_eq_false hb
        rw [if_neg (Ne.symm hne)]
        have ht' : posOf t ds (0 + 1) = some i := ht
        rw [posOf_succ, Option.map_eq_some_iff] at ht'
        obtain ⟨j, hj, rfl⟩ := ht'
        exact he.here t j hj
    · rw [getD_put hlt]
      simp only [posOf] at ht
      cases hb : Nat.beq d t with
      | true => rw [hb] at ht; cases ht
      | false =>
        rw [hb] at ht
        have hne : d ≠ t := Nat.ne_of_beq_eq_false hb
        rw [if_neg (Ne.symm hne)]
        have ht' : posOf t ds (0 + 1) = none := ht
        rw [posOf_succ, Option.map_eq_none_iff] at ht'
        exact he.beyond t ht' hl

/-! ### One operation -/
theorem newK_ok {s : Sem Value} {o : AObj} {mk : Nat → AV} {k : KV} (hr : Rel Y E ρ h w) (hm : Makes Y E ρ w s o mk) (hk : newK h o mk k = true) : BigPost Y E ρ h w k ((do pure (.value (← s)) : Sem Next).run E.P w) := by
  obtain ⟨ob, cv, h1, h2, h3⟩ := hm
  unfold newK at hk
  cases hn : h.new o with
  | mk b h' =>
    rw [hn] at hk
    obtain ⟨ρ', k1, k2⟩ := Goes.new_ptr hr hn h2
    rw [run_v h1]
    exact ⟨ρ', h', mk b, k1, h3 ρ' b k1.le k2, hk⟩

theorem stepK_big (hE : EnvOk Y E) {rc : Rec} (hrc : RecOk Y E rc) (hr : Rel Y E ρ h w) (hg : Glob E ρ) {L : Lv} (hng : L.ng = E.ng) {ds : List (Option Tmp)} {env : List AV} {tm : T AV} {a : Act} (he : ERel Y ρ L ds env tm a.tmps) {o : Oper} {k : KV}
    (hk : (stepK L ds (cOp E o.op)).run rc tm env h k = true) : BigPost Y E ρ h w k ((execOp a.eval o).run E.P w) := by
  have hok := cOp_ok (Y := Y) hE o
  cases hc : cOp E o.op with
  | p1 x g =>
    rw [hc] at hk hok
    simp only [stepK] at hk
    cases hx : cX L ds x with
    | none => rw [hx] at hk; cases hk
    | some X =>
      rw [hx] at hk
      dsimp only at hk
      obtain ⟨v, hv, hk⟩ := optK_eq.1 hk
      obtain ⟨cv, k1, k2⟩ := hok ρ a.eval w _ v (cX_ok hx he hg hng) hv
      rw [k1]
      exact ⟨ρ, h, v, Goes.refl hr, k2, hk⟩
  | p2 x y g =>
    rw [hc] at hk hok
    simp only [stepK] at hk
    cases hx : cX L ds x with
    | none => rw [hx] at hk; cases hk
    | some X =>
      cases hy : cX L ds y with
      | none => rw [hx, hy] at hk; cases hk
      | some Z =>
        rw [hx, hy] at hk
        dsimp only at hk
        obtain ⟨v, hv, hk⟩ := optK_eq.1 hk
        obtain ⟨cv, k1, k2⟩ := hok ρ a.eval w _ _ v (cX_ok hx he hg hng) (cX_ok hy he hg hng) hv
        rw [k1]
        exact ⟨ρ, h, v, Goes.refl hr, k2, hk⟩
  | pn xs g =>
    rw [hc] at hk hok
    simp only [stepK] at hk
    cases hx : cXs L ds xs with
    | none => rw [hx] at hk; cases hk
    | some X =>
      rw [hx] at hk
      dsimp only at hk
      obtain ⟨v, hv, hk⟩ := optK_eq.1 hk
      obtain ⟨cv, k1, k2⟩ := hok ρ a.eval w _ v (cXs_ok he hg hng hx) hv
      rw [k1]
      exact ⟨ρ, h, v, Goes.refl hr, k2, hk⟩
  | r1 x g =>
    rw [hc] at hk hok
    simp only [stepK] at hk
    cases hx : cX L ds x with
    | none => rw [hx] at hk; cases hk
    | some X =>
      rw [hx] at hk
      dsimp only at hk
      obtain ⟨v, hv, hk⟩ := optK_eq.1 hk
      obtain ⟨cv, k1, k2⟩ := hok.2 ρ a.eval w h _ v hr (cX_ok hx he hg hng) hv
      rw [k1]
      exact ⟨ρ, h, v, Goes.refl hr, k2, hk⟩
  | r2 x y g =>
    rw [hc] at hk hok
    simp only [stepK] at hk
    cases hx : cX L ds x with
    | none => rw [hx] at hk; cases hk
    | some X =>
      cases hy : cX L ds y with
      | none => rw [hx, hy] at hk; cases hk
      | some Z =>
        rw [hx, hy] at hk
        dsimp only at hk
        obtain ⟨v, hv, hk⟩ := optK_eq.1 hk
        obtain ⟨cv, k1, k2⟩ := hok.2 ρ a.eval w h _ _ v hr (cX_ok hx he hg hng) (cX_ok hy he hg hng) hv
        rw [k1]
        exact ⟨ρ, h, v, Goes.refl hr, k2, hk⟩
  | rn xs bk g =>
    rw [hc] at hk hok
    simp only [stepK] at hk
    cases hx : cXs L ds xs with
    | none => rw [hx] at hk; cases hk
    | some X =>
      rw [hx] at hk
      dsimp only at hk
      obtain ⟨v, hv, hk⟩ := optK_eq.1 hk
      obtain ⟨cv, k1, k2⟩ := hok.2.2 ρ a.eval w h _ v hr (cXs_ok he hg hng hx) hv
      rw [k1]
      exact ⟨ρ, h, v, Goes.refl hr, k2, hk⟩
  | a1 x g =>
    rw [hc] at hk hok
    simp only [stepK] at hk
    cases hx : cX L ds x with
    | none => rw [hx] at hk; cases hk
    | some X =>
      rw [hx] at hk
      dsimp only at hk
      obtain ⟨ob, hv, hk⟩ := optK_eq.1 hk
      obtain ⟨s, k1, k2⟩ := hok ρ a.eval w _ ob (cX_ok hx he hg hng) hv
      rw [k1]
      exact newK_ok hr k2 hk
  | an xs g =>
    rw [hc] at hk hok
    simp only [stepK] at hk
    cases hx : cXs L ds xs with
    | none => rw [hx] at hk; cases hk
    | some X =>
      rw [hx] at hk
      dsimp only at hk
      obtain ⟨p, hv, hk⟩ := optK_eq.1 hk
      obtain ⟨s, k1, k2⟩ := hok ρ a.eval w _ p (cXs_ok he hg hng hx) hv
      rw [k1]
      exact newK_ok hr k2 hk
  | b2 x y g =>
    rw [hc] at hk hok
    simp only [stepK] at hk
    cases hx : cX L ds x with
    | none => rw [hx] at hk; cases hk
    | some X =>
      cases hy : cX L ds y with
      | none => rw [hx, hy] at hk; cases hk
      | some Z =>
        rw [hx, hy] at hk
        dsimp only at hk
        obtain ⟨h', hv, hk⟩ := optK_eq.1 hk
        obtain ⟨w', k1, k2⟩ := hok ρ a.eval w h h' _ _ hr (cX_ok hx he hg hng) (cX_ok hy he hg hng) hv
        rw [k1]
        exact ⟨ρ, h', undefA, k2, rfl, hk⟩
  | bn xs g =>
    rw [hc] at hk hok
    simp only [stepK] at hk
    cases hx : cXs L ds xs with
    | none => rw [hx] at hk; cases hk
    | some X =>
      rw [hx] at hk
      exact hok rc k ρ a.eval w h _ hrc hr hg (cXs_ok he hg hng hx) hk
  | df xs g => rw [hc] at hk; cases hk
  | bad => rw [hc] at hk; cases hk

theorem stepK_not_defer {rc : Rec} {L : Lv} {ds : List (Option Tmp)} {env : List AV} {tm : T AV} {o : Oper} {k : KV} (hk : (stepK L ds (cOp E o.op)).run rc tm env h k = true) : ∀ c, o.op ≠ .defer c := by
  intro c ho
  rw [ho] at hk
  cases hc : c.callee <;> (simp only [cOp, hc] at hk; cases hk)

theorem upon_of_big {o : Oper} {a : Act} {k : KV} {r : Result Next} {ro : Option Nat} {n : Nat} {next : Act → World → Prop} {Q : Exit → Act → World → Prop} (hb : BigPost Y E ρ h w k r)
    (hnext : ∀ v w', PostV Y E ρ h w k (.returned v) w' → next (a.put o.dst v) w') : o.uponIn (fence ro) n E.P a next Q r := by
  cases r with
  | halt x w' => exact hb.elim
  | ok x w' =>
    cases x <;> first | exact hb.elim | skip
    case value v => exact hnext v w' hb
    case skip => exact hnext undef w' hb
    case enter f args =>
      refine ⟨(fun h => by cases h), ?_⟩
      exact CallsIn.mono (hb (n - 1)) fun e w'' he => by
        cases e with
        | returned v => exact hnext v w'' he
        | panicked c => exact he.elim
        | outgrown => exact he.elim
    case round l f tmps as b =>
      refine ⟨(fun h => by cases h), ?_⟩
      exact RoundIn.mono (hb (n - 1)) fun e w'' he => by
        cases e with
        | returned v => exact hnext v w'' he
        | panicked c => exact he.elim
        | outgrown => exact he.elim

theorem Goes.of_below {w' : World} (hr : Rel Y E ρ h w) (hb : RowKit.Below w.heap.size w w') : Goes Y E ρ h w ρ h w' := by
  refine ⟨Rho.le_refl _, ⟨fun b o hbo ha => ?_, hr.inj, hr.fresh, fun b L hL => Nat.lt_of_lt_of_le (hr.bound b L hL) hb.size⟩, ⟨hb.os, hb.tape, hb.output, hb.size, fun c hc _ => hb.block c hc⟩, Keeps.refl _, (fun b L h0 h1 => by rw [h0] at h1; cases h1), fun _ _ => rfl⟩
  obtain ⟨L, ob, h1, h2, h3⟩ := hr.obj b o hbo ha
  exact ⟨L, ob, h1, by rw [hb.block _ (hr.bound b L h1)]; exact h2, h3⟩

/-! ### Guards -/
theorem stripW_ok {e : SX} {ks : List Int} (hi : inV (e.val Y) ks = true) {v : AV} {c : Value} (h : conc Y ρ v = some c) : conc Y ρ (stripW e ks v) = some c := by
  unfold stripW
  split
  · rename_i e' ks' u
    split
    · rename_i h1 h2
      obtain rfl := eqX_eq h1
      obtain rfl := eqIs_eq h2
      simpa only [conc, hi, if_true] using h
    · exact h
  · exact h

theorem stripWs_ok {e : SX} {ks : List Int} (hi : inV (e.val Y) ks = true) : ∀ {l : List AV} {cs : List Value}, concs Y ρ l = some cs → concs Y ρ (stripWs e ks l) = some cs
  | [], cs, h => h
  | v :: l, cs, h => by
    obtain ⟨c, r, h1, h2, rfl⟩ := concs_cons.1 h
    exact concs_cons.2 ⟨c, r, stripW_ok hi h1, stripWs_ok hi h2, rfl⟩

theorem plainC_free {v : AV} (h : plainC v = true) (ρ ρ' : Rho) : conc Y ρ v = conc Y ρ' v := by
  cases v <;> first | rfl | (cases h; done)

theorem plainL_free : ∀ {l : List AV}, plainL l = true → ∀ ρ ρ' : Rho, concs Y ρ l = concs Y ρ' l
  | [], _, _, _ => rfl
  | v :: l, h, ρ, ρ' => by
    simp only [plainL] at h
    split at h
    · rename_i h1
      simp only [concs, plainC_free h1 ρ ρ', plainL_free h ρ ρ']
    · cases h

theorem plainA_free {v : AV} (h : plainA v = true) (ρ ρ' : Rho) : conc Y ρ v = conc Y ρ' v := by
  unfold plainA at h
  split at h
  · simp only [conc, plainL_free h ρ ρ']
  · exact plainC_free h ρ ρ'

theorem plainAs_free : ∀ {l : List AV}, plainAs l = true → ∀ ρ ρ' : Rho, concs Y ρ l = concs Y ρ' l
  | [], _, _, _ => rfl
  | v :: l, h, ρ, ρ' => by
    simp only [plainAs] at h
    split at h
    · rename_i h1
      simp only [concs, plainA_free h1 ρ ρ', plainAs_free h ρ ρ']
    · cases h

theorem plainCall_free {l : List AV} (h : plainCall l = true) (ρ ρ' : Rho) : concs Y ρ l = concs Y ρ' l := by
  unfold plainCall at h
  split at h
  · rename_i f l
    have e : conc Y ρ (.func (.func f) [] []) = conc Y ρ' (.func (.func f) [] []) := rfl
    simp only [concs, e, plainAs_free h ρ ρ']
  · cases h

theorem BigPost.map {ρ₀ : Rho} {h₀ : H} {k₀ k : KV} {r : Result Next} (hp : ∀ v w', PostV Y E ρ₀ h₀ w k₀ (.returned v) w' → PostV Y E ρ h w k (.returned v) w') (hb : BigPost Y E ρ₀ h₀ w k₀ r) : BigPost Y E ρ h w k r := by
  have all : ∀ e w', PostV Y E ρ₀ h₀ w k₀ e w' → PostV Y E ρ h w k e w' := by
    intro e w' he
    cases e with
    | returned v => exact hp v w' he
    | panicked c => exact he.elim
    | outgrown => exact he.elim
  cases r with
  | halt x w' => exact hb.elim
  | ok x w' =>
    cases x <;> first | exact hb.elim | skip
    case value v => exact hp v w' hb
    case skip => exact hp undef w' hb
    case enter f args => exact fun n => CallsIn.mono (hb n) all
    case round l f tmps as b => exact fun n => RoundIn.mono (hb n) all

theorem isFalseA_eq {v : AV} (h : isFalseA v = true) : v = .bool false := by
  unfold isFalseA at h
  split at h
  · rfl
  · cases h

/-- an operation of which it is not known whether it is done -/
theorem unsure_ok (hE : EnvOk Y E) {rc : Rec} (hrc : RecOk Y E rc) (hr : Rel Y E ρ h w) (hg : Glob E ρ) {L : Lv} (hng : L.ng = E.ng) {ds : List (Option Tmp)} {env : List AV} {tm : T AV} {a : Act} (he : ERel Y ρ L ds env tm a.tmps) {o : Oper} {k : KV} {e : SX} {ks : List Int}
    (hk : (unsureK L ds (cOp E o.op)).run e ks rc tm env h k = true) : ∃ v, k (.when e ks v) h = true ∧ (∀ c, o.op ≠ .defer c) ∧ (inV (e.val Y) ks = true → BigPost Y E ρ h w k ((execOp a.eval o).run E.P w)) := by
  have hok := cOp_ok (Y := Y) hE o
  have hnd : ∀ c, o.op ≠ .defer c := by
    intro c ho
    rw [ho] at hk
    cases hc : c.callee <;> (simp only [cOp, hc] at hk; cases hk)
  cases hc : cOp E o.op with
  | p1 x g =>
    rw [hc] at hk hok
    simp only [unsureK] at hk
    cases hx : cX L ds x with
    | none => rw [hx] at hk; cases hk
    | some X =>
      rw [hx] at hk
      dsimp only at hk
      obtain ⟨v, hv, hk⟩ := optK_eq.1 hk
      refine ⟨v, hk, hnd, fun hi => ?_⟩
      obtain ⟨cv, k1, k2⟩ := hok ρ a.eval w _ v (stripW_ok hi (cX_ok hx he hg hng)) hv
      rw [k1]
      exact ⟨ρ, h, .when e ks v, Goes.refl hr, by simpa only [conc, hi, if_true] using k2, hk⟩
  | p2 x y g =>
    rw [hc] at hk hok
    simp only [unsureK] at hk
    cases hx : cX L ds x with
    | none => rw [hx] at hk; cases hk
    | some X =>
      cases hy : cX L ds y with
      | none => rw [hx, hy] at hk; cases hk
      | some Z =>
        rw [hx, hy] at hk
        dsimp only at hk
        obtain ⟨v, hv, hk⟩ := optK_eq.1 hk
        refine ⟨v, hk, hnd, fun hi => ?_⟩
        obtain ⟨cv, k1, k2⟩ := hok ρ a.eval w _ _ v (stripW_ok hi (cX_ok hx he hg hng)) (stripW_ok hi (cX_ok hy he hg hng)) hv
        rw [k1]
        exact ⟨ρ, h, .when e ks v, Goes.refl hr, by simpa only [conc, hi, if_true] using k2, hk⟩
  | pn xs g =>
    rw [hc] at hk hok
    simp only [unsureK] at hk
    cases hx : cXs L ds xs with
    | none => rw [hx] at hk; cases hk
    | some X =>
      rw [hx] at hk
      dsimp only at hk
      obtain ⟨v, hv, hk⟩ := optK_eq.1 hk
      refine ⟨v, hk, hnd, fun hi => ?_⟩
      obtain ⟨cv, k1, k2⟩ := hok ρ a.eval w _ v (stripWs_ok hi (cXs_ok he hg hng hx)) hv
      rw [k1]
      exact ⟨ρ, h, .when e ks v, Goes.refl hr, by simpa only [conc, hi, if_true] using k2, hk⟩
  | r1 x g =>
    rw [hc] at hk hok
    simp only [unsureK] at hk
    cases hx : cX L ds x with
    | none => rw [hx] at hk; cases hk
    | some X =>
      rw [hx] at hk
      dsimp only at hk
      obtain ⟨v, hv, hk⟩ := optK_eq.1 hk
      refine ⟨v, hk, hnd, fun hi => ?_⟩
      obtain ⟨cv, k1, k2⟩ := hok.2 ρ a.eval w h _ v hr (stripW_ok hi (cX_ok hx he hg hng)) hv
      rw [k1]
      exact ⟨ρ, h, .when e ks v, Goes.refl hr, by simpa only [conc, hi, if_true] using k2, hk⟩
  | bn xs g =>
    rw [hc] at hk hok
    simp only [unsureK] at hk
    cases hx : cXs L ds xs with
    | none => rw [hx] at hk; cases hk
    | some X =>
      rw [hx] at hk
      dsimp only at hk
      split at hk
      · rename_i hp hrun
        refine ⟨.bool false, hk, hnd, fun hi => ?_⟩
        have hl := stripWs_ok hi (cXs_ok he hg hng hx)
        rw [hng] at hrun
        let ρ₀ : Rho := fun b => if b < E.ng then ρ b else none
        have hr₀ : Rel Y E ρ₀ ⟨.nil, E.ng, [], []⟩ w := by
          have hnone : ∀ b, H.get ⟨.nil, E.ng, [], []⟩ b = none := fun b => by rw [H.get_eq]; rfl
          refine ⟨fun b o hb _ => ?_, fun b c o p L M hb _ _ _ _ _ _ => ?_, fun b hb => ?_, fun b L hL => ?_⟩
          · rw [hnone] at hb; cases hb
          · rw [hnone] at hb; cases hb
          · have hb' : E.ng ≤ b := hb
            show (if b < E.ng then ρ b else none) = none
            rw [if_neg (by omega)]
          · have hL' : (if b < E.ng then ρ b else none) = some L := hL
            split at hL'
            · exact hr.bound b L hL'
            · cases hL'
        have hg₀ : Glob E ρ₀ := fun g hgn => by
          obtain ⟨c, hc⟩ := hg g hgn
          exact ⟨c, by show (if g < E.ng then ρ g else none) = _; rw [if_pos hgn]; exact hc⟩
        have hb := hok rc (fun v _ => isFalseA v) ρ₀ a.eval w _ _ hrc hr₀ hg₀ (by rw [plainCall_free hp ρ₀ ρ]; exact hl) hrun
        refine BigPost.map (fun v w' hv => ?_) hb
        obtain ⟨ρ', h', av, hgo, h1, h2⟩ := hv
        obtain rfl := isFalseA_eq h2
        cases h1
        have hbel : RowKit.Below w.heap.size w w' := by
          refine ⟨hgo.frm.os, hgo.frm.tape, hgo.frm.output, hgo.frm.size, fun c hc' => hgo.frm.block c hc' fun b o L hb' _ _ => ?_⟩
          have : H.get ⟨.nil, E.ng, [], []⟩ b = none := by rw [H.get_eq]; rfl
          rw [this] at hb'
          cases hb'
        exact ⟨ρ, h, .when e ks (.bool false), Goes.of_below hr hbel, by simp only [conc, hi, if_true], hk⟩
      · cases hk
  | _ => rw [hc] at hk; cases hk

theorem wanted_in {ops : Array Oper} {o : Oper} {L : Lv} {ds : List (Option Tmp)} {env : List AV} {tm : T AV} {a : Act} {d : Tmp} {want : Bool} {X : X} {e : SX} {ks : List Int} {b : Bool} (hg : Glob E ρ) (hng : L.ng = E.ng) (he : ERel Y ρ L ds env tm a.tmps)
    (hgu : guardOf ops.toList o.guard = some (some (d, want))) (hx : cX L ds (.tmp d) = some X) (hin : inOf want (X tm env) = some (e, ks)) (hb : inV (e.val Y) ks = b) : Region.wanted o (yielded ops a.tmps) = b := by
  have hv := cX_ok hx he hg hng
  have hv' : conc Y ρ (X tm env) = some (a.tmps.getD d undef) := hv
  have hcase : (a.tmps[d]? = some (.bool b) ∧ want = true) ∨ (b = true ∧ a.tmps[d]? = some (.bool want)) ∨ (b = false ∧ a.tmps.getD d undef = undef) := by
    have get : ∀ c, some (Value.bool c) = some (a.tmps.getD d undef) → a.tmps[d]? = some (.bool c) := by
      intro c hc
      simp only [Option.some.injEq] at hc
      rw [Array.getD_eq_getD_getElem?] at hc
      cases hq : a.tmps[d]? with
      | none => rw [hq] at hc; cases hc
      | some u => rw [hq] at hc; exact congrArg some hc.symm
    unfold inOf at hin
    split at hin
    · rename_i e' ks' h1
      cases want with
      | false => cases hin
      | true =>
        cases hin
        rw [h1] at hv'
        simp only [conc, Q.val, hb] at hv'
        exact .inl ⟨get b hv', rfl⟩
    · rename_i e' ks' bb h1
      have hbw : bb = want ∧ e' = e ∧ ks' = ks := by cases bb <;> cases want <;> simp_all
      obtain ⟨rfl, rfl, rfl⟩ := hbw
      rw [h1] at hv'
      simp only [conc, hb] at hv'
      cases b with
      | true => exact .inr (.inl ⟨rfl, get bb (by simpa using hv')⟩)
      | false => exact .inr (.inr ⟨rfl, by simpa using hv'.symm⟩)
    · cases hin
  unfold guardOf at hgu
  split at hgu
  · cases hgu
  · rename_i j want' hgd
    rw [bnd_eq] at hgu
    obtain ⟨o', ho', hgu⟩ := hgu
    rw [bnd_eq] at hgu
    obtain ⟨d', hd', hgu⟩ := hgu
    cases hgu
    have ho2 : ops[j]? = some o' := by rw [← Array.getElem?_toList]; exact ho'
    unfold Region.wanted
    rw [hgd]
    simp only [yielded, ho2, Option.bind_some, hd']
    rcases hcase with ⟨hget, rfl⟩ | ⟨rfl, hget⟩ | ⟨rfl, hu⟩
    · rw [hget]
      cases b <;> rfl
    · rw [hget]
      cases want <;> rfl
    · cases hq : a.tmps[d]? with
      | none => rfl
      | some u =>
        have : u = undef := by
          rw [Array.getD_eq_getD_getElem?, hq] at hu
          exact hu
        subst this
        rfl

theorem wanted_of {ops : Array Oper} {o : Oper} {L : Lv} {ds : List (Option Tmp)} {env : List AV} {tm : T AV} {a : Act} {d : Tmp} {want : Bool} {X : X} {b : Bool} (hg : Glob E ρ) (hng : L.ng = E.ng) (he : ERel Y ρ L ds env tm a.tmps)
    (hgu : guardOf ops.toList o.guard = some (some (d, want))) (hx : cX L ds (.tmp d) = some X) (hw : isWanted want (X tm env) = some b) : Region.wanted o (yielded ops a.tmps) = b := by
  have hv := cX_ok hx he hg hng
  unfold guardOf at hgu
  split at hgu
  · cases hgu
  · rename_i j want' hgd
    rw [bnd_eq] at hgu
    obtain ⟨o', ho', hgu⟩ := hgu
    rw [bnd_eq] at hgu
    obtain ⟨d', hd', hgu⟩ := hgu
    cases hgu
    have ho2 : ops[j]? = some o' := by rw [← Array.getElem?_toList]; exact ho'
    have hv' : conc Y ρ (X tm env) = some (a.tmps.getD d undef) := hv
    unfold isWanted at hw
    split at hw
    · rename_i bb hbb
      rw [hbb] at hv'
      simp only [conc, Option.some.injEq] at hv'
      have hget : a.tmps[d]? = some (.bool bb) := by
        rw [Array.getD_eq_getD_getElem?] at hv'
        cases hq : a.tmps[d]? with
        | none => rw [hq] at hv'; cases hv'
        | some u => rw [hq] at hv'; exact congrArg some hv'.symm
      cases hw
      unfold Region.wanted
      rw [hgd]
      simp only [yielded, ho2, Option.bind_some, hd', hget]
      cases bb <;> cases want <;> rfl
    · rename_i hbb
      cases hw
      rw [hbb] at hv'
      have hu : a.tmps.getD d undef = undef := by
        simp only [conc, concs, Option.some.injEq] at hv'
        exact hv'.symm
      unfold Region.wanted
      rw [hgd]
      simp only [yielded, ho2, Option.bind_some, hd']
      cases hq : a.tmps[d]? with
      | none => rfl
      | some u =>
        have : u = undef := by
          rw [Array.getD_eq_getD_getElem?, hq] at hu
          exact hu
        subst this
        rfl
    · rename_i e ks bb hbb
      have hbw : b = false ∧ bb ≠ want := by
        cases bb <;> cases want <;> simp_all
      obtain ⟨rfl, hbw⟩ := hbw
      rw [hbb] at hv'
      simp only [conc] at hv'
      have hget : a.tmps[d]? = some (.bool bb) ∨ a.tmps.getD d undef = undef := by
        split at hv'
        · simp only [Option.some.injEq] at hv'
          left
          rw [Array.getD_eq_getD_getElem?] at hv'
          cases hq : a.tmps[d]? with
          | none => rw [hq] at hv'; cases hv'
          | some u => rw [hq] at hv'; exact congrArg some hv'.symm
        · simp only [Option.some.injEq] at hv'
          exact .inr hv'.symm
      unfold Region.wanted
      rw [hgd]
      simp only [yielded, ho2, Option.bind_some, hd']
      rcases hget with hget | hu
      · rw [hget]
        cases bb <;> cases want <;> first | rfl | exact absurd rfl hbw
      · cases hq : a.tmps[d]? with
        | none => rfl
        | some u =>
          have : u = undef := by
            rw [Array.getD_eq_getD_getElem?, hq] at hu
            exact hu
          subst this
          rfl
    · cases hw

end
end Go.AE

namespace Go.AE

section
variable {Y : Sy} {E : Env} {ρ : Rho} {h : H} {w : World}

/-! ### Deferred calls -/
def DefsRel (Y : Sy) (ρ : Rho) : List ADef → List Deferred → Prop
  | [], [] => True
  | .mark b :: r, d :: s => (∃ L, ρ b = some L ∧ d.target = .collected L.blk) ∧ DefsRel Y ρ r s
  | .call fn cap args :: r, d :: s => (∃ fn' ccap cargs, concFn ρ fn = some fn' ∧ concs Y ρ cap = some ccap ∧ concs Y ρ args = some cargs ∧ d.target = .fn fn' ccap.toArray ∧ d.args = cargs.toArray) ∧ DefsRel Y ρ r s
  | _, _ => False

theorem DefsRel.mono {ρ' : Rho} (hle : ρ.le ρ') : ∀ {df : List ADef} {ds : List Deferred}, DefsRel Y ρ df ds → DefsRel Y ρ' df ds
  | [], [], _ => trivial
  | .mark _ :: _, _ :: _, ⟨⟨L, hL, e⟩, h2⟩ => ⟨⟨L, hle _ _ hL, e⟩, h2.mono hle⟩
  | .call _ _ _ :: _, _ :: _, ⟨⟨fn', cc, ca, h1, h2, h3, h4, h5⟩, h6⟩ => ⟨⟨fn', cc, ca, concFn_mono hle h1, concs_mono hle h2, concs_mono hle h3, h4, h5⟩, h6.mono hle⟩
  | [], _ :: _, h => h.elim
  | .mark _ :: _, [], h => h.elim
  | .call _ _ _ :: _, [], h => h.elim

/-- a deferred call, held as a value -/
def DefRel (Y : Sy) (ρ : Rho) (v : AV) (d : Deferred) : Prop :=
  ∃ fn first cap fn' cfirst ccap, v = .func fn first cap ∧ concFn ρ fn = some fn' ∧ concs Y ρ first = some cfirst ∧ concs Y ρ cap = some ccap ∧ d = { target := .fn fn' ccap.toArray, args := cfirst.toArray }

theorem DefRel.mono {ρ' : Rho} (hle : ρ.le ρ') {v : AV} {d : Deferred} (h : DefRel Y ρ v d) : DefRel Y ρ' v d :=
  let ⟨fn, first, cap, fn', cf, cc, e, h1, h2, h3, h4⟩ := h; ⟨fn, first, cap, fn', cf, cc, e, concFn_mono hle h1, concs_mono hle h2, concs_mono hle h3, h4⟩

/-- the deferred calls among the values of a region -/
def DfR (Y : Sy) (ρ : Rho) : List Bool → List AV → List Deferred → Prop
  | [], _, new => new = []
  | true :: fs, v :: env, d :: new => DefRel Y ρ v d ∧ DfR Y ρ fs env new
  | false :: fs, _ :: env, new => DfR Y ρ fs env new
  | _, _, _ => False

theorem DfR.mono {ρ' : Rho} (hle : ρ.le ρ') : ∀ {fs : List Bool} {env : List AV} {new : List Deferred}, DfR Y ρ fs env new → DfR Y ρ' fs env new
  | [], _, _, h => h
  | true :: _, _ :: _, _ :: _, h => ⟨h.1.mono hle, DfR.mono hle h.2⟩
  | false :: fs, _ :: env, new, h => DfR.mono (fs := fs) (env := env) (new := new) hle h
  | true :: _, [], _, h => h.elim
  | true :: _, _ :: _, [], h => h.elim
  | false :: _, [], _, h => h.elim

theorem nthA_at (pre : List AV) (v : AV) (r : List AV) : nthA pre.length (pre ++ v :: r) = v := by
  induction pre with
  | nil => rfl
  | cons a pre ih => exact ih

theorem pushDefs_ok {df : List ADef} {ds : List Deferred} (hd : DefsRel Y ρ df ds) : ∀ (fs : List Bool) (pre env : List AV) (new : List Deferred) (df' : List ADef), DfR Y ρ fs env new → pushDefs (defersOf fs pre.length) (pre ++ env) df = some df' → DefsRel Y ρ df' (new ++ ds)
  | [], pre, env, new, df', h, hp => by
    have : new = [] := h
    subst this
    simp only [defersOf, pushDefs, Option.some.injEq] at hp
    subst hp
    exact hd
  | true :: fs, pre, v :: env, d :: new, df', h, hp => by
    simp only [defersOf, pushDefs] at hp
    rw [bnd_eq] at hp
    obtain ⟨df₁, h1, hp⟩ := hp
    rw [bnd_eq] at hp
    obtain ⟨x, h2, hp⟩ := hp
    cases hp
    rw [nthA_at] at h2
    obtain ⟨fn, first, cap, fn', cf, cc, rfl, k1, k2, k3, rfl⟩ := h.1
    cases h2
    refine ⟨⟨fn', cc, cf, k1, k3, k2, rfl, rfl⟩, ?_⟩
    refine pushDefs_ok hd fs (pre ++ [.func fn first cap]) env new df₁ h.2 ?_
    simpa using h1
  | false :: fs, pre, v :: env, new, df', h, hp => by
    simp only [defersOf] at hp
    refine pushDefs_ok hd fs (pre ++ [v]) env new df' h ?_
    simpa using hp
  | true :: _, _, [], _, _, h, _ => h.elim
  | true :: _, _, _ :: _, [], _, h, _ => h.elim
  | false :: _, _, [], _, _, h, _ => h.elim

theorem defersOf_nil : ∀ (fs : List Bool) (i : Nat) (env : List AV) (new : List Deferred), defersOf fs i = [] → DfR Y ρ fs env new → new = []
  | [], _, _, _, _, h => h
  | true :: _, _, _, _, hd, _ => by cases hd
  | false :: fs, i, _ :: env, new, hd, h => defersOf_nil fs (i + 1) env new hd h
  | false :: _, _, [], _, _, h => h.elim

/-- a deferred call is laid -/
theorem deferK_ok (hE : EnvOk Y E) {rc : Rec} {L : Lv} (hng : L.ng = E.ng) (hg : Glob E ρ) {ds : List (Option Tmp)} {env : List AV} {tm : T AV} {a : Act} (he : ERel Y ρ L ds env tm a.tmps) {o : Oper} {k : KV}
    (hk : (deferK L ds (cOp E o.op)).run rc tm env h k = true) : ∃ v d, DefRel Y ρ v d ∧ (execOp a.eval o).run E.P w = .ok (.defer d) w ∧ k v h = true := by
  have hok := cOp_ok (Y := Y) hE o
  cases hc : cOp E o.op with
  | df xs g =>
    rw [hc] at hk hok
    simp only [deferK] at hk
    cases hx : cXs L ds xs with
    | none => rw [hx] at hk; cases hk
    | some X =>
      rw [hx] at hk
      dsimp only at hk
      obtain ⟨v, hv, hk⟩ := optK_eq.1 hk
      obtain ⟨fn, fn', first, cap, cf, cc, rfl, k1, k2, k3, k4⟩ := hok.2 ρ a.eval w _ v (cXs_ok he hg hng hx) hv
      exact ⟨_, _, ⟨fn, first, cap, fn', cf, cc, rfl, k1, k2, k3, rfl⟩, k4, hk⟩
  | _ => rw [hc] at hk; cases hk

theorem cOps_cons (E : Env) (L : Lv) (ops : List Oper) (o : Oper) (l : List Oper) (ds : List (Option Tmp)) (rc : Rec) (tm : T AV) (env : List AV) (h : H) (k : List AV → H → Bool) :
    (cOps E L ops (o :: l) ds).run rc tm env h k = (cStep E L ops ds o).run rc tm env h fun v h' => (cOps E L ops l (o.dst :: ds)).run rc tm (v :: env) h' k := rfl

theorem ops_ok (hE : EnvOk Y E) {rc : Rec} (hrc : RecOk Y E rc) {L : Lv} (hng : L.ng = E.ng) {arr : Array Oper} {nt n : Nat} {ro : Option Nat} {tm : T AV} {k : List AV → H → Bool} {Q : Exit → Act → World → Prop} :
    ∀ (l : List Oper) (i : Nat) (ds : List (Option Tmp)) (fs : List Bool) (env : List AV) (new : List Deferred) (ρ : Rho) (h : H) (w : World) (a : Act), arr.toList.drop i = l → Rel Y E ρ h w → Glob E ρ → ERel Y ρ L ds env tm a.tmps → a.tmps.size = nt →
      (∀ o ∈ l, ∀ d, o.dst = some d → d < nt) → (ro = none ∨ ∀ o ∈ l, isDf (cOp E o.op) = false) → DfR Y ρ fs env new → (cOps E L arr.toList l ds).run rc tm env h k = true →
      (∀ ρ' h' w' a' env' more, Goes Y E ρ h w ρ' h' w' → ERel Y ρ' L ((l.map fun o => o.dst).reverse ++ ds) env' tm a'.tmps → a'.tmps.size = nt → DfR Y ρ' ((l.map fun o => isDf (cOp E o.op)).reverse ++ fs) env' (more ++ new) → a'.defers = more ++ a.defers → k env' h' = true → Q .normal a' w') →
      wpOpsIn (fence ro) n E.P arr Q (List.range' i l.length) a w := by
  intro l
  induction l with
  | nil =>
    intro i ds fs env new ρ h w a _ hr hg he hs _ _ hdr hk hQ
    exact hQ ρ h w a env [] (Goes.refl hr) (by simpa using he) hs (by simpa using hdr) rfl hk
  | cons o l ih =>
    intro i ds fs env new ρ h w a hdrop hr hg he hs hdst hro hdr hk hQ
    have hi : arr[i]? = some o := by
      rw [← Array.getElem?_toList]
      have := congrArg (fun l => l[0]?) hdrop
      simpa using this
    have hdrop' : arr.toList.drop (i + 1) = l := by
      have := congrArg List.tail hdrop
      simpa using this
    have hd : ∀ d, o.dst = some d → d < a.tmps.size := fun d hd => by rw [hs]; exact hdst o (by simp) d hd
    have hdst' : ∀ o' ∈ l, ∀ d, o'.dst = some d → d < nt := fun o' ho' => hdst o' (by simp [ho'])
    have hro' : ro = none ∨ ∀ o ∈ l, isDf (cOp E o.op) = false := by
      rcases hro with h | h
      · exact .inl h
      · exact .inr fun o' ho' => h o' (by simp [ho'])
    have hlen : List.range' i (o :: l).length = i :: List.range' (i + 1) l.length := by simp [List.range'_succ]
    rw [hlen]
    simp only [wpOpsIn, hi]
    rw [cOps_cons] at hk
    cases hdf : isDf (cOp E o.op) with
    | true =>
      have hr0 : ro = none := by
        rcases hro with h | h
        · exact h
        · rw [h o (by simp)] at hdf; cases hdf
      subst hr0
      simp only [cStep, hdf] at hk
      cases hgd : o.guard with
      | some _ => rw [hgd] at hk; cases hk
      | none =>
        cases hds : o.dst with
        | some _ => rw [hgd, hds] at hk; cases hk
        | none =>
          rw [hgd, hds] at hk
          dsimp only at hk
          obtain ⟨v, d, hdv, hex, hk'⟩ := deferK_ok (w := w) hE hng hg he hk
          have hw : Region.wanted o (yielded arr a.tmps) = true := by simp [Region.wanted, hgd]
          rw [hw, if_pos rfl]
          refine ⟨fun _ _ => trivial, ?_⟩
          have e : o.semAt (fence none).round a.eval = execOp a.eval o := Oper.semAt_none _ _
          rw [e, hex]
          show wpOpsIn (fence none) n E.P arr Q (List.range' (i + 1) l.length) ({ a with defers := d :: a.defers }.put o.dst undef) w
          rw [hds]
          have he' : ERel Y ρ L (none :: ds) (v :: env) tm a.tmps := by
            refine ⟨fun t j ht => ?_, fun t ht hl => ?_⟩
            · have ht' : posOf t ds (0 + 1) = some j := ht
              rw [posOf_succ, Option.map_eq_some_iff] at ht'
              obtain ⟨j, hj, rfl⟩ := ht'
              exact he.here t j hj
            · have ht' : posOf t ds (0 + 1) = none := ht
              rw [posOf_succ, Option.map_eq_none_iff] at ht'
              exact he.beyond t ht' hl
          refine ih (i + 1) (none :: ds) (true :: fs) (v :: env) (d :: new) ρ h w { a with defers := d :: a.defers } hdrop' hr hg he' hs hdst' hro' ⟨hdv, hdr⟩ hk' ?_
          intro ρ'' h'' w'' a'' env'' more hgo' he'' hs' hdr' hdf' hk''
          refine hQ ρ'' h'' w'' a'' env'' (more ++ [d]) hgo' ?_ hs' ?_ (by rw [hdf']; simp) hk''
          · simpa [hds] using he''
          · simpa [hdf] using hdr'
    | false =>
    simp only [cStep, hdf] at hk
    -- what follows
    have next : ∀ (ρ' : Rho) (h' : H) (w' : World) (av : AV) (v : Value), Goes Y E ρ h w ρ' h' w' → conc Y ρ' av = some v → (cOps E L arr.toList l (o.dst :: ds)).run rc tm (av :: env) h' k = true →
        wpOpsIn (fence ro) n E.P arr Q (List.range' (i + 1) l.length) (a.put o.dst v) w' := by
      intro ρ' h' w' av v hgo hv hk'
      refine ih (i + 1) (o.dst :: ds) (false :: fs) (av :: env) new ρ' h' w' (a.put o.dst v) hdrop' hgo.rel (hg.mono hgo.le) ((he.mono hgo.le).put hv hd) (by rw [put_size]; exact hs) hdst' hro' (DfR.mono hgo.le hdr) hk' ?_
      intro ρ'' h'' w'' a'' env'' more hgo' he' hs' hdr' hdf' hk''
      refine hQ ρ'' h'' w'' a'' env'' more (Goes.trans hr hgo hgo') ?_ hs' ?_ (by rw [hdf', put_defers]) hk''
      · simpa using he'
      · simpa [hdf] using hdr'
    -- the operation goes
    have goes : (stepK L ds (cOp E o.op)).run rc tm env h (fun v h' => (cOps E L arr.toList l (o.dst :: ds)).run rc tm (v :: env) h' k) = true →
        o.wpIn (fence ro) n E.P a w (wpOpsIn (fence ro) n E.P arr Q (List.range' (i + 1) l.length)) Q := by
      intro hk
      refine ⟨fun _ _ => trivial, ?_⟩
      have e : o.semAt (fence ro).round a.eval = execOp a.eval o := Oper.semAt_eq _ _ _ (stepK_not_defer hk)
      rw [e]
      refine upon_of_big (stepK_big hE hrc hr hg hng he hk) ?_
      rintro v w' ⟨ρ', h', av, hgo, hv, hk'⟩
      exact next ρ' h' w' av v hgo hv hk'
    -- it is not known whether it goes
    have unsure : ∀ {d : Tmp} {want : Bool} {X : X} {e : SX} {ks : List Int}, guardOf arr.toList o.guard = some (some (d, want)) → cX L ds (.tmp d) = some X → inOf want (X tm env) = some (e, ks) → (unsureK L ds (cOp E o.op)).run e ks rc tm env h (fun v h' => (cOps E L arr.toList l (o.dst :: ds)).run rc tm (v :: env) h' k) = true →
        (if Region.wanted o (yielded arr a.tmps) then o.wpIn (fence ro) n E.P a w (wpOpsIn (fence ro) n E.P arr Q (List.range' (i + 1) l.length)) Q
          else (∀ f, o.about E.P w a.eval = some f → (fence ro).fn f) ∧ wpOpsIn (fence ro) n E.P arr Q (List.range' (i + 1) l.length) (a.put o.dst undef) w) := by
      intro d want X e ks hgu hx hin hk
      obtain ⟨v, hk', hv0, hv1⟩ := unsure_ok hE hrc hr hg hng he hk
      cases hi : inV (e.val Y) ks with
      | false =>
        rw [wanted_in hg hng he hgu hx hin hi, if_neg (by simp)]
        refine ⟨fun _ _ => trivial, next ρ h w (.when e ks v) undef (Goes.refl hr) ?_ hk'⟩
        simp only [conc, hi, Bool.false_eq_true, if_false]
      | true =>
        rw [wanted_in hg hng he hgu hx hin hi, if_pos rfl]
        refine ⟨fun _ _ => trivial, ?_⟩
        have e0 : o.semAt (fence ro).round a.eval = execOp a.eval o := Oper.semAt_eq _ _ _ hv0
        rw [e0]
        refine upon_of_big (hv1 hi) ?_
        rintro v w' ⟨ρ', h', av, hgo, hv, hk'⟩
        exact next ρ' h' w' av v hgo hv hk'
    split at hk
    · cases hk
    · rename_i g hgu
      unfold guardK at hk
      dsimp only at hk
      split at hk
      · have hw : Region.wanted o (yielded arr a.tmps) = true := by
          have : o.guard = none := by
            unfold guardOf at hgu
            split at hgu
            · rename_i hgn; exact hgn
            · rw [bnd_eq] at hgu
              obtain ⟨_, _, hgu⟩ := hgu
              rw [bnd_eq] at hgu
              obtain ⟨_, _, hgu⟩ := hgu
              cases hgu
          simp [Region.wanted, this]
        rw [hw, if_pos rfl]
        exact goes hk
      · rename_i d want
        cases hx : cX L ds (.tmp d) with
        | none => rw [hx] at hk; cases hk
        | some X =>
          rw [hx] at hk
          dsimp only at hk
          cases hwt : isWanted want (X tm env) with
          | none =>
            rw [hwt] at hk
            dsimp only at hk
            split at hk
            · rename_i e ks hin
              exact unsure hgu hx hin hk
            · cases hk
          | some b =>
            rw [hwt] at hk
            cases b with
            | true =>
              rw [wanted_of hg hng he hgu hx hwt, if_pos rfl]
              exact goes hk
            | false =>
              rw [wanted_of hg hng he hgu hx hwt, if_neg (by simp)]
              exact ⟨fun _ _ => trivial, next ρ h w undefA undef (Goes.refl hr) rfl hk⟩

/-! ### What a region leaves -/
theorem flushOf_lt {L : Lv} {nt : Nat} : ∀ {ds : List (Option Tmp)} {i : Nat} {done : List Nat} {fl : List (Nat × P2)}, flushOf L nt ds i done = some fl → ∀ d, some d ∈ ds → d < nt
  | [], _, _, _, _, d, hd => by cases hd
  | none :: r, i, done, fl, hf, d, hd => by
    rcases List.mem_cons.1 hd with h | h
    · cases h
    · exact flushOf_lt (ds := r) hf d h
  | some e :: r, i, done, fl, hf, d, hd => by
    simp only [flushOf] at hf
    cases hlt : Nat.blt e nt with
    | false => rw [hlt] at hf; cases hf
    | true =>
      rw [hlt] at hf
      dsimp only at hf
      rcases List.mem_cons.1 hd with h | h
      · cases h; exact (blt_iff _ _).1 hlt
      · cases hc : (Nat.testBit L.live e && !memN done e) with
        | false => rw [hc] at hf; exact flushOf_lt (ds := r) hf d h
        | true =>
          rw [hc] at hf
          dsimp only at hf
          rw [bnd_eq] at hf
          obtain ⟨l, hl, _⟩ := hf
          exact flushOf_lt (ds := r) hl d h

theorem flush_cons (p : Nat × P2) (l : List (Nat × P2)) (env : List AV) (tm : T AV) : flush (p :: l) env tm = flush l env (putP (nthA p.1 env) p.2 tm) := rfl

theorem tget_putP (x : AV) (n : Nat) (tm : T AV) (t : Nat) : tget (putP x (pathOf n) tm) t = if t = n then x else tget tm t := by
  unfold tget
  rw [get_putP_of]
  by_cases h : t = n
  · rw [if_pos h, if_pos h]
  · rw [if_neg h, if_neg h]

theorem flush_get {L : Lv} {nt : Nat} {env : List AV} : ∀ {ds : List (Option Tmp)} {i : Nat} {done : List Nat} {fl : List (Nat × P2)} (tm : T AV), flushOf L nt ds i done = some fl → ∀ t,
    tget (flush fl env tm) t = if (Nat.testBit L.live t && !memN done t) = true then (match posOf t ds i with | some j => nthA j env | none => tget tm t) else tget tm t
  | [], i, done, fl, tm, hf, t => by
    cases hf
    simp [flush, posOf]
  | none :: r, i, done, fl, tm, hf, t => flush_get (ds := r) tm hf t
  | some d :: r, i, done, fl, tm, hf, t => by
    simp only [flushOf] at hf
    cases hlt : Nat.blt d nt with
    | false => rw [hlt] at hf; cases hf
    | true =>
      rw [hlt] at hf
      dsimp only at hf
      cases hc : (Nat.testBit L.live d && !memN done d) with
      | false =>
        rw [hc] at hf
        rw [flush_get (ds := r) tm hf t]
        by_cases htd : t = d
        · subst htd
          rw [hc]
          simp
        · have : Nat.beq d t = false := by
            cases hb : Nat.beq d t with
            | false => rfl
            | true => exact absurd (Nat.eq_of_beq_eq_true hb).symm htd
          simp only [posOf, this]
      | true =>
        rw [hc] at hf
        dsimp only at hf
        rw [bnd_eq] at hf
        obtain ⟨l, hl, hf⟩ := hf
        cases hf
        rw [flush_cons, flush_get (ds := r) _ hl t]
        by_cases htd : t = d
        · subst htd
          have hm : memN (t :: done) t = true := (memN_iff _ _).2 (by simp)
          have hb : Nat.beq t t = true := Nat.beq_refl t
          rw [hm, hc]
          simp only [Bool.not_true, Bool.and_false, Bool.false_eq_true, if_false, if_true, tget_putP, posOf, hb]
        · have hb : Nat.beq d t = false := by
            cases hb : Nat.beq d t with
            | false => rfl
            | true => exact absurd (Nat.eq_of_beq_eq_true hb).symm htd
          have hm : memN (d :: done) t = memN done t := by
            cases hm : memN done t with
            | true => exact (memN_iff _ _).2 (by simp [(memN_iff _ _).1 hm])
            | false =>
              cases hm' : memN (d :: done) t with
              | false => rfl
              | true =>
                rcases List.mem_cons.1 ((memN_iff _ _).1 hm') with h | h
                · exact absurd h htd
                · rw [(memN_iff _ _).2 h] at hm; cases hm
          rw [hm, tget_putP, if_neg htd]
          simp only [posOf, hb]

theorem ERel.flush {L : Lv} {nt : Nat} {ds : List (Option Tmp)} {env : List AV} {tm : T AV} {tmps : Array Value} {fl : List (Nat × P2)} (he : ERel Y ρ L ds env tm tmps) (hf : flushOf L nt ds 0 [] = some fl) : TRel Y ρ L.live (flush fl env tm) tmps := by
  intro t ht
  rw [flush_get tm hf t]
  have hm : memN [] t = false := rfl
  rw [ht, hm]
  simp only [Bool.not_false, Bool.and_self, if_true]
  cases hp : posOf t ds 0 with
  | some j => exact he.here t j hp
  | none => exact he.beyond t hp ht

/-! ### What code leaves -/
/-- a frame -/
structure FR (Y : Sy) (ρ : Rho) (L : Lv) (nt : Nat) (tm : T AV) (df : List ADef) (a : Act) : Prop where
  tmps : TRel Y ρ L.live tm a.tmps
  size : a.tmps.size = nt
  defs : DefsRel Y ρ df a.defers

theorem FR.mono {ρ' : Rho} {L : Lv} {nt : Nat} {tm : T AV} {df : List ADef} {a : Act} (h : FR Y ρ L nt tm df a) (hle : ρ.le ρ') : FR Y ρ' L nt tm df a := ⟨h.tmps.mono hle, h.size, h.defs.mono hle⟩

def Leaves (Y : Sy) (E : Env) (ρ : Rho) (h : H) (w : World) (L : Lv) (nt : Nat) (k : KT) (a : Act) (w' : World) : Prop := ∃ ρ' h' tm df, Goes Y E ρ h w ρ' h' w' ∧ FR Y ρ' L nt tm df a ∧ k tm df h' = true

def PostC (Y : Sy) (E : Env) (ρ : Rho) (h : H) (w : World) (L : Lv) (nt : Nat) (kn : KT) (ke : Nat → KT) (kr : KT) : Exit → Act → World → Prop
  | .normal, a, w' => Leaves Y E ρ h w L nt kn a w'
  | .exit id, a, w' => Leaves Y E ρ h w L nt (ke id) a w'
  | .ret, a, w' => Leaves Y E ρ h w L nt kr a w'
  | _, _, _ => False

theorem Leaves.trans {ρ₁ : Rho} {h₁ : H} {w₁ : World} {L : Lv} {nt : Nat} {k : KT} {a : Act} {w' : World} (hr : Rel Y E ρ h w) (hg : Goes Y E ρ h w ρ₁ h₁ w₁) (hl : Leaves Y E ρ₁ h₁ w₁ L nt k a w') : Leaves Y E ρ h w L nt k a w' :=
  let ⟨ρ', h', tm, df, g, f, e⟩ := hl; ⟨ρ', h', tm, df, Goes.trans hr hg g, f, e⟩

theorem PostC.trans {ρ₁ : Rho} {h₁ : H} {w₁ : World} {L : Lv} {nt : Nat} {kn : KT} {ke : Nat → KT} {kr : KT} {e : Exit} {a : Act} {w' : World} (hr : Rel Y E ρ h w) (hg : Goes Y E ρ h w ρ₁ h₁ w₁) (hl : PostC Y E ρ₁ h₁ w₁ L nt kn ke kr e a w') : PostC Y E ρ h w L nt kn ke kr e a w' := by
  cases e with
  | normal => exact Leaves.trans hr hg hl
  | exit id => exact Leaves.trans hr hg hl
  | ret => exact Leaves.trans hr hg hl
  | goto _ => exact hl
  | panic _ => exact hl
  | outgrown => exact hl

/-- the round in which a frame is -/
def RoRel (ρ : Rho) : Option Nat → Option Nat → Prop
  | none, none => True
  | some l, some r => ∃ L, ρ l = some L ∧ L.blk = r
  | _, _ => False

theorem RoRel.mono {ρ' : Rho} (hle : ρ.le ρ') {a b : Option Nat} (h : RoRel ρ a b) : RoRel ρ' a b := by
  cases a <;> cases b <;> first | exact h | (obtain ⟨L, h1, h2⟩ := h; exact ⟨L, hle _ _ h1, h2⟩)

/-- what a piece of the evaluator is worth to a piece of code -/
def CodeOk (Y : Sy) (E : Env) (L : Lv) (nt : Nat) (c : Code) (K : KC) : Prop :=
  ∀ (rc : Rec) (ro cro : Option Nat) (ρ : Rho) (h : H) (w : World) (a : Act) (tm : T AV) (df : List ADef) (kn : KT) (ke : Nat → KT) (kr : KT) (n : Nat), RecOk Y E rc → Rel Y E ρ h w → Glob E ρ → RoRel ρ ro cro → FR Y ρ L nt tm df a →
    K.run rc ro tm df h kn ke kr = true → c.wpIn (fence cro) n E.P (PostC Y E ρ h w L nt kn ke kr) a w

theorem defersOf_all : ∀ (fs : List Bool) (i : Nat), defersOf fs i = [] → ∀ b ∈ fs, b = false
  | [], _, _, b, hb => by cases hb
  | true :: _, _, hd, _, _ => by cases hd
  | false :: fs, i, hd, b, hb => by
    rcases List.mem_cons.1 hb with rfl | hb
    · rfl
    · exact defersOf_all fs (i + 1) hd b hb

theorem region_ops (hE : EnvOk Y E) {L : Lv} (hng : L.ng = E.ng) {nt : Nat} {ops : Array Oper} (rc : Rec) (ro cro : Option Nat) (ρ : Rho) (h : H) (w : World) (a : Act) (tm : T AV) (df : List ADef) (kn : KT) (ke : Nat → KT) (kr : KT) (n : Nat) (hrc : RecOk Y E rc) (hr : Rel Y E ρ h w) (hg : Glob E ρ) (hro : RoRel ρ ro cro) (hf : FR Y ρ L nt tm df a)
    (hk : (cRegion E L nt ops.toList).run rc ro tm df h kn ke kr = true) : wpOpsIn (fence cro) n E.P ops (PostC Y E ρ h w L nt kn ke kr) (List.range ops.size) a w := by
  unfold cRegion at hk
  split at hk
  · rename_i fl hfl
    have hlen : List.range ops.size = List.range' 0 ops.toList.length := by rw [List.range_eq_range']; simp
    rw [hlen]
    have hdl : ∀ o ∈ ops.toList, ∀ d, o.dst = some d → d < nt := by
      intro o ho d hd
      refine flushOf_lt hfl d ?_
      unfold dstsOf
      rw [List.mem_reverse, List.mem_map]
      exact ⟨o, ho, hd⟩
    split at hk
    · rename_i hnil
      dsimp only at hk
      refine ops_ok hE hrc hng ops.toList 0 [] [] [] [] ρ h w a rfl hr hg (ERel.start hf.tmps) hf.size hdl (.inr fun o ho => ?_) rfl hk ?_
      · refine defersOf_all _ _ hnil _ ?_
        unfold dfsOf
        rw [List.mem_reverse, List.mem_map]
        exact ⟨o, ho, rfl⟩
      · intro ρ' h' w' a' env' more hgo he hs hdr hdf hk'
        rw [List.append_nil] at he
        have : more = [] := by
          have := defersOf_nil _ 0 _ _ (by simpa [dfsOf] using hnil) (by simpa using hdr)
          simpa using this
        subst this
        exact ⟨ρ', h', _, df, hgo, ⟨he.flush hfl, hs, by rw [hdf]; exact hf.defs.mono hgo.le⟩, hk'⟩
    · dsimp only at hk
      cases ro with
      | some _ => cases hk
      | none =>
        cases cro with
        | some _ => exact hro.elim
        | none =>
          dsimp only at hk
          refine ops_ok hE hrc hng ops.toList 0 [] [] [] [] ρ h w a rfl hr hg (ERel.start hf.tmps) hf.size hdl (.inl rfl) rfl hk ?_
          intro ρ' h' w' a' env' more hgo he hs hdr hdf hk'
          rw [List.append_nil] at he
          obtain ⟨df', hp, hk'⟩ := optK_eq.1 hk'
          refine ⟨ρ', h', _, df', hgo, ⟨he.flush hfl, hs, ?_⟩, hk'⟩
          rw [hdf]
          have := pushDefs_ok (hf.defs.mono hgo.le) (dfsOf E ops.toList) [] env' more df' (by simpa [dfsOf] using hdr) (by simpa using hp)
          exact this
  · cases hk


theorem region_ok (hE : EnvOk Y E) {L : Lv} (hng : L.ng = E.ng) {nt id : Nat} {ops : Array Oper} : CodeOk Y E L nt (.region id ops false) (cRegion E L nt ops.toList) :=
  fun rc ro cro ρ h w a tm df kn ke kr n hrc hr hg hro hf hk => wpIn_region (region_ops hE hng rc ro cro ρ h w a tm df kn ke kr n hrc hr hg hro hf hk)

end
end Go.AE

namespace Go.AE

section
variable {Y : Sy} {E : Env} {ρ : Rho} {h : H} {w : World}

theorem binds_eq (e : Edge) : Region.binds .any e = bindsA e := by
  unfold Region.binds bindsA
  cases e.ground <;> rfl

theorem aft_eq (l : List Bool) (o : Oper) : (o.after.all fun e => !Region.binds .any e || l.toArray.getD e.on false) = aft l o := by
  unfold aft
  rw [← Array.all_toList]
  congr 1
  funext e
  rw [binds_eq]
  simp [Array.getD_eq_getD_getElem?, List.getD_eq_getElem?_getD]

/-- one step of the choice -/
theorem go_step {ops : Array Oper} {fuel t : Nat} {l : List Bool} {acc rs : List Nat}
    (hr : (List.range ops.size).filter (fun i => !l.toArray.getD i true && ((ops[i]?).map (·.after.all fun e => !Region.binds .any e || l.toArray.getD e.on false)).getD false) = rs) (hne : rs ≠ []) :
    ∃ i ∈ rs, ∃ t', Region.linearise.go .any ops (fuel + 1) t l.toArray acc = Region.linearise.go .any ops fuel t' (l.set i true).toArray (i :: acc) := by
  have hlt : t % rs.length < rs.length := Nat.mod_lt _ (List.length_pos_iff.2 hne)
  refine ⟨rs[t % rs.length], List.getElem_mem hlt, t / rs.length, ?_⟩
  simp only [Region.linearise.go]
  rw [hr]
  rw [List.getElem?_eq_getElem hlt]
  simp [List.setIfInBounds_toArray]

theorem fork_orders {o₀ o₁ o₂ o₃ : Oper} (hf : forkOk o₀ o₁ o₂ o₃ = true) (t : Nat) :
    Region.linearise .any #[o₀, o₁, o₂, o₃] t = [0, 1, 2, 3] ∨ Region.linearise .any #[o₀, o₁, o₂, o₃] t = [0, 2, 1, 3] := by
  unfold forkOk at hf
  simp only [Bool.and_eq_true, Bool.not_eq_true'] at hf
  obtain ⟨⟨⟨⟨⟨⟨⟨⟨⟨⟨⟨⟨⟨⟨⟨_, _⟩, _⟩, _⟩, a0⟩, a1⟩, a2⟩, a3⟩, b1⟩, b2⟩, b3⟩, c2⟩, c3⟩, d1⟩, d3⟩, e3⟩ := hf
  have hrange : List.range (#[o₀, o₁, o₂, o₃] : Array Oper).size = [0, 1, 2, 3] := rfl
  have st : ∀ (l : List Bool) (p q r s : Bool), aft l o₀ = p → aft l o₁ = q → aft l o₂ = r → aft l o₃ = s →
      (List.range (#[o₀, o₁, o₂, o₃] : Array Oper).size).filter (fun i => !l.toArray.getD i true && (((#[o₀, o₁, o₂, o₃] : Array Oper)[i]?).map (·.after.all fun e => !Region.binds .any e || l.toArray.getD e.on false)).getD false)
        = [0, 1, 2, 3].filter fun i => !l.getD i true && ([p, q, r, s].getD i false) := by
    intro l p q r s hp hq hr hs
    rw [hrange]
    refine List.filter_congr fun i hi => ?_
    have hl : l.toArray.getD i true = l.getD i true := by simp [Array.getD_eq_getD_getElem?, List.getD_eq_getElem?_getD]
    rw [hl]
    simp only [List.mem_cons, List.mem_nil_iff, or_false] at hi
    rcases hi with rfl | rfl | rfl | rfl
    · show (_ && (o₀.after.all fun e => !Region.binds .any e || l.toArray.getD e.on false)) = _
      rw [aft_eq, hp]; rfl
    · show (_ && (o₁.after.all fun e => !Region.binds .any e || l.toArray.getD e.on false)) = _
      rw [aft_eq, hq]; rfl
    · show (_ && (o₂.after.all fun e => !Region.binds .any e || l.toArray.getD e.on false)) = _
      rw [aft_eq, hr]; rfl
    · show (_ && (o₃.after.all fun e => !Region.binds .any e || l.toArray.getD e.on false)) = _
      rw [aft_eq, hs]; rfl
  have hstart : Region.linearise .any #[o₀, o₁, o₂, o₃] t = Region.linearise.go .any #[o₀, o₁, o₂, o₃] (3 + 1) t [false, false, false, false].toArray [] := rfl
  rw [hstart]
  obtain ⟨i, hi, t1, e1⟩ := go_step (fuel := 3) (t := t) (acc := []) (rs := [0]) (by rw [st _ _ _ _ _ a0 a1 a2 a3]; rfl) (by simp)
  obtain rfl := List.mem_singleton.1 hi
  rw [e1, show ([false, false, false, false] : List Bool).set 0 true = [true, false, false, false] from rfl]
  obtain ⟨i, hi, t2, e2⟩ := go_step (ops := #[o₀, o₁, o₂, o₃]) (fuel := 2) (t := t1) (l := [true, false, false, false]) (acc := [0]) (rs := [1, 2]) (by rw [st _ _ _ _ _ rfl b1 b2 b3]; cases aft _ o₀ <;> rfl) (by simp)
  rw [e2]
  rcases List.mem_cons.1 hi with rfl | hi
  · rw [show ([true, false, false, false] : List Bool).set 1 true = [true, true, false, false] from rfl]
    obtain ⟨i, hi, t3, e3'⟩ := go_step (ops := #[o₀, o₁, o₂, o₃]) (fuel := 1) (t := t2) (l := [true, true, false, false]) (acc := [1, 0]) (rs := [2]) (by rw [st _ _ _ _ _ rfl rfl c2 c3]; cases aft _ o₀ <;> cases aft _ o₁ <;> rfl) (by simp)
    obtain rfl := List.mem_singleton.1 hi
    rw [e3', show ([true, true, false, false] : List Bool).set 2 true = [true, true, true, false] from rfl]
    obtain ⟨i, hi, t4, e4⟩ := go_step (ops := #[o₀, o₁, o₂, o₃]) (fuel := 0) (t := t3) (l := [true, true, true, false]) (acc := [2, 1, 0]) (rs := [3]) (by rw [st _ _ _ _ _ rfl rfl rfl e3]; cases aft _ o₀ <;> cases aft _ o₁ <;> cases aft _ o₂ <;> rfl) (by simp)
    obtain rfl := List.mem_singleton.1 hi
    rw [e4]
    exact .inl rfl
  · obtain rfl := List.mem_singleton.1 hi
    rw [show ([true, false, false, false] : List Bool).set 2 true = [true, false, true, false] from rfl]
    obtain ⟨i, hi, t3, e3'⟩ := go_step (ops := #[o₀, o₁, o₂, o₃]) (fuel := 1) (t := t2) (l := [true, false, true, false]) (acc := [2, 0]) (rs := [1]) (by rw [st _ _ _ _ _ rfl d1 rfl d3]; cases aft _ o₀ <;> cases aft _ o₂ <;> rfl) (by simp)
    obtain rfl := List.mem_singleton.1 hi
    rw [e3', show ([true, false, true, false] : List Bool).set 1 true = [true, true, true, false] from rfl]
    obtain ⟨i, hi, t4, e4⟩ := go_step (ops := #[o₀, o₁, o₂, o₃]) (fuel := 0) (t := t3) (l := [true, true, true, false]) (acc := [1, 2, 0]) (rs := [3]) (by rw [st _ _ _ _ _ rfl rfl rfl e3]; cases aft _ o₀ <;> cases aft _ o₁ <;> cases aft _ o₂ <;> rfl) (by simp)
    obtain rfl := List.mem_singleton.1 hi
    rw [e4]
    exact .inr rfl

theorem postC_drew {L : Lv} {nt : Nat} {kn : KT} {ke : Nat → KT} {kr : KT} : PostC Y E ρ h { w with drawn := w.drawn + 1 } L nt kn ke kr = PostC Y E ρ h w L nt kn ke kr := by
  have hl : ∀ (k : KT) a w', Leaves Y E ρ h { w with drawn := w.drawn + 1 } L nt k a w' = Leaves Y E ρ h w L nt k a w' := by
    intro k a w'
    unfold Leaves
    refine propext ⟨?_, ?_⟩
    · rintro ⟨ρ', h', tm, df, g, f, e⟩
      exact ⟨ρ', h', tm, df, ⟨g.le, g.rel, ⟨g.frm.os, g.frm.tape, g.frm.output, g.frm.size, g.frm.block⟩, g.keeps, g.made, g.same⟩, f, e⟩
    · rintro ⟨ρ', h', tm, df, g, f, e⟩
      exact ⟨ρ', h', tm, df, ⟨g.le, g.rel, ⟨g.frm.os, g.frm.tape, g.frm.output, g.frm.size, g.frm.block⟩, g.keeps, g.made, g.same⟩, f, e⟩
  funext e a w'
  cases e <;> first | rfl | exact hl _ _ _

theorem fork_ok (hE : EnvOk Y E) {L : Lv} {nt : Nat} (hng : L.ng = E.ng) {id : Nat} {ops : Array Oper} : CodeOk Y E L nt (.region id ops true) (cFork E L nt ops.toList) := by
  intro rc ro cro ρ h w a tm df kn ke kr n hrc hr hg hro hf hk
  obtain ⟨l⟩ := ops
  dsimp only at hk
  unfold cFork at hk
  split at hk
  · rename_i o₀ o₁ o₂ o₃
    cases hfk : forkOk o₀ o₁ o₂ o₃ with
    | false => rw [hfk] at hk; cases hk
    | true =>
      rw [hfk] at hk
      dsimp only at hk
      unfold bothK at hk
      split at hk
      · rename_i hk1
        have hr' : Rel Y E ρ h { w with drawn := w.drawn + 1 } := ⟨hr.obj, hr.inj, hr.fresh, hr.bound⟩
        have r1 := region_ops hE hng (nt := nt) (ops := #[o₀, o₁, o₂, o₃]) rc ro cro ρ h { w with drawn := w.drawn + 1 } a tm df kn ke kr n hrc hr' hg hro hf hk1
        have r2 := region_ops hE hng (nt := nt) (ops := #[o₀, o₂, o₁, o₃]) rc ro cro ρ h { w with drawn := w.drawn + 1 } a tm df kn ke kr n hrc hr' hg hro hf hk
        rw [postC_drew] at r1 r2
        refine wpIn_region_draw fun t => ?_
        have hm := hE.mixed
        simp only [Region.schedule, hm, Bool.true_or, if_true]
        rcases fork_orders hfk t with e | e
        · rw [e]; exact r1
        · rw [e]
          unfold forkOk at hfk
          simp only [Bool.and_eq_true, Option.isNone_iff_eq_none] at hfk
          obtain ⟨⟨⟨⟨⟨⟨⟨⟨⟨⟨⟨⟨⟨⟨⟨g0, g1⟩, g2⟩, g3⟩, _⟩, _⟩, _⟩, _⟩, _⟩, _⟩, _⟩, _⟩, _⟩, _⟩, _⟩, _⟩ := hfk
          have hw : ∀ (o : Oper), o.guard = none → ∀ y, Region.wanted o y = true := fun o ho y => by unfold Region.wanted; rw [ho]
          have q : List.range (#[o₀, o₂, o₁, o₃] : Array Oper).size = [0, 1, 2, 3] := rfl
          rw [q] at r2
          simpa [wpOpsIn, hw _ g0, hw _ g1, hw _ g2, hw _ g3] using r2
      · cases hk
  · cases hk

end
end Go.AE

namespace Go.AE

section
variable {F : Fence} {n : Nat} {P : Program} {w : World}

theorem run_mapV {m : Sem Value} : ((do pure (.value (← m)) : Sem Next).run P w) = (match m.run P w with | .ok v w' => .ok (.value v) w' | .halt x w' => .halt x w') := by
  have e : ((do pure (.value (← m)) : Sem Next).run P w) = (m.run P w).andThen fun v w' => .ok (.value v) w' := by simp [go_sem]
  rw [e]
  cases m.run P w <;> rfl

theorem run_mapU {m : Sem Unit} : ((do m; pure .skip : Sem Next).run P w) = (match m.run P w with | .ok _ w' => .ok .skip w' | .halt x w' => .halt x w') := by
  have e : ((do m; pure .skip : Sem Next).run P w) = (m.run P w).andThen fun _ w' => .ok .skip w' := by simp [go_sem]
  rw [e]
  cases m.run P w <;> rfl

/-- what a calm operation can come to -/
def Calm (r : Result Next) : Prop :=
  (∃ v w', r = .ok (.value v) w') ∨ (∃ w', r = .ok .skip w') ∨ (∃ x w', r = .halt x w')

theorem calm_mapV {m : Sem Value} : Calm ((do pure (.value (← m)) : Sem Next).run P w) := by
  rw [run_mapV]
  cases m.run P w with
  | ok v w' => exact .inl ⟨_, _, rfl⟩
  | halt x w' => exact .inr (.inr ⟨_, _, rfl⟩)

theorem calm_mapU {m : Sem Unit} : Calm ((do m; pure .skip : Sem Next).run P w) := by
  rw [run_mapU]
  cases m.run P w with
  | ok v w' => exact .inr (.inl ⟨_, rfl⟩)
  | halt x w' => exact .inr (.inr ⟨_, _, rfl⟩)

theorem calm_run {o : Oper} {ρ : Operand → Value} (h : calmO o = true) : (∃ c, o.op = .call c ∧ c.callee = .builtin .recover) ∨ Calm ((execOp ρ o).run P w) := by
  unfold calmO at h
  simp only [Bool.and_eq_true] at h
  have h2 := h.2
  cases ho : o.op <;> rw [ho] at h2 <;> first | cases h2 | skip
  case call c =>
    dsimp only at h2
    split at h2
    · rename_i hc; exact .inl ⟨c, rfl, hc⟩
    · cases h2
  all_goals
    refine .inr ?_
    unfold execOp
    rw [ho]
    first
      | exact .inl ⟨_, _, rfl⟩
      | exact calm_mapV
      | exact calm_mapU

theorem recover_run {o : Oper} {c : Go.Call} {ρ : Operand → Value} (ho : o.op = .call c) (hc : c.callee = .builtin .recover) : (execOp ρ o).run P w = .ok .recover w := by
  unfold execOp
  rw [ho]
  simp [resolve, hc, go_sem, invoke]

theorem unrecO_of {o : Oper} {c : Go.Call} (ho : o.op = .call c) (hc : c.callee = .builtin .recover) : unrecO o = { o with op := .move (.const .nilIface) } := by
  unfold unrecO
  rw [ho]
  dsimp only
  rw [hc]

theorem unrecO_calm {o : Oper} (h : ¬ ∃ c, o.op = .call c ∧ c.callee = .builtin .recover) : unrecO o = o := by
  unfold unrecO
  split
  · rename_i c ho
    split
    · rename_i hc
      exact absurd ⟨c, ho, hc⟩ h
    · rfl
  · rfl

/-- operations of a deferred call: as if 'recover' were nil -/
theorem ops_S {ops : Array Oper} (hF : ∀ f, F.fn f) (hro : F.round = none) (hc : ∀ o ∈ ops.toList, calmO o = true) {cs : List Frame} (hcs : recoverD cs = none) {Q : Exit → Act → World → Prop} {Q' : Exit → Act → List Frame → World → Prop} (hQ : ∀ e a w, Q e a w → Q' e a cs w) :
    ∀ (l : List Nat) (a : Act) (w : World), wpOpsIn F n P (ops.toList.map unrecO).toArray Q l a w → wpOpsSIn F n P ops Q' l a cs w
  | [], a, w, h => hQ _ _ _ h
  | i :: rest, a, w, h => by
    simp only [wpOpsIn, wpOpsSIn] at h ⊢
    have hi : (ops.toList.map unrecO).toArray[i]? = (ops[i]?).map unrecO := by simp
    rw [hi] at h
    cases ho : ops[i]? with
    | none =>
      rw [ho] at h
      exact ops_S hF hro hc hcs hQ rest a w h
    | some o =>
      rw [ho] at h
      dsimp only [Option.map] at h ⊢
      have hm : o ∈ ops.toList := by
        have := Array.mem_of_getElem? ho
        simpa using this
      have hco := hc o hm
      have hg : o.guard = none := by
        unfold calmO at hco
        simp only [Bool.and_eq_true, Option.isNone_iff_eq_none] at hco
        exact hco.1
      have hw : ∀ y, Region.wanted o y = true := fun y => by unfold Region.wanted; rw [hg]
      refine ⟨fun f _ => hF f, ?_⟩
      rw [if_pos (hw _)]
      by_cases hr : ∃ c, o.op = .call c ∧ c.callee = .builtin .recover
      · obtain ⟨c, h1, h2⟩ := hr
        rw [unrecO_of h1 h2] at h
        have hw' : ∀ y, Region.wanted { o with op := .move (.const .nilIface) } y = true := fun y => by unfold Region.wanted; rw [show ({ o with op := Op.move (.const .nilIface) } : Oper).guard = o.guard from rfl, hg]
        rw [if_pos (hw' _)] at h
        rw [recover_run h1 h2]
        dsimp only
        rw [hcs]
        dsimp only
        have h3 := h.2
        rw [hro, Oper.semAt_none] at h3
        have h4 : (execOp a.eval { o with op := .move (.const .nilIface) }).run P w = .ok (.value .nilIface) w := rfl
        rw [h4, Oper.uponIn_value] at h3
        exact ops_S hF hro hc hcs hQ rest _ w h3
      · rw [unrecO_calm hr, if_pos (hw _)] at h
        have h3 := h.2
        rw [hro, Oper.semAt_none] at h3
        rcases calm_run (P := P) (w := w) (ρ := a.eval) hco with h4 | h4
        · exact absurd h4 hr
        · rcases h4 with ⟨v, w', e⟩ | ⟨w', e⟩ | ⟨x, w', e⟩
          · rw [e] at h3 ⊢
            exact ops_S hF hro hc hcs hQ rest _ w' h3
          · rw [e] at h3 ⊢
            exact ops_S hF hro hc hcs hQ rest _ w' h3
          · rw [e] at h3 ⊢
            cases x with
            | panic v => exact hQ _ _ _ h3
            | _ => exact h3.elim

end
end Go.AE

namespace Go.AE

section
variable {Y : Sy} {E : Env} {ρ : Rho} {h : H} {w : World}

theorem fence_room (ro : Option Nat) (n : Nat) : (fence ro).room n := fun _ h => by cases h

theorem loop_ok {L : Lv} {nt : Nat} {c : Code} {K : KC} (hc : CodeOk Y E L nt c K) (lf : Nat) : CodeOk Y E L nt (.loop c) ⟨fun rc ro tm df h _ ke kr => loopK K rc ro ke kr lf tm df h⟩ := by
  intro rc ro cro ρ h w a tm df kn ke kr n hrc hr hg hro hf hk b k cs hbro hb hroom
  dsimp only at hk
  have key : ∀ (j : Nat) (ρ' : Rho) (h' : H) (w' : World) (a : Act) (tm : T AV) (df : List ADef), Goes Y E ρ h w ρ' h' w' → FR Y ρ' L nt tm df a → loopK K rc ro ke kr j tm df h' = true →
      ∃ e a' w'', PostC Y E ρ h w L nt kn ke kr e a' w'' ∧ ArrivesIn (Machine.fenced E.P (fence cro)) E.P (lone (b.atR a (.code c :: .inLoop c :: k)) cs w') b k cs e a' w'' := by
    intro j
    induction j with
    | zero => intro ρ' h' w' a tm df _ _ hk; cases hk
    | succ j ih =>
      intro ρ' h' w' a tm df hgo hf hk
      have hk' : K.run rc ro tm df h' (loopK K rc ro ke kr j) ke kr = true := hk
      have hw := hc rc ro cro ρ' h' w' a tm df _ ke kr n hrc hgo.rel (hg.mono hgo.le) (hro.mono hgo.le) hf hk'
      obtain ⟨e, a₁, w₁, hq, harr⟩ := hw b (.inLoop c :: k) cs hbro hb hroom
      cases e with
      | normal =>
        obtain ⟨ρ₁, h₁, tm₁, df₁, g₁, f₁, k₁⟩ := hq
        obtain ⟨e₂, a₂, w₂, hq₂, harr₂⟩ := ih ρ₁ h₁ w₁ a₁ tm₁ df₁ (Goes.trans hr hgo g₁) f₁ k₁
        exact ⟨e₂, a₂, w₂, hq₂, .of_steps (StepsIn.trans harr (.one (fenced_calm hb hroom rfl) stepR_inLoop)) harr₂⟩
      | exit id => exact ⟨.exit id, a₁, w₁, Leaves.trans hr hgo hq, .pass (x := .inLoop c) rfl (fun _ _ => .inl (by simp)) harr⟩
      | ret => exact ⟨.ret, a₁, w₁, Leaves.trans hr hgo hq, .pass (x := .inLoop c) rfl (fun _ _ => .inl (by simp)) harr⟩
      | goto l => exact hq.elim
      | panic ch => exact hq.elim
      | outgrown => exact hq.elim
  obtain ⟨e, a', w', hq, harr⟩ := key lf ρ h w a tm df (Goes.refl hr) hf hk
  exact ⟨e, a', w', hq, .of_steps (.one (fenced_calm hb hroom rfl) stepR_loop) harr⟩

theorem seq_ok {L : Lv} {nt : Nat} {x y : Code} {K M : KC} (hx : CodeOk Y E L nt x K) (hy : CodeOk Y E L nt y M) :
    CodeOk Y E L nt (.seq x y) ⟨fun rc ro tm df h kn ke kr => K.run rc ro tm df h (fun tm df h => M.run rc ro tm df h kn ke kr) ke kr⟩ := by
  intro rc ro cro ρ h w a tm df kn ke kr n hrc hr hg hro hf hk
  refine wpIn_seq (wpIn_mono (hx rc ro cro ρ h w a tm df _ ke kr n hrc hr hg hro hf hk) fun e a' w' hq => ?_)
  cases e with
  | normal =>
    obtain ⟨ρ₁, h₁, tm₁, df₁, g₁, f₁, k₁⟩ := hq
    exact wpIn_mono (hy rc ro cro ρ₁ h₁ w' a' tm₁ df₁ kn ke kr n hrc g₁.rel (hg.mono g₁.le) (hro.mono g₁.le) f₁ k₁) fun e a w h => PostC.trans hr g₁ h
  | exit id => exact hq
  | ret => exact hq
  | goto l => exact hq.elim
  | panic ch => exact hq.elim
  | outgrown => exact hq.elim

theorem condK_eq {v : AV} {x y : Bool} (h : condK v x y = true) : (v = .bool true ∧ x = true) ∨ (v = .bool false ∧ y = true) := by
  unfold condK at h
  cases hv : asB v with
  | none => rw [hv] at h; cases h
  | some b =>
    rw [hv] at h
    have := asB_eq hv
    cases b with
    | true => exact .inl ⟨this, h⟩
    | false => exact .inr ⟨this, h⟩

theorem cond_ok {L : Lv} (hng : L.ng = E.ng) {nt : Nat} {c : Operand} {x y : Code} {K M : KC} (hx : CodeOk Y E L nt x K) (hy : CodeOk Y E L nt y M) :
    CodeOk Y E L nt (.cond c x y) (match cX L [] c with
      | some X => ⟨fun rc ro tm df h kn ke kr => condK (X tm []) (K.run rc ro tm df h kn ke kr) (M.run rc ro tm df h kn ke kr)⟩
      | none => badC) := by
  intro rc ro cro ρ h w a tm df kn ke kr n hrc hr hg hro hf hk
  cases hX : cX L [] c with
  | none => rw [hX] at hk; cases hk
  | some X =>
    rw [hX] at hk
    have hv := cX_ok hX (ERel.start hf.tmps) hg hng
    rcases condK_eq hk with ⟨e, hk⟩ | ⟨e, hk⟩
    · rw [e] at hv
      exact wpIn_cond_true (Option.some.inj hv).symm (hx rc ro cro ρ h w a tm df kn ke kr n hrc hr hg hro hf hk)
    · rw [e] at hv
      exact wpIn_cond_false (Option.some.inj hv).symm (hy rc ro cro ρ h w a tm df kn ke kr n hrc hr hg hro hf hk)

theorem block_ok {L : Lv} {nt id : Nat} {c : Code} {K : KC} (hc : CodeOk Y E L nt c K) :
    CodeOk Y E L nt (.block id c) ⟨fun rc ro tm df h kn ke kr => K.run rc ro tm df h kn (fun i => match Nat.beq i id with | true => kn | false => ke i) kr⟩ := by
  intro rc ro cro ρ h w a tm df kn ke kr n hrc hr hg hro hf hk
  refine wpIn_block (wpIn_mono (hc rc ro cro ρ h w a tm df kn _ kr n hrc hr hg hro hf hk) fun e a' w' hq => ?_)
  cases e with
  | normal => exact hq
  | exit i =>
    simp only [Exit.inBlock]
    by_cases hi : i = id
    · subst hi
      rw [if_pos rfl]
      have e : PostC Y E ρ h w L nt kn (fun i_1 => match Nat.beq i_1 i with | true => kn | false => ke i_1) kr (.exit i) a' w' = Leaves Y E ρ h w L nt (match Nat.beq i i with | true => kn | false => ke i) a' w' := rfl
      rw [e, Nat.beq_refl] at hq
      exact hq
    · rw [if_neg hi]
      have e : PostC Y E ρ h w L nt kn (fun i_1 => match Nat.beq i_1 id with | true => kn | false => ke i_1) kr (.exit i) a' w' = Leaves Y E ρ h w L nt (match Nat.beq i id with | true => kn | false => ke i) a' w' := rfl
      have hb : Nat.beq i id = false := by
        cases hb : Nat.beq i id with
        | false => rfl
        | true => exact absurd (Nat.eq_of_beq_eq_true hb) hi
      rw [e, hb] at hq
      exact hq
  | ret => exact hq
  | goto l => exact hq.elim
  | panic ch => exact hq.elim
  | outgrown => exact hq.elim

theorem stepR_scope {P : Program} {b : Frame} {a : Act} {k : List Item} {cs : List Frame} {c : Code} : step P (lone (b.atR a (.code (.scope c) :: k)) cs w) = .next (lone (b.atR a (.code c :: .inScope c :: k)) cs w) :=
  step_lone_go (by simp [stepG, stepG.exec, Frame.atR])
theorem stepR_inScope {P : Program} {b : Frame} {a : Act} {k : List Item} {cs : List Frame} {c : Code} : step P (lone (b.atR a (.inScope c :: k)) cs w) = .next (lone (b.atR a k) cs w) :=
  step_lone_go (by simp [stepG, stepG.exec, Frame.atR])

/-- a scope through which the run goes without a goto -/
theorem scope_ok {L : Lv} {nt : Nat} {c : Code} {K : KC} (hc : CodeOk Y E L nt c K) : CodeOk Y E L nt (.scope c) K := by
  intro rc ro cro ρ h w a tm df kn ke kr n hrc hr hg hro hf hk b k cs hbro hb hroom
  obtain ⟨e, a₁, w₁, hq, harr⟩ := hc rc ro cro ρ h w a tm df kn ke kr n hrc hr hg hro hf hk b (.inScope c :: k) cs hbro hb hroom
  have h0 : (lone (b.atR a (.code (.scope c) :: k)) cs w).fenced E.P (fence cro) := fenced_calm hb hroom rfl
  cases e with
  | normal => exact ⟨.normal, a₁, w₁, hq, .head h0 stepR_scope (StepsIn.trans harr (.one (fenced_calm hb hroom rfl) stepR_inScope))⟩
  | exit id =>
    have hx : exitTo id (.inScope c :: k) = exitTo id k := by simp [exitTo]
    exact ⟨.exit id, a₁, w₁, hq, fun k' hk => .head h0 stepR_scope (harr.1 k' (by rw [hx]; exact hk)),
      fun hr' hk => let ⟨k₁, h1, h2⟩ := harr.2 hr' (by rw [hx]; exact hk); ⟨k₁, h1, .head h0 stepR_scope h2⟩⟩
  | ret => exact ⟨_, a₁, w₁, hq, .of_steps (.one h0 stepR_scope) harr⟩
  | goto l => exact hq.elim
  | panic ch => exact hq.elim
  | outgrown => exact hq.elim

/-! ### Ranges over functions -/
theorem run_newObj' {P : Program} (o : Obj) : (newObj o).run P w = .ok w.heap.size (w.alloc o) := rfl

theorem getLoop_run {P : Program} {l : Nat} {r : Loop} (hl : w.heap[l]? = some (.loop r)) : (Instr.getLoop l).run P w = .ok r w := by
  simp only [Instr.getLoop, Sem.run_bind, run_getObj' hl (fun _ _ _ h => by cases h), Result.andThen_ok]
  rfl

theorem endLoop_ok (hr : Rel Y E ρ h w) {l : Nat} {tm : T AV} {df : List ADef} {kn kr : KT} {ke : Nat → KT} (hk : endLoopK l tm df h kn ke kr = true) :
    ∃ L jump w' h', ρ l = some L ∧ (Instr.endLoop L.blk).run E.P w = .ok jump w' ∧ Goes Y E ρ h w ρ h' w' ∧
      ((jump = none ∧ kn tm df h' = true) ∨ (∃ id, jump = some (.exit id) ∧ ke id tm df h' = true) ∨ (jump = some .ret ∧ kr tm df h' = true)) := by
  unfold endLoopK at hk
  split at hk
  · rename_i s pend fn lt nt ps as bd d hb
    obtain ⟨L, ob, h1, h2, r, rfl, g1, g2, g3, g4, g5, g6, g7, g8⟩ := hr.obj l _ hb rfl
    have hgl := getLoop_run (P := E.P) h2
    have fin : s ≠ .busy → (optK (h.upd l (.loop .exhausted pend fn lt nt ps as bd d)) fun h' => jumpK pend kn ke kr tm df h') = true → ∃ L jump w' h', ρ l = some L ∧ (Instr.endLoop L.blk).run E.P w = .ok jump w' ∧ Goes Y E ρ h w ρ h' w' ∧
      ((jump = none ∧ kn tm df h' = true) ∨ (∃ id, jump = some (.exit id) ∧ ke id tm df h' = true) ∨ (jump = some .ret ∧ kr tm df h' = true)) := by
      intro hs hk
      obtain ⟨h', hu, hk⟩ := optK_eq.1 hk
      have hne : ¬ ((r.state == .busy) = true) := by
        rw [g1]
        cases s <;> first | exact absurd rfl hs | (intro h; cases h)
      refine ⟨L, r.pending, putW w L.blk (.loop { r with state := .exhausted }), h', h1, ?_, Goes.put hr hb rfl h1 hu ⟨_, rfl, rfl, g2, g3, g4, g5, g6, g7, g8⟩, ?_⟩
      · simp only [Instr.endLoop, Sem.run_bind, hgl, Result.andThen_ok, Sem.run_ite, hne, Bool.false_eq_true, if_false, run_setObj' h2 (fun _ _ _ h => by cases h), Sem.run_pure]
      · rw [g2]
        unfold jumpK at hk
        split at hk
        · exact .inl ⟨rfl, hk⟩
        · exact .inr (.inl ⟨_, rfl, hk⟩)
        · exact .inr (.inr ⟨rfl, hk⟩)
        · cases hk
    cases s with
    | busy => cases hk
    | ready => exact fin (by simp) hk
    | done => exact fin (by simp) hk
    | exhausted => exact fin (by simp) hk
  · cases hk

/-- the record is laid -/
theorem enterLoop_ok (hr : Rel Y E ρ h w) {L : Lv} {nt : Nat} {fn fn' : FuncId} {ps : Array Tmp} {assign body : Code} {ro cro : Option Nat} (hro : RoRel ρ ro cro) {tm : T AV} {df : List ADef} {a : Act} (hf : FR Y ρ L nt tm df a)
    (hL : ∀ fd, E.ft.get fn = some fd → L.live = liveOf fd) {k : Nat → List ADef → H → Bool} (hk : enterLoopK nt fn ps.toList assign body ro tm df h k = true) :
    ∃ l M mark w' ρ' h' df', (Instr.enterLoop fn' a.tmps ps assign body cro).run E.P w = .ok (M.blk, mark) w' ∧ ρ' l = some M ∧ Goes Y E ρ h w ρ' h' w' ∧ DefsRel Y ρ' df' (mark ++ a.defers) ∧ k l df' h' = true := by
  have hlay : ∀ (ρ₁ : Rho) (h₁ : H) (w₁ : World) (d : Nat) (D : Loc), ρ.le ρ₁ → Rel Y E ρ₁ h₁ w₁ → ρ₁ d = some D → ∀ b h₂, h₁.new (.loop .ready none fn tm nt ps.toList assign body d) = (b, h₂) →
      ∃ ρ₂, Goes Y E ρ₁ h₁ w₁ ρ₂ h₂ (w₁.alloc (.loop { state := .ready, pending := none, fn := fn', tmps := a.tmps, params := ps, assign, body, defers := D.blk })) ∧ ρ₂ b = some ⟨w₁.heap.size, 0, 0⟩ := by
    intro ρ₁ h₁ w₁ d D hle hr₁ hd b h₂ hn
    exact Goes.new_ptr hr₁ hn fun ρ' hle' => ⟨_, rfl, rfl, rfl, rfl, rfl, rfl, hf.size, ⟨D, hle' _ _ hd, rfl⟩, fun fd hfd => by rw [← hL fd hfd]; exact (hf.tmps.mono hle).mono hle'⟩
  unfold enterLoopK at hk
  cases ro with
  | some l =>
    cases cro with
    | none => exact hro.elim
    | some r =>
      obtain ⟨Lr, hLr, rfl⟩ := hro
      dsimp only at hk
      split at hk
      · rename_i s pend fn0 lt nt0 ps0 as0 bd0 d hb
        obtain ⟨L', ob, h1, h2, r, rfl, g1, g2, g3, g4, g5, g6, ⟨D, hD, g7⟩, g8⟩ := hr.obj l _ hb rfl
        rw [hLr] at h1
        cases h1
        cases hn : h.new (.loop .ready none fn tm nt ps.toList assign body d) with
        | mk b h' =>
          rw [hn] at hk
          obtain ⟨ρ', k1, k2⟩ := hlay ρ h w d D (Rho.le_refl _) hr hD b h' hn
          refine ⟨b, ⟨w.heap.size, 0, 0⟩, [], _, ρ', h', df, ?_, k2, k1, by simpa using hf.defs.mono k1.le, hk⟩
          simp only [Instr.enterLoop, Sem.run_bind, getLoop_run h2, Result.andThen_ok, Sem.run_pure, g7, run_newObj']
      · cases hk
  | none =>
    cases cro with
    | some r => exact hro.elim
    | none =>
      dsimp only at hk
      cases hn : h.new (.defs false) with
      | mk d h₁ =>
        rw [hn] at hk
        dsimp only at hk
        cases hn2 : h₁.new (.loop .ready none fn tm nt ps.toList assign body d) with
        | mk b h₂ =>
          rw [hn2] at hk
          dsimp only at hk
          obtain ⟨ρ₁, k1, k2⟩ := Goes.new_ptr (ob := .deferred (some [])) hr hn fun ρ' _ => rfl
          obtain ⟨ρ₂, k3, k4⟩ := hlay ρ₁ h₁ _ d ⟨w.heap.size, 0, 0⟩ k1.le k1.rel k2 b h₂ hn2
          refine ⟨b, ⟨(w.alloc (.deferred (some []))).heap.size, 0, 0⟩, [{ target := .collected w.heap.size, args := #[] }], _, ρ₂, h₂, .mark d :: df, ?_, k4, Goes.trans hr k1 k3, ⟨⟨⟨w.heap.size, 0, 0⟩, k3.le _ _ k2, rfl⟩, hf.defs.mono (Rho.le_trans k1.le k3.le)⟩, hk⟩
          simp only [Instr.enterLoop, Sem.run_bind, Result.andThen_ok, Sem.run_pure, run_newObj']

theorem range_ok' {L : Lv} (hng : L.ng = E.ng) {nt : Nat} {fn : FuncId} (hL : ∀ fd, E.ft.get fn = some fd → L.live = liveOf fd) {g : Operand} {ps : Array Tmp} {assign body : Code} : CodeOk Y E L nt (.rangeFunc g ps assign body) (rangeK L nt fn g ps.toList assign body) := by
  intro rc ro cro ρ h w a tm df kn ke kr n hrc hr hg hro hf hk
  unfold rangeK at hk
  cases hX : cX L [] g with
  | none => rw [hX] at hk; cases hk
  | some X =>
    rw [hX] at hk
    dsimp only at hk
    have hv := cX_ok hX (ERel.start hf.tmps) hg hng
    split at hk
    · rename_i f first cap hxe
      rw [hxe] at hv
      simp only [conc] at hv
      split at hv
      · rename_i fn' cfirst ccap e1 e2 e3
        cases e1
        have hge : a.eval g = .func (.func f) cfirst.toArray ccap.toArray := (Option.some.inj hv).symm
        refine wpIn_rangeFunc fun fn₀ _ => ?_
        obtain ⟨l, M, mark, w₁, ρ₁, h₁, df₁, c1, c2, c3, c4, c5⟩ := enterLoop_ok (fn' := fn₀) hr hro hf hL hk
        have hargs : concs Y ρ₁ (first ++ (.func (.yield l) [] [] :: cap)) = some (cfirst ++ (.func (.yield M.blk) #[] #[] :: ccap)) := by
          refine concs_append.2 ⟨_, _, concs_mono c3.le e2, concs_cons.2 ⟨_, _, ?_, concs_mono c3.le e3, rfl⟩, rfl⟩
          simp [conc, concs, concFn, c2]
        obtain ⟨d1, d2⟩ := hrc (.fn f) _ h₁ _ ρ₁ w₁ _ c3.rel (hg.mono c3.le) hargs c5
        refine ⟨M.blk, mark, w₁, { target := .fn (.func f) ccap.toArray, args := cfirst.toArray ++ #[.func (.yield M.blk) #[] #[]] }, w₁, f, (cfirst ++ (.func (.yield M.blk) #[] #[] :: ccap)).toArray, w₁, c1, ?_, fun _ _ => trivial, ?_, (fun h => by cases h), ?_⟩
        · have e0 : (#[Operand.const (.func (.yield M.blk) #[] #[])] : Array Operand).map a.eval = #[.func (.yield M.blk) #[] #[]] := by simp [Act.eval]
          simp only [resolve, hge, Deferred.ofValue, e0, Sem.run_pure]
        · have ea : cfirst.toArray ++ #[Value.func (.yield M.blk) #[] #[]] ++ ccap.toArray = (cfirst ++ (.func (.yield M.blk) #[] #[] :: ccap)).toArray := by simp
          simp only [invoke, ea]
          exact d1
        · refine CallsIn.mono (d2 (n - 1)) fun e w₂ he => ?_
          cases e with
          | panicked c => exact he.elim
          | outgrown => exact he.elim
          | returned v =>
            obtain ⟨ρ₂, h₂, av, p1, p2, p3⟩ := he
            obtain ⟨M', jump, w₃, h₃, q1, q2, q3, q4⟩ := endLoop_ok p1.rel p3
            have hM := p1.le _ _ c2
            rw [hM] at q1
            cases q1
            have hgo : Goes Y E ρ h w ρ₂ h₃ w₃ := Goes.trans hr c3 (Goes.trans c3.rel p1 q3)
            have hfr : FR Y ρ₂ L nt tm df₁ { a with defers := mark ++ a.defers } := ⟨hf.tmps.mono (Rho.le_trans c3.le p1.le), hf.size, c4.mono p1.le⟩
            refine ⟨jump, w₃, q2, ?_⟩
            rcases q4 with ⟨rfl, q4⟩ | ⟨id, rfl, q4⟩ | ⟨rfl, q4⟩
            · exact ⟨ρ₂, h₃, tm, df₁, hgo, hfr, q4⟩
            · exact wpIn_exit ⟨ρ₂, h₃, tm, df₁, hgo, hfr, q4⟩
            · exact wpIn_ret ⟨ρ₂, h₃, tm, df₁, hgo, hfr, q4⟩
      · cases hv
    · cases hk

theorem badC_ok {L : Lv} {nt : Nat} {c : Code} : CodeOk Y E L nt c badC := by
  intro rc ro cro ρ h w a tm df kn ke kr n _ _ _ _ _ hk
  cases hk

theorem cCode_ok (hE : EnvOk Y E) {lf : Nat} {L : Lv} (hng : L.ng = E.ng) {nt : Nat} {fn : FuncId} (hL : ∀ fd, E.ft.get fn = some fd → L.live = liveOf fd)
    (hdraw : ∀ id ops, CodeOk Y E L nt (.region id ops true) (cDraw E L nt ops.toList)) (c : Code) : CodeOk Y E L nt c (cCode E lf L nt fn c) := by
  induction c with
  | skip => intro rc ro cro ρ h w a tm df kn ke kr n hrc hr hg hro hf hk; exact wpIn_skip ⟨ρ, h, tm, df, Goes.refl hr, hf, hk⟩
  | region id ops draw =>
    cases draw with
    | false => exact region_ok hE hng
    | true => exact hdraw id ops
  | seq x y hx hy => exact seq_ok hx hy
  | cond c x y hx hy => exact cond_ok hng hx hy
  | block id c hc => exact block_ok hc
  | loop c hc => exact loop_ok hc lf
  | rangeFunc g ps assign body _ _ => exact range_ok' hng hL
  | exit id => intro rc ro cro ρ h w a tm df kn ke kr n hrc hr hg hro hf hk; exact wpIn_exit ⟨ρ, h, tm, df, Goes.refl hr, hf, hk⟩
  | scope _ hc => exact scope_ok hc
  | label l => intro rc ro cro ρ h w a tm df kn ke kr n hrc hr hg hro hf hk; exact wpIn_label ⟨ρ, h, tm, df, Goes.refl hr, hf, hk⟩
  | goto l => exact badC_ok
  | ret => intro rc ro cro ρ h w a tm df kn ke kr n hrc hr hg hro hf hk; exact wpIn_ret ⟨ρ, h, tm, df, Goes.refl hr, hf, hk⟩
  | refuse _ => exact badC_ok

end
end Go.AE

namespace Go.AE

section
variable {Y : Sy} {E : Env} {ρ : Rho} {h : H} {w : World}

theorem loadP_ptr {t : TypeId} {a v : AV} (hl : loadP E t a h = some v) : ∃ b o, a = .ptr b o := by
  unfold loadP at hl
  cases hd : E.und t with
  | none => rw [hd] at hl; cases hl
  | some d =>
    rw [hd] at hl
    dsimp only at hl
    cases hag : isAggD d with
    | false =>
      rw [hag] at hl
      dsimp only at hl
      cases hp : asP a with
      | none => rw [hp] at hl; cases hl
      | some p => exact ⟨_, _, asP_eq hp⟩
    | true =>
      rw [hag] at hl
      dsimp only at hl
      cases hs : E.size t with
      | none => rw [hs] at hl; cases hl
      | some n =>
        rw [hs] at hl
        dsimp only at hl
        cases hp : asP a with
        | none => rw [hp] at hl; cases hl
        | some p => exact ⟨_, _, asP_eq hp⟩

def resOf (tmps : Array Value) : ResultVar → Sem Value
  | .tmp t => pure (tmps.getD t undef)
  | .cell a t => do loadVar t (← asAddr (tmps.getD a undef))

theorem results_list (hE : EnvOk Y E) (hr : Rel Y E ρ h w) {L : Lv} {tm : T AV} {tmps : Array Value} (ht : TRel Y ρ L.live tm tmps) : ∀ {rs : List ResultVar} {l : List AV}, resultsA E L h tm rs = some l →
    ∃ cs, (rs.mapM (resOf tmps)).run E.P w = .ok cs w ∧ concs Y ρ l = some cs := by
  intro rs
  induction rs with
  | nil => intro l hl; cases hl; exact ⟨[], by simp, rfl⟩
  | cons r rs ih =>
    intro l hl
    cases r with
    | tmp t =>
      simp only [resultsA] at hl
      cases hb : Nat.testBit L.live t with
      | false => rw [hb] at hl; cases hl
      | true =>
        rw [hb] at hl
        dsimp only at hl
        rw [bnd_eq] at hl
        obtain ⟨l', h1, h2⟩ := hl
        cases h2
        obtain ⟨cs, k1, k2⟩ := ih h1
        refine ⟨tmps.getD t undef :: cs, ?_, concs_cons.2 ⟨_, _, ht t hb, k2, rfl⟩⟩
        rw [List.mapM_cons]
        simp only [resOf, Sem.run_bind, Sem.run_pure, Result.andThen_ok, k1]
    | cell a t =>
      simp only [resultsA] at hl
      cases hb : Nat.testBit L.live a with
      | false => rw [hb] at hl; cases hl
      | true =>
        rw [hb] at hl
        dsimp only at hl
        rw [bnd_eq] at hl
        obtain ⟨v, h0, hl⟩ := hl
        rw [bnd_eq] at hl
        obtain ⟨l', h1, h2⟩ := hl
        cases h2
        obtain ⟨cs, k1, k2⟩ := ih h1
        have hta := ht a hb
        obtain ⟨cv, e1, e2⟩ := load_ok hE hr h0 hta
        obtain ⟨b, o, hp⟩ := loadP_ptr h0
        rw [hp] at hta
        obtain ⟨L', hL', e3⟩ := conc_ptr hta
        rw [e3] at e1
        refine ⟨cv :: cs, ?_, concs_cons.2 ⟨_, _, e2, k2, rfl⟩⟩
        have e4 : (loadVar t (L'.addr o)).run E.P w = .ok cv w := by
          simpa [Instr.loadAt, Instr.sureAddr] using e1
        rw [List.mapM_cons]
        simp only [resOf, e3, asAddr, Sem.run_bind, Sem.run_pure, Result.andThen_ok, e4, k1]

theorem results_ok (hE : EnvOk Y E) (hr : Rel Y E ρ h w) {L : Lv} {tm : T AV} {tmps : Array Value} (ht : TRel Y ρ L.live tm tmps) {fn : Func} {l : List AV} (hl : resultsA E L h tm fn.results.toList = some l) :
    ∃ v, (results fn tmps).run E.P w = .ok v w ∧ conc Y ρ (oneOr l) = some v := by
  obtain ⟨cs, h1, h2⟩ := results_list hE hr ht hl
  have hm : (fn.results.mapM (resOf tmps)).run E.P w = .ok cs.toArray w := by
    rw [Array.mapM_eq_mapM_toList]
    simp only [Sem.run_map, h1]
    rfl
  have hres : results fn tmps = (do
      let vs ← fn.results.mapM (resOf tmps)
      pure (if h : vs.size = 1 then vs[0] else .tuple vs)) := by
    unfold results
    congr 1
  refine ⟨if h : cs.toArray.size = 1 then cs.toArray[0] else .tuple cs.toArray, ?_, ?_⟩
  · rw [hres]
    simp only [Sem.run_bind, hm, Result.andThen_ok, Sem.run_pure]
  · have hlen := concs_length h2
    unfold oneOr
    split
    · rename_i v
      obtain ⟨cv, cr, k1, k2, rfl⟩ := concs_cons.1 h2
      rw [concs_nil] at k2
      subst k2
      simpa using k1
    · rename_i hne
      have : cs.length ≠ 1 := by
        intro h1
        rw [hlen] at h1
        obtain ⟨v, e⟩ := List.length_eq_one_iff.1 h1
        exact hne v e
      have h3 : ¬ cs.toArray.size = 1 := by simpa using this
      rw [dif_neg h3]
      simp [conc, h2]

theorem leaveK_cons (rc : Rec) (d : ADef) (df : List ADef) (h : H) (k : H → Bool) : leaveK rc (d :: df) h k = (match d with
      | .mark b =>
        (match h.get b with
         | some (.defs false) => optK (h.upd b (.defs true)) fun h' => leaveK rc df h' k
         | _ => false)
      | .call fn cap args =>
        (match fn with
         | .func f => rc (.dfn f) (args ++ cap) h fun _ h' => leaveK rc df h' k
         | _ => false)) := rfl

theorem leave_ok {rc : Rec} (hrc : RecOk Y E rc) {fn : Func} {tmps : Array Value} {R : Ending → World → Prop} {n : Nat} {k : H → Bool} : ∀ (df : List ADef) (ds : List Deferred) (ρ : Rho) (h : H) (w : World), DefsRel Y ρ df ds → Rel Y E ρ h w → Glob E ρ → leaveK rc df h k = true →
    (∀ ρ' h' w', Goes Y E ρ h w ρ' h' w' → k h' = true → LeavesIn (fence none) n E.P fn tmps R [] .returning w') → LeavesInM (fence none) n E.P fn tmps R ds .returning w := by
  intro df
  induction df with
  | nil =>
    intro ds ρ h w hd hr hg hk hend
    cases ds with
    | nil => exact hend ρ h w (Goes.refl hr) hk
    | cons _ _ => exact hd.elim
  | cons d df ih =>
    intro ds ρ h w hd hr hg hk hend
    rw [leaveK_cons] at hk
    cases d with
    | call fn cap args =>
      cases ds with
      | nil => exact hd.elim
      | cons x ds =>
        obtain ⟨⟨fn', ccap, cargs, h1, h2, h3, h4, h5⟩, hd'⟩ := hd
        dsimp only at hk
        split at hk
        · rename_i f
          cases h1
          have hall : concs Y ρ (args ++ cap) = some (cargs ++ ccap) := concs_append.2 ⟨_, _, h3, h2, rfl⟩
          obtain ⟨e1, e2⟩ := hrc (.dfn f) _ h _ ρ w _ hr hg hall hk
          refine ⟨(fun h => by cases h), .inr ⟨(fun h => by cases h), .func f, ccap.toArray, f, (cargs ++ ccap).toArray, h4, ?_, fun _ _ => trivial, ?_⟩⟩
          · rw [h4, h5]
            have e : cargs.toArray ++ ccap.toArray = (cargs ++ ccap).toArray := by simp
            simp only [invoke, e, e1]
          · refine CallsDIn.mono (e2 (n - 1)) fun e u' w' he => ?_
            obtain ⟨rfl, he⟩ := he
            cases e with
            | panicked c => exact he.elim
            | outgrown => exact he.elim
            | returned v =>
              obtain ⟨ρ', h', av, hgo, _, hk'⟩ := he
              exact ih ds ρ' h' w' (hd'.mono hgo.le) hgo.rel (hg.mono hgo.le) hk' fun ρ'' h'' w'' hgo' hk'' => hend ρ'' h'' w'' (Goes.trans hr hgo hgo') hk''
        · cases hk
    | mark b =>
      cases ds with
      | nil => exact hd.elim
      | cons x ds =>
        obtain ⟨⟨L, hL, hx⟩, hd'⟩ := hd
        dsimp only at hk
        split at hk
        · rename_i hb
          obtain ⟨h', hu, hk⟩ := optK_eq.1 hk
          obtain ⟨L', ob, h1, h2, e⟩ := hr.obj b _ hb rfl
          rw [hL] at h1
          cases h1
          have e' : ob = .deferred (some []) := e
          subst e'
          have hgo := Goes.put (ob := .deferred none) hr hb rfl hL hu rfl
          refine ⟨(fun h => by cases h), .inl ⟨L.blk, _, hx, ?_, ih ds ρ h' _ hd' hgo.rel hg hk fun ρ'' h'' w'' hgo' hk' => hend ρ'' h'' w'' (Goes.trans hr hgo hgo') hk'⟩⟩
          simp only [Instr.takeDeferred, Sem.run_bind, run_getObj' h2 (fun _ _ _ h => by cases h), Result.andThen_ok, run_setObj' h2 (fun _ _ _ h => by cases h), Sem.run_pure]
        · cases hk

theorem enter_tmps {args : List AV} {cargs : List Value} {nt : Nat} (ha : concs Y ρ args = some cargs) (L : Nat) : TRel Y ρ L (ofListV args) (cargs.toArray ++ Array.replicate (nt - cargs.toArray.size) undef) := by
  intro t _
  have hlen := concs_length ha
  unfold tget
  rw [get_ofListV, Array.getD_eq_getD_getElem?]
  rcases Nat.lt_or_ge t args.length with h | h
  · rw [List.getElem?_eq_getElem h]
    obtain ⟨cv, h1, h2⟩ := concs_getElem ha t _ (List.getElem?_eq_getElem h)
    rw [Array.getElem?_append_left (by simp; omega)]
    simp only [List.getElem?_toArray, h2, Option.getD_some]
    exact h1
  · rw [List.getElem?_eq_none h]
    have : (cargs.toArray ++ Array.replicate (nt - cargs.toArray.size) undef)[t]?.getD undef = undef := by
      rw [Array.getElem?_append_right (by simp; omega), Array.getElem?_replicate]
      split <;> rfl
    rw [this]
    rfl

theorem fun_ok (hE : EnvOk Y E) {lf : Nat} (hdraw : ∀ (L : Lv) nt, L.ng = E.ng → ∀ id ops, CodeOk Y E L nt (.region id ops true) (cDraw E L nt ops.toList)) {rc : Rec} (hrc : RecOk Y E rc) (hr : Rel Y E ρ h w) (hg : Glob E ρ) {f : FuncId} {args : List AV} {cargs : List Value} {k : KV} (ha : concs Y ρ args = some cargs)
    (hk : (cFun E lf f).run rc args h k = true) :
    (callFunc f cargs.toArray).run E.P w = .ok (.enter f cargs.toArray) w ∧ ∀ n, CallsIn Fence.wide n E.P f cargs.toArray w (PostV Y E ρ h w k) := by
  unfold cFun at hk
  cases hf : E.ft.get f with
  | none => rw [hf] at hk; cases hk
  | some fn =>
    rw [hf] at hk
    dsimp only at hk
    cases hb : fn.body with
    | none => rw [hb] at hk; cases hk
    | some c =>
      rw [hb] at hk
      dsimp only at hk
      have hfP := hE.ft f fn hf
      have hnm := hE.named f fn hf (by rw [hb]; rfl)
      refine ⟨?_, fun n => ?_⟩
      · have hnm' : ¬ fn.name = "runtime.NumGoroutine" := by simpa using hnm
        simp [callFunc, hfP, hnm', hb]
      · cases hle : Nat.ble args.length fn.ntmps with
        | false => rw [hle] at hk; cases hk
        | true =>
          rw [hle] at hk
          dsimp only at hk
          have hle' := Nat.le_of_ble_eq_true hle
          have hlen := concs_length ha
          refine callsIn_of_wp_marks (F := fence none) hfP hb trivial ?_
          have hL : ∀ fd, E.ft.get f = some fd → (lvOf E fn).live = liveOf fd := fun fd hfd => by rw [hf] at hfd; cases hfd; rfl
          have hcode := cCode_ok (Y := Y) (lf := lf) (L := lvOf E fn) (nt := fn.ntmps) (fn := f) hE rfl hL (hdraw _ _ rfl) c
          refine wpIn_mono (hcode rc none none ρ h w _ (ofListV args) [] _ _ _ n hrc hr hg trivial ⟨enter_tmps ha _, by simp; omega, trivial⟩ hk) fun e a' w' hq => ?_
          have fin : Leaves Y E ρ h w (lvOf E fn) fn.ntmps (fun tm df h => leaveK rc df h fun h => optK (resultsA E (lvOf E fn) h tm fn.results.toList) fun l => k (oneOr l) h) a' w' →
              LeavesInM (fence none) n E.P fn a'.tmps (PostV Y E ρ h w k) a'.defers .returning w' := by
            rintro ⟨ρ', h', tm, df, hgo, hfr, hk'⟩
            refine leave_ok hrc df a'.defers ρ' h' w' hfr.defs hgo.rel (hg.mono hgo.le) hk' fun ρ'' h'' w'' hgo' hk'' => ?_
            obtain ⟨l, hl, hk''⟩ := optK_eq.1 hk''
            obtain ⟨v, e1, e2⟩ := results_ok hE hgo'.rel (hfr.tmps.mono hgo'.le) hl
            exact ⟨v, e1, ρ'', h'', oneOr l, Goes.trans hr hgo hgo', e2, hk''⟩
          cases e with
          | normal => exact fin hq
          | ret => exact fin hq
          | exit id =>
            obtain ⟨_, _, _, _, _, _, hf⟩ := hq
            cases hf
          | goto l => exact hq.elim
          | panic ch => exact hq.elim
          | outgrown => exact hq.elim

/-- a function that is called by a 'defer' -/
theorem funD_ok (hE : EnvOk Y E) {lf : Nat} (hdraw : ∀ (L : Lv) nt, L.ng = E.ng → ∀ id ops, CodeOk Y E L nt (.region id ops true) (cDraw E L nt ops.toList)) {rc : Rec} (hrc : RecOk Y E rc) (hr : Rel Y E ρ h w) (hg : Glob E ρ) {f : FuncId} {args : List AV} {cargs : List Value} {k : KV} (ha : concs Y ρ args = some cargs)
    (hk : (cFunD E lf f).run rc args h k = true) :
    (callFunc f cargs.toArray).run E.P w = .ok (.enter f cargs.toArray) w ∧ ∀ n, CallsDIn Fence.wide n E.P f cargs.toArray .returning w fun e u' w' => u' = .returning ∧ PostV Y E ρ h w k e w' := by
  unfold cFunD at hk
  cases hf : E.ft.get f with
  | none => rw [hf] at hk; cases hk
  | some fn =>
    rw [hf] at hk
    dsimp only at hk
    cases hb : fn.body with
    | none => rw [hb] at hk; cases hk
    | some c =>
      rw [hb] at hk
      dsimp only at hk
      have hfP := hE.ft f fn hf
      have hnm := hE.named f fn hf (by rw [hb]; rfl)
      refine ⟨?_, fun n => ?_⟩
      · have hnm' : ¬ fn.name = "runtime.NumGoroutine" := by simpa using hnm
        simp [callFunc, hfP, hnm', hb]
      · cases hle : Nat.ble args.length fn.ntmps with
        | false => rw [hle] at hk; cases hk
        | true =>
          rw [hle] at hk
          dsimp only at hk
          have hle' := Nat.le_of_ble_eq_true hle
          have hlen := concs_length ha
          have hL : ∀ fd, E.ft.get f = some fd → (lvOf E fn).live = liveOf fd := fun fd hfd => by rw [hf] at hfd; cases hfd; rfl
          have hcode := fun c => cCode_ok (Y := Y) (lf := lf) (L := lvOf E fn) (nt := fn.ntmps) (fn := f) hE rfl hL (hdraw _ _ rfl) c
          have fin : ∀ a' w', Leaves Y E ρ h w (lvOf E fn) fn.ntmps (fun tm df h => match df with | [] => optK (resultsA E (lvOf E fn) h tm fn.results.toList) fun l => k (oneOr l) h | _ => false) a' w' →
              a'.defers = [] ∧ ∃ v, (results fn a'.tmps).run E.P w' = .ok v w' ∧ PostV Y E ρ h w k (.returned v) w' := by
            rintro a' w' ⟨ρ', h', tm, df, hgo, hfr, hk'⟩
            cases df with
            | cons _ _ => cases hk'
            | nil =>
              have hd : a'.defers = [] := by
                have := hfr.defs
                cases hde : a'.defers with
                | nil => rfl
                | cons x y => rw [hde] at this; exact this.elim
              obtain ⟨l, hl, hk'⟩ := optK_eq.1 hk'
              obtain ⟨v, e1, e2⟩ := results_ok hE hgo.rel hfr.tmps hl
              exact ⟨hd, v, e1, ρ', h', oneOr l, hgo, e2, hk'⟩
          have plainly : (cCode E lf (lvOf E fn) fn.ntmps f c).run rc none (ofListV args) [] h
              (fun tm df h => match df with | [] => optK (resultsA E (lvOf E fn) h tm fn.results.toList) fun l => k (oneOr l) h | _ => false)
              (fun _ _ _ _ => false)
              (fun tm df h => match df with | [] => optK (resultsA E (lvOf E fn) h tm fn.results.toList) fun l => k (oneOr l) h | _ => false) = true →
              CallsDIn Fence.wide n E.P f cargs.toArray .returning w fun e u' w' => u' = .returning ∧ PostV Y E ρ h w k e w' := by
            intro hk
            refine callsDIn_of_wp (F := fence none) hfP hb trivial ?_
            refine wpIn_mono (hcode c rc none none ρ h w _ (ofListV args) [] _ _ _ n hrc hr hg trivial ⟨enter_tmps ha _, by simp; omega, trivial⟩ hk) fun e a' w' hq => ?_
            cases e with
            | normal => exact fin _ _ hq
            | ret => exact fin _ _ hq
            | exit id =>
              obtain ⟨_, _, _, _, _, _, hf⟩ := hq
              cases hf
            | goto l => exact hq.elim
            | panic ch => exact hq.elim
            | outgrown => exact hq.elim
          unfold cBodyD at hk
          split at hk
          · rename_i id ops b
            split at hk
            · rename_i hall
              dsimp only at hk
              refine callsDIn_of_wpSIn (F := fence none) hfP hb trivial fun c₀ cs hu => ?_
              have hcs : recoverD (c₀ :: cs) = none := by simp [recoverD, hu]
              have hc0 : ({ c₀ with mode := .returning } : Frame) = c₀ := by rw [← hu]
              have hops := region_ops (L := lvOf E fn) (nt := fn.ntmps) (ops := (ops.toList.map unrecO).toArray) hE rfl rc none none ρ h w { tmps := cargs.toArray ++ Array.replicate (fn.ntmps - cargs.toArray.size) undef, defers := [] } (ofListV args) [] _ _ _ n hrc hr hg trivial ⟨enter_tmps ha _, by simp; omega, trivial⟩ (by simpa using hk)
              have hsz : List.range (ops.toList.map unrecO).toArray.size = List.range ops.size := by simp
              rw [hsz] at hops
              refine wpSIn_seq (wpSIn_region (ops_S (fun _ => trivial) rfl (List.all_eq_true.1 hall) hcs (fun e a' w' hq => ?_) _ _ _ hops))
              cases e with
              | normal =>
                obtain ⟨ρ', h', tm, df, hgo, hfr, hk'⟩ := hq
                refine wpSIn_of_wpIn rfl (wpIn_mono (hcode b rc none none ρ' h' w' a' tm df _ _ _ n hrc hgo.rel (hg.mono hgo.le) trivial hfr hk') fun e a'' w'' hq2 => ?_)
                have hq3 := PostC.trans hr hgo hq2
                cases e with
                | normal =>
                  obtain ⟨h1, v, h2, h3⟩ := fin _ _ hq3
                  exact ⟨h1, .returning, by rw [hc0], v, h2, rfl, h3⟩
                | ret =>
                  obtain ⟨h1, v, h2, h3⟩ := fin _ _ hq3
                  exact ⟨h1, .returning, by rw [hc0], v, h2, rfl, h3⟩
                | exit id =>
                  obtain ⟨_, _, _, _, _, _, hf⟩ := hq3
                  cases hf
                | goto l => exact hq3.elim
                | panic ch => exact hq3.elim
                | outgrown => exact hq3.elim
              | ret =>
                obtain ⟨h1, v, h2, h3⟩ := fin _ _ hq
                exact ⟨h1, .returning, by rw [hc0], v, h2, rfl, h3⟩
              | exit id =>
                obtain ⟨_, _, _, _, _, _, hf⟩ := hq
                cases hf
              | goto l => exact hq.elim
              | panic ch => exact hq.elim
              | outgrown => exact hq.elim
            · exact plainly hk
          · exact plainly hk

/-! ### Rounds -/
theorem setParams_ok {L nt : Nat} : ∀ (ps : List Tmp) (args : List AV) (cargs : List Value) (tm tm' : T AV) (tmps : Array Value), concs Y ρ args = some cargs → TRel Y ρ L tm tmps → tmps.size = nt → setParams nt ps args tm = some tm' →
    ps.length = cargs.length ∧ TRel Y ρ L tm' ((ps.zip cargs).foldl (fun tmps p => tmps.setIfInBounds p.1 p.2) tmps) ∧ ((ps.zip cargs).foldl (fun (tmps : Array Value) p => tmps.setIfInBounds p.1 p.2) tmps).size = nt := by
  intro ps
  induction ps with
  | nil =>
    intro args cargs tm tm' tmps ha ht hs hp
    cases args with
    | nil => cases hp; rw [concs_nil] at ha; subst ha; exact ⟨rfl, ht, hs⟩
    | cons _ _ => cases hp
  | cons t ps ih =>
    intro args cargs tm tm' tmps ha ht hs hp
    cases args with
    | nil => cases hp
    | cons v args =>
      obtain ⟨cv, cr, h1, h2, rfl⟩ := concs_cons.1 ha
      simp only [setParams] at hp
      cases hlt : Nat.blt t nt with
      | false => rw [hlt] at hp; cases hp
      | true =>
        rw [hlt] at hp
        dsimp only at hp
        have hlt' := (blt_iff _ _).1 hlt
        obtain ⟨k1, k2, k3⟩ := ih args cr (putV tm t v) tm' (tmps.setIfInBounds t cv) h2 (fun u hu => by
          have h0 := ht u hu
          unfold tget at h0 ⊢
          rw [get_putV, Array.getD_eq_getD_getElem?, Array.getElem?_setIfInBounds]
          rw [Array.getD_eq_getD_getElem?] at h0
          by_cases hut : u = t
          · subst hut
            rw [if_pos rfl, if_pos rfl, if_pos (by omega)]
            exact h1
          · rw [if_neg hut, if_neg (fun e => hut e.symm)]
            exact h0) (by simpa using hs) hp
        refine ⟨by simp [k1], ?_, ?_⟩
        · simpa using k2
        · simpa using k3

theorem endRound_ok (hr : Rel Y E ρ h w) {l : Nat} {L : Loc} (hL : ρ l = some L) {jump : Option Code} {df : List ADef} {k : KV} (hk : endRoundK l jump df h k = true) :
    ∃ v w' h' av, (Instr.endRound L.blk jump).run E.P w = .ok v w' ∧ Goes Y E ρ h w ρ h' w' ∧ conc Y ρ av = some v ∧ k av h' = true := by
  unfold endRoundK at hk
  split at hk
  · rename_i s pend fn lt nt ps as bd d hb
    obtain ⟨L', ob, h1, h2, r, rfl, g1, g2, g3, g4, g5, g6, g7, g8⟩ := hr.obj l _ hb rfl
    rw [hL] at h1
    cases h1
    have hgl := getLoop_run (P := E.P) h2
    split at hk
    · obtain ⟨h', hu, hk⟩ := optK_eq.1 hk
      refine ⟨.bool true, _, h', .bool true, ?_, Goes.put (ob := .loop { r with state := .ready, pending := none }) hr hb rfl hL hu ⟨_, rfl, rfl, rfl, g3, g4, g5, g6, g7, g8⟩, rfl, hk⟩
      simp only [Instr.endRound, Sem.run_bind, hgl, Result.andThen_ok, run_setObj' h2 (fun _ _ _ h => by cases h), Sem.run_pure]
      rfl
    · rename_i c
      obtain ⟨h', hu, hk⟩ := optK_eq.1 hk
      refine ⟨.bool false, _, h', .bool false, ?_, Goes.put (ob := .loop { r with state := .done, pending := some c }) hr hb rfl hL hu ⟨_, rfl, rfl, rfl, g3, g4, g5, g6, g7, g8⟩, rfl, hk⟩
      simp only [Instr.endRound, Sem.run_bind, hgl, Result.andThen_ok, run_setObj' h2 (fun _ _ _ h => by cases h), Sem.run_pure]
      rfl
  · cases hk

theorem yield_ok (hE : EnvOk Y E) {lf : Nat} (hdraw : ∀ (L : Lv) nt, L.ng = E.ng → ∀ id ops, CodeOk Y E L nt (.region id ops true) (cDraw E L nt ops.toList)) {rc : Rec} (hrc : RecOk Y E rc) (hr : Rel Y E ρ h w) (hg : Glob E ρ) {l : Nat} {args : List AV} {cargs : List Value} {k : KV} (ha : concs Y ρ args = some cargs)
    (hk : yieldK E lf rc l args h k = true) :
    ∃ L f tmps as b, ρ l = some L ∧ (Instr.yield L.blk cargs.toArray).run E.P w = .ok (.round L.blk f tmps as b) w ∧ ∀ n, RoundIn Fence.wide n E.P L.blk f tmps as b w (PostV Y E ρ h w k) := by
  unfold yieldK at hk
  split at hk
  · rename_i s pend fn lt nt ps as bd d hb
    obtain ⟨L, ob, h1, h2, r, rfl, g1, g2, g3, g4, g5, g6, g7, g8⟩ := hr.obj l _ hb rfl
    obtain ⟨fd, hfd, hk⟩ := optK_eq.1 hk
    obtain ⟨tm, htm, hk⟩ := optK_eq.1 hk
    have hgl := getLoop_run (P := E.P) h2
    obtain ⟨p1, p2, p3⟩ := setParams_ok ps args cargs lt tm r.tmps ha (g8 fd hfd) g6 htm
    have hz : (r.params.zip cargs.toArray).foldl (fun tmps (p : Tmp × Value) => tmps.setIfInBounds p.1 p.2) r.tmps = (ps.zip cargs).foldl (fun tmps p => tmps.setIfInBounds p.1 p.2) r.tmps := by
      rw [← Array.foldl_toList, Array.toList_zip, g3]
    refine ⟨L, r.fn, (ps.zip cargs).foldl (fun tmps p => tmps.setIfInBounds p.1 p.2) r.tmps, as, bd, h1, ?_, fun n => ?_⟩
    · have hsz : ¬ (cargs.toArray.size ≠ r.params.size) := by
        rw [← Array.length_toList (xs := r.params), g3, p1]
        simp
      simp only [Instr.yield, Sem.run_bind, hgl, Result.andThen_ok, Sem.run_ite, hsz, if_false, Sem.run_pure, g4, g5]
      rw [← hz]
    · refine roundIn_of_wpIn (F := Fence.wide) trivial ?_
      have hL : ∀ fd', E.ft.get fn = some fd' → (lvOf E fd).live = liveOf fd' := fun fd' hfd' => by rw [hfd] at hfd'; cases hfd'; rfl
      have hcode : ∀ c, CodeOk Y E (lvOf E fd) nt c (cCode E lf (lvOf E fd) nt fn c) := fun c => cCode_ok (lf := lf) (nt := nt) (fn := fn) hE rfl hL (hdraw _ _ rfl) c
      have hwp := hcode as rc (some l) (some L.blk) ρ h w { tmps := (ps.zip cargs).foldl (fun tmps p => tmps.setIfInBounds p.1 p.2) r.tmps, defers := [] } tm [] _ _ _ n hrc hr hg ⟨L, h1, rfl⟩ ⟨p2, p3, trivial⟩ hk
      refine wpIn_mono hwp fun e a' w' hq => ?_
      cases e with
      | normal =>
        obtain ⟨ρ₁, h₁, tm₁, df₁, hgo, hfr, hk₁⟩ := hq
        dsimp only at hk₁
        split at hk₁
        · rename_i pend' fn' lt' nt' ps' as' bd' d' hb'
          obtain ⟨h₂, hu, hk₁⟩ := optK_eq.1 hk₁
          obtain ⟨L', ob, q1, q2, r', rfl, q3, q4, q5, q6, q7, q8, q9, q10⟩ := hgo.rel.obj l _ hb' rfl
          have hL1 := hgo.le _ _ h1
          rw [hL1] at q1
          cases q1
          have hgl' := getLoop_run (P := E.P) q2
          have hgo2 := Goes.put (ob := .loop { r' with state := .busy }) hgo.rel hb' rfl hL1 hu ⟨_, rfl, rfl, q4, q5, q6, q7, q8, q9, q10⟩
          refine ⟨putW w' L.blk (.loop { r' with state := .busy }), ?_, ?_⟩
          · simp only [Instr.beginRound, Sem.run_bind, hgl', Result.andThen_ok, run_setObj' q2 (fun _ _ _ h => by cases h), q3, Sem.run_pure]
          · have hall := Goes.trans hr hgo hgo2
            have hwp2 := hcode bd rc (some l) (some L.blk) ρ₁ h₂ (putW w' L.blk (.loop { r' with state := .busy })) a' tm₁ [] _ _ _ n hrc hgo2.rel (hg.mono hgo.le) ⟨L, hL1, rfl⟩ hfr hk₁
            refine wpIn_mono hwp2 fun e a'' w'' hq => ?_
            have fin : ∀ (jump : Option Code) (df : List ADef) (h₃ : H) (ρ₃ : Rho), Goes Y E ρ₁ h₂ (putW w' L.blk (.loop { r' with state := .busy })) ρ₃ h₃ w'' → endRoundK l jump df h₃ k = true → ∃ v w₄, (Instr.endRound L.blk jump).run E.P w'' = .ok v w₄ ∧ PostV Y E ρ h w k (.returned v) w₄ := by
              intro jump df h₃ ρ₃ hgo3 hk3
              obtain ⟨v, w₄, h₄, av, c1, c2, c3, c4⟩ := endRound_ok hgo3.rel (hgo3.le _ _ hL1) hk3
              exact ⟨v, w₄, c1, ρ₃, h₄, av, Goes.trans hr hall (Goes.trans hgo2.rel hgo3 c2), c3, c4⟩
            cases e with
            | normal => obtain ⟨ρ₃, h₃, _, df, hgo3, _, hk3⟩ := hq; exact fin none df h₃ ρ₃ hgo3 hk3
            | ret => obtain ⟨ρ₃, h₃, _, df, hgo3, _, hk3⟩ := hq; exact fin (some .ret) df h₃ ρ₃ hgo3 hk3
            | exit id => obtain ⟨ρ₃, h₃, _, df, hgo3, _, hk3⟩ := hq; exact fin (some (.exit id)) df h₃ ρ₃ hgo3 hk3
            | goto l => exact hq.elim
            | panic ch => exact hq.elim
            | outgrown => exact hq.elim
        · cases hk₁
      | ret => obtain ⟨_, _, _, _, _, _, hf⟩ := hq; cases hf
      | exit id => obtain ⟨_, _, _, _, _, _, hf⟩ := hq; cases hf
      | goto l => exact hq.elim
      | panic ch => exact hq.elim
      | outgrown => exact hq.elim
  · cases hk

theorem evGo_ok_of (hE : EnvOk Y E) (hdraw : ∀ (L : Lv) nt, L.ng = E.ng → ∀ id ops, CodeOk Y E L nt (.region id ops true) (cDraw E L nt ops.toList)) (lf : Nat) : ∀ n, RecOk Y E (evGo E lf n)
  | 0 => fun _ _ _ _ _ _ _ _ _ _ hk => by cases hk
  | n + 1 => fun tgt args h k ρ w cargs hr hg ha hk => by
    have ih := evGo_ok_of hE hdraw lf n
    cases tgt with
    | fn f => exact fun_ok hE hdraw ih hr hg ha hk
    | yield l => exact yield_ok hE hdraw ih hr hg ha hk
    | dfn f => exact funD_ok hE hdraw ih hr hg ha hk

end
end Go.AE

namespace Go.AE

/-! ### The checks -/
section
variable {E : Env} {bs : T Nat} {ops : List Oper}

theorem drawOkFrom_at : ∀ {l : List Oper} {i : Nat}, drawOkFrom bs ops l i = true → ∀ j o, l[j]? = some o → edgesOk (i + j) o.after.toList = true ∧ pairsOk bs (i + j) (looks ops o) o.dst ops 0 = true
  | [], _, _, j, o, hj => by simp at hj
  | x :: r, i, h, j, o, hj => by
    simp only [drawOkFrom, Bool.and_eq_true] at h
    cases j with
    | zero => simp at hj; subst hj; exact ⟨h.1.1, h.1.2⟩
    | succ j =>
      have := drawOkFrom_at (l := r) h.2 j o (by simpa using hj)
      rw [show i + (j + 1) = i + 1 + j by omega]
      exact this

theorem pairsOk_at {i : Nat} {ts : List Nat} {dst : Option Tmp} : ∀ {l : List Oper} {k : Nat}, pairsOk bs i ts dst l k = true → ∀ j o, l[j]? = some o → pairOk bs i ts dst (k + j) o = true
  | [], _, _, j, o, hj => by simp at hj
  | x :: r, k, h, j, o, hj => by
    simp only [pairsOk, Bool.and_eq_true] at h
    cases j with
    | zero => simp at hj; subst hj; exact h.1
    | succ j =>
      have := pairsOk_at (l := r) h.2 j o (by simpa using hj)
      rw [show k + (j + 1) = k + 1 + j by omega]
      exact this

theorem pairOk_spec {i j : Nat} {ts : List Nat} {dst : Option Tmp} {o : Oper} {d : Tmp} (h : pairOk bs i ts dst j o = true) (hd : o.dst = some d) (hij : i ≠ j) (ht : d ∈ ts ∨ dst = some d) : bef bs i j = true ∨ bef bs j i = true := by
  unfold pairOk at h
  rw [hd] at h
  dsimp only at h
  have hb : Nat.beq i j = false := by
    cases hb : Nat.beq i j with
    | false => rfl
    | true => exact absurd (Nat.eq_of_beq_eq_true hb) hij
  rw [hb] at h
  dsimp only at h
  rcases ht with ht | ht
  · rw [(memN_iff _ _).2 ht] at h
    simpa using h
  · subst ht
    have hb' : Nat.beq d d = true := Nat.beq_refl d
    simp only [hb', Bool.or_true] at h
    simpa using h

theorem edgesOk_at {i : Nat} : ∀ {l : List Edge}, edgesOk i l = true → ∀ e ∈ l, bindsA e = true → e.on < i
  | [], _, e, he => by cases he
  | x :: r, h, e, he => by
    simp only [edgesOk, Bool.and_eq_true] at h
    intro hb
    rcases List.mem_cons.1 he with rfl | he
    · rw [hb] at h; exact (blt_iff _ _).1 h.1
    · exact edgesOk_at h.2 e he hb

theorem ordOk_split : ∀ {pre post : List Nat} {i : Nat}, ordOk E bs ops (pre ++ i :: post) = true → i ∉ post ∧ (∀ j ∈ post, bef bs i j = false) ∧ (bigAt E ops i = true → ∀ j ∈ post, bef bs j i = true)
  | [], post, i, h => by
    simp only [List.nil_append, ordOk, Bool.and_eq_true, Bool.or_eq_true, Bool.not_eq_true', List.all_eq_true] at h
    obtain ⟨⟨⟨h1, h2⟩, h3⟩, _⟩ := h
    refine ⟨(fun hm => by rw [(memN_iff _ _).2 hm] at h1; cases h1), (fun j hj => by simpa using h2 j hj), fun hb j hj => ?_⟩
    rcases h3 with h3 | h3
    · rw [hb] at h3; cases h3
    · exact h3 j hj
  | x :: pre, post, i, h => by
    simp only [List.cons_append, ordOk, Bool.and_eq_true] at h
    exact ordOk_split h.2

theorem coverOk_at {ord : List Nat} : ∀ {n : Nat}, coverOk ord n = true → ∀ i, i < n → i ∈ ord
  | 0, _, i, hi => absurd hi (Nat.not_lt_zero _)
  | n + 1, h, i, hi => by
    simp only [coverOk, Bool.and_eq_true] at h
    rcases Nat.lt_succ_iff_lt_or_eq.1 hi with h' | h'
    · exact coverOk_at h.2 i h'
    · subst h'; exact (memN_iff _ _).1 h.1

theorem closeAt_spec {i j : Nat} : ∀ {l : List Edge}, closeAt bs i j l = true → ∃ e ∈ l, bindsA e = true ∧ (e.on = j ∨ bef bs e.on j = true)
  | [], h => by cases h
  | e :: r, h => by
    simp only [closeAt, Bool.or_eq_true, Bool.and_eq_true] at h
    rcases h with ⟨h1, h2⟩ | h
    · refine ⟨e, by simp, h1, ?_⟩
      rcases h2 with h2 | h2
      · exact .inl (Nat.eq_of_beq_eq_true h2)
      · exact .inr h2
    · obtain ⟨e', h1, h2⟩ := closeAt_spec h
      exact ⟨e', by simp [h1], h2⟩

theorem closeRow_at {i : Nat} {es : List Edge} : ∀ {n : Nat}, closeRow bs i es n = true → ∀ j, j < n → bef bs i j = true → closeAt bs i j es = true
  | 0, _, j, hj => absurd hj (Nat.not_lt_zero _)
  | n + 1, h, j, hj => by
    simp only [closeRow, Bool.and_eq_true, Bool.or_eq_true, Bool.not_eq_true'] at h
    intro hb
    rcases Nat.lt_succ_iff_lt_or_eq.1 hj with h' | h'
    · exact closeRow_at h.2 j h' hb
    · subst h'
      rcases h.1 with h1 | h1
      · rw [hb] at h1; cases h1
      · exact h1

theorem closeOk_at {n : Nat} : ∀ {l : List Oper} {k : Nat}, closeOk bs n l k = true → ∀ i o, l[i]? = some o → ∀ j, j < n → bef bs (k + i) j = true → ∃ e ∈ o.after.toList, bindsA e = true ∧ (e.on = j ∨ bef bs e.on j = true)
  | [], _, _, i, o, hi => by simp at hi
  | x :: r, k, h, i, o, hi => by
    simp only [closeOk, Bool.and_eq_true] at h
    intro j hj hb
    cases i with
    | zero => simp at hi; subst hi; exact closeAt_spec (closeRow_at h.1 j hj hb)
    | succ i => exact closeOk_at (l := r) h.2 i o (by simpa using hi) j hj (by rw [show k + 1 + i = k + (i + 1) by omega]; exact hb)

theorem binds_any (e : Edge) : Region.binds .any e = bindsA e := by
  unfold Region.binds bindsA
  cases e.ground <;> rfl
end

/-! ### Records -/
/-- an operation that has been evaluated: its value -/
structure Rc where
  i : Nat
  o : Oper
  v : AV
  /-- the block that it makes -/
  blk : Option Nat

def dsR (l : List Rc) : List (Option Tmp) := l.map fun r => r.o.dst
def envR (l : List Rc) : List AV := l.map fun r => r.v

/-- the last value written into t -/
def look (t : Nat) : List Rc → Option AV
  | [] => none
  | r :: l => if r.o.dst = some t then some r.v else look t l

theorem look_pos (t : Nat) : ∀ (l : List Rc), match posOf t (dsR l) 0 with | some i => look t l = some (nthA i (envR l)) | none => look t l = none
  | [] => rfl
  | r :: l => by
    have ih := look_pos t l
    have hs := posOf_succ t (dsR l) 0
    cases hd : r.o.dst with
    | none =>
      have e : posOf t (dsR (r :: l)) 0 = posOf t (dsR l) (0 + 1) := by simp [dsR, hd, posOf]
      have e2 : look t (r :: l) = look t l := by simp [look, hd]
      rw [e, hs, e2]
      cases hp : posOf t (dsR l) 0 with
      | none => rw [hp] at ih; exact ih
      | some j => rw [hp] at ih; exact ih
    | some d =>
      by_cases hdt : d = t
      · subst hdt
        have e : posOf d (dsR (r :: l)) 0 = some 0 := by simp [dsR, hd, posOf, Nat.beq_refl]
        rw [e]
        simp only [look, hd, if_true]
        rfl
      · have hb : Nat.beq d t = false := by
          cases hb : Nat.beq d t with
          | false => rfl
          | true => exact absurd (Nat.eq_of_beq_eq_true hb) hdt
        have e : posOf t (dsR (r :: l)) 0 = posOf t (dsR l) (0 + 1) := by simp [dsR, hd, posOf, hb]
        have e2 : look t (r :: l) = look t l := by simp [look, hd, hdt]
        rw [e, hs, e2]
        cases hp : posOf t (dsR l) 0 with
        | none => rw [hp] at ih; exact ih
        | some j => rw [hp] at ih; exact ih

section
variable {Y : Sy} {E : Env} {ρ : Rho} {h : H} {w : World}

/-- the temporaries, by records -/
def LRel (Y : Sy) (ρ : Rho) (L : Lv) (l : List Rc) (tm : T AV) (tmps : Array Value) : Prop :=
  ∀ t, (∀ v, look t l = some v → conc Y ρ v = some (tmps.getD t undef)) ∧ (look t l = none → Nat.testBit L.live t = true → conc Y ρ (tget tm t) = some (tmps.getD t undef))

theorem LRel.mono {ρ' : Rho} {L : Lv} {l : List Rc} {tm : T AV} {tmps : Array Value} (h : LRel Y ρ L l tm tmps) (hle : ρ.le ρ') : LRel Y ρ' L l tm tmps :=
  fun t => ⟨fun v hv => conc_mono hle ((h t).1 v hv), fun hn hl => conc_mono hle ((h t).2 hn hl)⟩

theorem LRel.erel {L : Lv} {l : List Rc} {tm : T AV} {tmps : Array Value} (h : LRel Y ρ L l tm tmps) : ERel Y ρ L (dsR l) (envR l) tm tmps := by
  refine ⟨fun t i hi => ?_, fun t hn hl => ?_⟩
  · have := look_pos t l
    rw [hi] at this
    exact (h t).1 _ this
  · have := look_pos t l
    rw [hn] at this
    exact (h t).2 this hl

/-- an operand, looked up in other records that agree on it -/
theorem cX_look {L : Lv} {pre evS : List Rc} {tm : T AV} {a : Act} {x : Operand} {X : X} (hx : cX L (dsR pre) x = some X) (he : LRel Y ρ L evS tm a.tmps) (hag : ∀ t, x = .tmp t → look t evS = look t pre) (hg : Glob E ρ) (hng : L.ng = E.ng) :
    conc Y ρ (X tm (envR pre)) = some (a.eval x) := by
  cases x with
  | tmp t =>
    have hl := hag t rfl
    have hp := look_pos t pre
    unfold cX at hx
    dsimp only at hx
    cases hpos : posOf t (dsR pre) 0 with
    | some i =>
      rw [hpos] at hx hp
      cases hx
      rw [hp] at hl
      exact (he t).1 _ hl
    | none =>
      rw [hpos] at hx hp
      dsimp only at hx
      cases hb : Nat.testBit L.live t with
      | false => rw [hb] at hx; cases hx
      | true =>
        rw [hb] at hx
        cases hx
        show conc Y ρ (tgetP (pathOf t) tm) = _
        rw [tgetP_of]
        rw [hp] at hl
        exact (he t).2 hl hb
  | const v =>
    unfold cX at hx
    dsimp only at hx
    cases hc : ofConst v with
    | none => rw [hc] at hx; cases hx
    | some ac => rw [hc] at hx; cases hx; exact ofConst_ok hc
  | global g =>
    unfold cX at hx
    dsimp only at hx
    cases hlt : Nat.blt g L.ng with
    | false => rw [hlt] at hx; cases hx
    | true =>
      rw [hlt] at hx
      cases hx
      obtain ⟨c, hc⟩ := hg g (by rw [← hng]; exact (blt_iff _ _).1 hlt)
      simp [conc, hc, Loc.addr, Act.eval]
  | func f => cases hx; rfl

theorem cXs_look {L : Lv} {pre evS : List Rc} {tm : T AV} {a : Act} (he : LRel Y ρ L evS tm a.tmps) (hg : Glob E ρ) (hng : L.ng = E.ng) : ∀ {xs : List Operand} {X : XS}, cXs L (dsR pre) xs = some X → (∀ t, Operand.tmp t ∈ xs → look t evS = look t pre) →
    concs Y ρ (X tm (envR pre)) = some (xs.map a.eval) := by
  intro xs
  induction xs with
  | nil => intro X hx _; cases hx; rfl
  | cons x xs ih =>
    intro X hx hag
    rw [cXs_cons] at hx
    cases h1 : cX L (dsR pre) x with
    | none => rw [h1] at hx; cases hx
    | some f =>
      rw [h1] at hx
      cases h2 : cXs L (dsR pre) xs with
      | none => rw [h2] at hx; cases hx
      | some g =>
        rw [h2] at hx
        cases hx
        exact concs_cons.2 ⟨_, _, cX_look h1 he (fun t ht => hag t (by simp [ht])) hg hng, ih h2 (fun t ht => hag t (by simp [ht])), rfl⟩

end
end Go.AE

namespace Go.AE

def kxs : K → List Operand
  | .p1 x _ => [x]
  | .p2 x y _ => [x, y]
  | .pn xs _ => xs
  | .r1 x _ => [x]
  | .r2 x y _ => [x, y]
  | .rn xs _ _ => xs
  | .a1 x _ => [x]
  | .an xs _ => xs
  | .b2 x y _ => [x, y]
  | .bn xs _ => xs
  | .df xs _ => xs
  | .bad => []

theorem snds_map (ps : List (Nat × Operand)) : snds ps = ps.map (·.2) := by
  induction ps with
  | nil => rfl
  | cons p r ih => obtain ⟨i, x⟩ := p; simp [snds, ih]

theorem kxs_call {E : Env} {c : Call} : ∀ x ∈ kxs (cCall E c), x ∈ c.operands.toList := by
  intro x hx
  unfold cCall at hx
  unfold Call.operands
  split at hx
  · rename_i b hb
    rw [hb]
    have : x ∈ c.args.toList := by
      unfold cBuiltin at hx
      split at hx <;> first | exact hx | (cases hx; done) | skip
      · split at hx
        · rename_i t ts y ys ht hy
          simp [kxs] at hx
          rw [hy, hx]
          simp
        · cases hx
      · split at hx
        · rename_i t ts y ys ht hy
          simp [kxs] at hx
          rw [hy, hx]
          simp
        · cases hx
      · split at hx
        · exact hx
        · cases hx
      · split at hx
        · exact hx
        · cases hx
    simpa using this
  · rename_i f hb
    rw [hb]
    simpa [kxs] using hx
  · rename_i r name hb
    rw [hb]
    simpa [kxs] using hx

theorem kxs_operands {E : Env} (op : Op) : ∀ x ∈ kxs (cOp E op), x ∈ op.operands.toList := by
  intro x hx
  cases op with
  | build t ps => simp only [cOp, kxs, snds_map] at hx; simpa [Op.operands] using hx
  | buildSlice t n ps => simp only [cOp, kxs, snds_map] at hx; simpa [Op.operands] using hx
  | makeFunc fn a c =>
    simp only [cOp] at hx
    split at hx
    · cases hx
    · simpa [Op.operands, kxs] using hx
  | makeMap t r =>
    cases r with
    | none => simp [cOp, kxs] at hx
    | some n => simpa [cOp, kxs, Op.operands] using hx
  | slice t y lo hi mx =>
    simp only [cOp, kxs] at hx
    have e : ∀ a : Option Operand, optL a = a.toArray.toList := fun a => by cases a <;> rfl
    rw [e, e, e] at hx
    simpa [Op.operands] using hx
  | call c => exact kxs_call x hx
  | alloc _ => simp [cOp, kxs] at hx
  | move _ => simpa [cOp, kxs, Op.operands] using hx
  | assign _ => simpa [cOp, kxs, Op.operands] using hx
  | pick _ _ _ => simpa [cOp, kxs, Op.operands] using hx
  | box _ _ => simpa [cOp, kxs, Op.operands] using hx
  | load _ _ => simpa [cOp, kxs, Op.operands] using hx
  | store _ _ _ => simpa [cOp, kxs, Op.operands] using hx
  | nilCheck _ => simpa [cOp, kxs, Op.operands] using hx
  | binOp _ _ _ _ _ => simpa [cOp, kxs, Op.operands] using hx
  | unOp _ _ _ => simpa [cOp, kxs, Op.operands] using hx
  | convert _ _ _ => dsimp only [cOp] at hx; split at hx <;> simpa [kxs, Op.operands] using hx
  | makeInterface _ _ => simpa [cOp, kxs, Op.operands] using hx
  | makeSlice _ _ _ => simpa [cOp, kxs, Op.operands] using hx
  | fieldAddr _ _ _ => simpa [cOp, kxs, Op.operands] using hx
  | field _ _ _ => simpa [cOp, kxs, Op.operands] using hx
  | indexAddr _ _ _ => simpa [cOp, kxs, Op.operands] using hx
  | index _ _ _ => simpa [cOp, kxs, Op.operands] using hx
  | lookup _ _ _ _ => simpa [cOp, kxs, Op.operands] using hx
  | mapUpdate _ _ _ _ => simpa [cOp, kxs, Op.operands] using hx
  | insert _ _ _ _ => simpa [cOp, kxs, Op.operands] using hx
  | range _ _ => simpa [cOp, kxs, Op.operands] using hx
  | next _ _ => simpa [cOp, kxs, Op.operands] using hx
  | entry _ => simpa [cOp, kxs, Op.operands] using hx
  | typeAssert _ _ _ _ => simpa [cOp, kxs, Op.operands] using hx
  | extract _ _ => simpa [cOp, kxs, Op.operands] using hx
  | defer c =>
    cases hc : c.callee with
    | value f => simpa [cOp, kxs, Op.operands, Call.operands, hc] using hx
    | builtin b => simp [cOp, kxs, hc] at hx
    | invoke r name => simp [cOp, kxs, hc] at hx
  | _ => cases hx

theorem mem_opTmps : ∀ {l : List Operand} {t : Nat}, Operand.tmp t ∈ l → t ∈ opTmps l
  | [], _, h => by cases h
  | x :: r, t, h => by
    rcases List.mem_cons.1 h with h | h
    · subst h; simp [opTmps]
    · have := mem_opTmps h
      cases x <;> simp [opTmps, this]

theorem looks_operand {E : Env} {ops : List Oper} {o : Oper} {t : Nat} (h : Operand.tmp t ∈ kxs (cOp E o.op)) : t ∈ looks ops o := by
  unfold looks
  exact List.mem_append_left _ (mem_opTmps (kxs_operands o.op _ h))

theorem looks_guard {ops : List Oper} {o : Oper} {d : Tmp} {want : Bool} (h : guardOf ops o.guard = some (some (d, want))) : d ∈ looks ops o := by
  unfold guardOf at h
  unfold looks
  refine List.mem_append_right _ ?_
  cases hg : o.guard with
  | none => rw [hg] at h; cases h
  | some p =>
    obtain ⟨j, wn⟩ := p
    rw [hg] at h
    dsimp only at h
    rw [bnd_eq] at h
    obtain ⟨o', h1, h⟩ := h
    rw [bnd_eq] at h
    obtain ⟨d', h2, h⟩ := h
    cases h
    dsimp only
    rw [h1]
    dsimp only
    rw [h2]
    simp

/-! ### Small operations -/
inductive SRes where
  | val (v : AV)
  | read (bs : List Nat) (f : H → Option AV)
  | new (o : AObj) (mk : Nat → AV)

/-- what a small operation comes to, its operands looked up in 'pre' -/
def Small (L : Lv) (pre : List Rc) (tm : T AV) (k : K) (S : SRes) : Prop :=
  match k with
  | .p1 x g => ∃ X v, cX L (dsR pre) x = some X ∧ g (X tm (envR pre)) = some v ∧ S = .val v
  | .p2 x y g => ∃ X Z v, cX L (dsR pre) x = some X ∧ cX L (dsR pre) y = some Z ∧ g (X tm (envR pre)) (Z tm (envR pre)) = some v ∧ S = .val v
  | .pn xs g => ∃ X v, cXs L (dsR pre) xs = some X ∧ g (X tm (envR pre)) = some v ∧ S = .val v
  | .r1 x g => ∃ X, cX L (dsR pre) x = some X ∧ S = .read (blkOf (X tm (envR pre))) (g (X tm (envR pre)))
  | .r2 x y g => ∃ X Z, cX L (dsR pre) x = some X ∧ cX L (dsR pre) y = some Z ∧ S = .read (blkOf (X tm (envR pre))) (g (X tm (envR pre)) (Z tm (envR pre)))
  | .rn xs bk g => ∃ X, cXs L (dsR pre) xs = some X ∧ S = .read (bk (X tm (envR pre))) (g (X tm (envR pre)))
  | .a1 x g => ∃ X o, cX L (dsR pre) x = some X ∧ g (X tm (envR pre)) = some o ∧ S = .new o fun b => .ptr b 0
  | .an xs g => ∃ X p, cXs L (dsR pre) xs = some X ∧ g (X tm (envR pre)) = some p ∧ S = .new p.1 p.2
  | _ => False

section
variable {Y : Sy} {E : Env} {ρ : Rho} {h : H} {w : World}

theorem conc_blk {a : AV} {c : Value} (h : conc Y ρ a = some c) : ∀ b ∈ blkOf a, ∃ L, ρ b = some L := by
  intro b hb
  unfold blkOf at hb
  split at hb
  · simp at hb; subst hb; obtain ⟨L, hL, _⟩ := conc_ptr h; exact ⟨L, hL⟩
  · simp at hb; subst hb; obtain ⟨L, hL, _⟩ := conc_map h; exact ⟨L, hL⟩
  · cases hb

/-- what reads does so at its blocks alone -/
theorem Small.local_ (hE : EnvOk Y E) {L : Lv} {pre : List Rc} {tm : T AV} {o : Oper} {bs : List Nat} {f : H → Option AV} (hs : Small L pre tm (cOp E o.op) (.read bs f)) : ∀ h h', (∀ b ∈ bs, h'.get b = h.get b) → f h' = f h := by
  have hok := cOp_ok hE o
  cases hc : cOp E o.op with
  | p1 x g => rw [hc] at hs; obtain ⟨_, _, _, _, e⟩ := hs; cases e
  | p2 x y g => rw [hc] at hs; obtain ⟨_, _, _, _, _, _, e⟩ := hs; cases e
  | pn xs g => rw [hc] at hs; obtain ⟨_, _, _, _, e⟩ := hs; cases e
  | r1 x g => rw [hc] at hs hok; obtain ⟨X, _, e⟩ := hs; cases e; exact fun h h' hh => hok.1 _ h h' hh
  | r2 x y g => rw [hc] at hs hok; obtain ⟨X, Z, _, _, e⟩ := hs; cases e; exact fun h h' hh => hok.1 _ _ h h' hh
  | rn xs bk g => rw [hc] at hs hok; obtain ⟨X, _, e⟩ := hs; cases e; exact fun h h' hh => hok.1 _ h h' hh
  | a1 x g => rw [hc] at hs; obtain ⟨_, _, _, _, e⟩ := hs; cases e
  | an xs g => rw [hc] at hs; obtain ⟨_, _, _, _, e⟩ := hs; cases e
  | b2 x y g => rw [hc] at hs; exact hs.elim
  | bn xs g => rw [hc] at hs; exact hs.elim
  | df xs g => rw [hc] at hs; exact hs.elim
  | bad => rw [hc] at hs; exact hs.elim

/-- what a small operation is worth, run -/
def SPost (Y : Sy) (E : Env) (ρ : Rho) (w : World) (a : Act) (o : Oper) : SRes → Prop
  | .val v => ∃ cv, (execOp a.eval o).run E.P w = .ok (.value cv) w ∧ conc Y ρ v = some cv
  | .read bs f => (∀ b ∈ bs, ∃ M, ρ b = some M) ∧ ∀ h v, Rel Y E ρ h w → f h = some v → ∃ cv, (execOp a.eval o).run E.P w = .ok (.value cv) w ∧ conc Y ρ v = some cv
  | .new ob mk => ∃ s, execOp a.eval o = (do pure (.value (← s)) : Sem Next) ∧ Makes Y E ρ w s ob mk

/-- a small operation, run -/
theorem Small.exec (hE : EnvOk Y E) {L : Lv} (hng : L.ng = E.ng) {pre evS : List Rc} {tm : T AV} {a : Act} {o : Oper} {S : SRes} (hs : Small L pre tm (cOp E o.op) S) (he : LRel Y ρ L evS tm a.tmps) (hg : Glob E ρ)
    (hag : ∀ t, Operand.tmp t ∈ kxs (cOp E o.op) → look t evS = look t pre) :
    SPost Y E ρ w a o S := by
  have hok := cOp_ok (Y := Y) hE o
  have hx1 : ∀ x X, x ∈ kxs (cOp E o.op) → cX L (dsR pre) x = some X → conc Y ρ (X tm (envR pre)) = some (a.eval x) := fun x X hm hx => cX_look hx he (fun t ht => hag t (by rw [← ht]; exact hm)) hg hng
  cases hc : cOp E o.op with
  | p1 x g =>
    rw [hc] at hs hok hx1
    obtain ⟨X, v, k1, k2, rfl⟩ := hs
    exact hok ρ a.eval w _ v (hx1 x X (by simp [kxs]) k1) k2
  | p2 x y g =>
    rw [hc] at hs hok hx1
    obtain ⟨X, Z, v, k1, k2, k3, rfl⟩ := hs
    exact hok ρ a.eval w _ _ v (hx1 x X (by simp [kxs]) k1) (hx1 y Z (by simp [kxs]) k2) k3
  | pn xs g =>
    rw [hc] at hs hok hag
    obtain ⟨X, v, k1, k2, rfl⟩ := hs
    exact hok ρ a.eval w _ v (cXs_look he hg hng k1 hag) k2
  | r1 x g =>
    rw [hc] at hs hok hx1
    obtain ⟨X, k1, rfl⟩ := hs
    have hcv := hx1 x X (by simp [kxs]) k1
    exact ⟨conc_blk hcv, fun h v hr hv => hok.2 ρ a.eval w h _ v hr hcv hv⟩
  | r2 x y g =>
    rw [hc] at hs hok hx1
    obtain ⟨X, Z, k1, k2, rfl⟩ := hs
    have hcv := hx1 x X (by simp [kxs]) k1
    exact ⟨conc_blk hcv, fun h v hr hv => hok.2 ρ a.eval w h _ _ v hr hcv (hx1 y Z (by simp [kxs]) k2) hv⟩
  | rn xs bk g =>
    rw [hc] at hs hok hag
    obtain ⟨X, k1, rfl⟩ := hs
    have hcv := cXs_look he hg hng k1 hag
    exact ⟨hok.2.1 ρ _ _ hcv, fun h v hr hv => hok.2.2 ρ a.eval w h _ v hr hcv hv⟩
  | a1 x g =>
    rw [hc] at hs hok hx1
    obtain ⟨X, ob, k1, k2, rfl⟩ := hs
    exact hok ρ a.eval w _ ob (hx1 x X (by simp [kxs]) k1) k2
  | an xs g =>
    rw [hc] at hs hok hag
    obtain ⟨X, p, k1, k2, rfl⟩ := hs
    exact hok ρ a.eval w _ p (cXs_look he hg hng k1 hag) k2
  | b2 x y g => rw [hc] at hs; exact hs.elim
  | bn xs g => rw [hc] at hs; exact hs.elim
  | df xs g => rw [hc] at hs; exact hs.elim
  | bad => rw [hc] at hs; exact hs.elim

theorem readOk_eq {bs : List Nat} {h : H} {r : Option AV} {v : AV} (hr : readOk bs h r = some v) : r = some v ∧ ∀ b ∈ bs, b < h.next := by
  unfold readOk at hr
  split at hr
  · exact ⟨hr, fun b hb => by cases hb⟩
  · rename_i b
    split at hr
    · rename_i hlt
      exact ⟨hr, fun c hc => by simp at hc; subst hc; exact (blt_iff _ _).1 hlt⟩
    · cases hr
  · cases hr

/-- a small operation, evaluated -/
theorem drawK_small {bs : T Nat} {L : Lv} {pre : List Rc} {i : Nat} {op : K} (hsm : isBig op = false) {rc : Rec} {tm : T AV} {made seen : List Done} {k : AV → H → List Done → List Done → Bool} (hk : (drawK bs L (dsR pre) i op).run rc tm (envR pre) h made seen k = true) :
    ∃ S, Small L pre tm op S ∧ match S with
      | .val v => k v h made seen = true
      | .read bl f => ∃ v, f h = some v ∧ (∀ b ∈ bl, b < h.next) ∧ k v h made (doneAt i bl seen) = true
      | .new o mk => k (mk h.next) (h.new o).2 (⟨i, h.next⟩ :: made) seen = true := by
  cases op with
  | p1 x g =>
    simp only [drawK] at hk
    cases hx : cX L (dsR pre) x with
    | none => rw [hx] at hk; cases hk
    | some X =>
      rw [hx] at hk
      obtain ⟨v, hv, hk⟩ := optK_eq.1 hk
      exact ⟨.val v, ⟨X, v, hx, hv, rfl⟩, hk⟩
  | p2 x y g =>
    simp only [drawK] at hk
    cases hx : cX L (dsR pre) x with
    | none => rw [hx] at hk; cases hk
    | some X =>
      cases hy : cX L (dsR pre) y with
      | none => rw [hx, hy] at hk; cases hk
      | some Z =>
        rw [hx, hy] at hk
        obtain ⟨v, hv, hk⟩ := optK_eq.1 hk
        exact ⟨.val v, ⟨X, Z, v, hx, hy, hv, rfl⟩, hk⟩
  | pn xs g =>
    simp only [drawK] at hk
    cases hx : cXs L (dsR pre) xs with
    | none => rw [hx] at hk; cases hk
    | some X =>
      rw [hx] at hk
      obtain ⟨v, hv, hk⟩ := optK_eq.1 hk
      exact ⟨.val v, ⟨X, v, hx, hv, rfl⟩, hk⟩
  | r1 x g =>
    simp only [drawK] at hk
    cases hx : cX L (dsR pre) x with
    | none => rw [hx] at hk; cases hk
    | some X =>
      rw [hx] at hk
      obtain ⟨v, hv, hk⟩ := optK_eq.1 hk
      obtain ⟨h1, h2⟩ := readOk_eq hv
      exact ⟨.read _ _, ⟨X, hx, rfl⟩, v, h1, h2, hk⟩
  | r2 x y g =>
    simp only [drawK] at hk
    cases hx : cX L (dsR pre) x with
    | none => rw [hx] at hk; cases hk
    | some X =>
      cases hy : cX L (dsR pre) y with
      | none => rw [hx, hy] at hk; cases hk
      | some Z =>
        rw [hx, hy] at hk
        obtain ⟨v, hv, hk⟩ := optK_eq.1 hk
        obtain ⟨h1, h2⟩ := readOk_eq hv
        exact ⟨.read _ _, ⟨X, Z, hx, hy, rfl⟩, v, h1, h2, hk⟩
  | rn xs bk g =>
    simp only [drawK] at hk
    cases hx : cXs L (dsR pre) xs with
    | none => rw [hx] at hk; cases hk
    | some X =>
      rw [hx] at hk
      obtain ⟨v, hv, hk⟩ := optK_eq.1 hk
      obtain ⟨h1, h2⟩ := readOk_eq hv
      exact ⟨.read _ _, ⟨X, hx, rfl⟩, v, h1, h2, hk⟩
  | a1 x g =>
    simp only [drawK] at hk
    cases hx : cX L (dsR pre) x with
    | none => rw [hx] at hk; cases hk
    | some X =>
      rw [hx] at hk
      obtain ⟨o, ho, hk⟩ := optK_eq.1 hk
      refine ⟨.new o _, ⟨X, o, hx, ho, rfl⟩, ?_⟩
      unfold newD at hk
      dsimp only
      rw [H.new_eq] at hk ⊢
      exact hk
  | an xs g =>
    simp only [drawK] at hk
    cases hx : cXs L (dsR pre) xs with
    | none => rw [hx] at hk; cases hk
    | some X =>
      rw [hx] at hk
      obtain ⟨p, hp, hk⟩ := optK_eq.1 hk
      refine ⟨.new p.1 p.2, ⟨X, p, hx, hp, rfl⟩, ?_⟩
      unfold newD at hk
      dsimp only
      rw [H.new_eq] at hk ⊢
      exact hk
  | b2 x y g => cases hsm
  | bn xs g => cases hsm
  | df xs g => cases hsm
  | bad => cases hsm

/-! ### Hidden blocks -/
def H.hide (h : H) (U : List Nat) : H := ⟨h.t, h.next, U ++ h.mask, h.prot⟩

theorem H.get_hide (h : H) (U : List Nat) (b : Nat) : (h.hide U).get b = if b ∈ U then none else h.get b := by
  rw [H.get_eq, H.get_eq]
  show (if memN (U ++ h.mask) b = true then none else getO h.t b) = _
  by_cases hU : b ∈ U
  · rw [if_pos hU, if_pos ((memN_iff _ _).2 (List.mem_append_left _ hU))]
  · rw [if_neg hU]
    by_cases hm : memN h.mask b = true
    · rw [if_pos hm, if_pos ((memN_iff _ _).2 (List.mem_append_right _ ((memN_iff _ _).1 hm)))]
    · rw [if_neg hm, if_neg]
      intro hh
      rcases List.mem_append.1 ((memN_iff _ _).1 hh) with h1 | h1
      · exact hU h1
      · exact hm ((memN_iff _ _).2 h1)

/-- a heap of which less is seen -/
theorem Rel.sub {h' : H} (hr : Rel Y E ρ h w) (hsub : ∀ b o, h'.get b = some o → h.get b = some o) (hn : h.next ≤ h'.next) : Rel Y E ρ h' w :=
  ⟨fun b o hb ha => hr.obj b o (hsub b o hb) ha, fun b c o p L M hb hc => hr.inj b c o p L M (hsub b o hb) (hsub c p hc), fun b hb => hr.fresh b (Nat.le_trans hn hb), hr.bound⟩

/-- a block that was hidden is made -/
theorem Rel.unhide {U U' : List Nat} {b : Nat} {o : AObj} {ob : Obj} (hr : Rel Y E ρ (h.hide U) w) (hU : ∀ c, c ∈ U ↔ c ∈ U' ∨ c = b) (hb : ρ b = none) (hlt : b < h.next) (hget : ∀ p, h.get b = some p → p = o)
    (ho : ORel Y E (ρ.set b ⟨w.heap.size, 0, 0⟩) ⟨w.heap.size, 0, 0⟩ o ob) : Rel Y E (ρ.set b ⟨w.heap.size, 0, 0⟩) (h.hide U') (w.alloc ob) := by
  have hle : ρ.le (ρ.set b ⟨w.heap.size, 0, 0⟩) := Rho.le_set hb _
  have hold : ∀ c p, c ≠ b → (h.hide U').get c = some p → (h.hide U).get c = some p := by
    intro c p hc hp
    rw [H.get_hide] at hp ⊢
    by_cases hcU : c ∈ U'
    · rw [if_pos hcU] at hp; cases hp
    · rw [if_neg hcU] at hp
      rw [if_neg]
      · exact hp
      · intro h'
        rcases (hU c).1 h' with h1 | h1
        · exact hcU h1
        · exact hc h1
  have hown : ∀ p, (h.hide U').get b = some p → p = o := by
    intro p hp
    rw [H.get_hide] at hp
    split at hp
    · cases hp
    · exact hget p hp
  have hnew : ∀ (M : Loc) (c : Nat), c ≠ b → (ρ.set b ⟨w.heap.size, 0, 0⟩) c = some M → ρ c = some M := fun M c hc hM => by simpa [Rho.set, hc] using hM
  refine ⟨fun c p hp ha => ?_, fun c d p q M N hp hq ha hd hM hN e => ?_, fun c hc => ?_, fun c M hM => ?_⟩
  · by_cases hcb : c = b
    · subst hcb
      have := hown p hp
      subst this
      exact ⟨_, ob, Rho.set_same _ _ _, Array.getElem?_push_size, ho⟩
    · obtain ⟨M, ob', k1, k2, k3⟩ := hr.obj c p (hold c p hcb hp) ha
      refine ⟨M, ob', hle _ _ k1, ?_, k3.mono hle⟩
      rw [RowKit.Below.heap_alloc _ _ _ (hr.bound c M k1)]
      exact k2
  · by_cases hcb : c = b
    · by_cases hdb : d = b
      · rw [hcb, hdb]
      · have h1 := hr.bound d N (hnew N d hdb hN)
        subst hcb
        rw [Rho.set_same] at hM
        cases hM
        dsimp only at e
        omega
    · by_cases hdb : d = b
      · have h1 := hr.bound c M (hnew M c hcb hM)
        subst hdb
        rw [Rho.set_same] at hN
        cases hN
        dsimp only at e
        omega
      · exact hr.inj c d p q M N (hold c p hcb hp) (hold d q hdb hq) ha hd (hnew M c hcb hM) (hnew N d hdb hN) e
  · have hc' : h.next ≤ c := hc
    have : c ≠ b := by omega
    rw [Rho.set_other _ this]
    exact hr.fresh c hc
  · by_cases hcb : c = b
    · subst hcb
      rw [Rho.set_same] at hM
      cases hM
      simp
    · have := hr.bound c M (hnew M c hcb hM)
      simp; omega

end
end Go.AE

namespace Go.AE

def isL (listed : Array Bool) (i : Nat) : Bool := listed.getD i true

theorem isL_set {listed : Array Bool} {i : Nat} (hi : isL listed i = false) (j : Nat) : isL (listed.setIfInBounds i true) j = if j = i then true else isL listed j := by
  have hlt : i < listed.size := by
    rcases Nat.lt_or_ge i listed.size with h | h
    · exact h
    · simp [isL, Array.getElem?_eq_none h] at hi
  unfold isL
  simp only [Array.getD_eq_getD_getElem?, Array.getElem?_setIfInBounds]
  by_cases hij : i = j
  · subst hij; simp [hlt]
  · rw [if_neg hij, if_neg (fun e => hij e.symm)]

/-- the blocks of the operations that have not been run -/
def unex (listed : Array Bool) (ev : List Rc) : List Nat := (ev.filter fun r => !isL listed r.i).filterMap fun r => r.blk

theorem mem_unex {listed : Array Bool} {ev : List Rc} {b : Nat} : b ∈ unex listed ev ↔ ∃ r ∈ ev, isL listed r.i = false ∧ r.blk = some b := by
  unfold unex
  rw [List.mem_filterMap]
  constructor
  · rintro ⟨r, hr, hb⟩
    rw [List.mem_filter] at hr
    exact ⟨r, hr.1, by simpa using hr.2, hb⟩
  · rintro ⟨r, hr, hl, hb⟩
    exact ⟨r, by rw [List.mem_filter]; exact ⟨hr, by simpa using hl⟩, hb⟩

def madeOf (ev : List Rc) : List Done := ev.filterMap fun r => r.blk.map fun b => ⟨r.i, b⟩

theorem mem_madeOf {ev : List Rc} {d : Done} : d ∈ madeOf ev ↔ ∃ r ∈ ev, r.i = d.i ∧ r.blk = some d.b := by
  unfold madeOf
  rw [List.mem_filterMap]
  constructor
  · rintro ⟨r, hr, hb⟩
    rw [Option.map_eq_some_iff] at hb
    obtain ⟨b, hb, rfl⟩ := hb
    exact ⟨r, hr, rfl, hb⟩
  · rintro ⟨r, hr, h1, h2⟩
    exact ⟨r, hr, by rw [h2, Option.map_some]; congr 1; cases d; simp_all⟩

theorem mem_maskOf {bs : T Nat} {i : Nat} : ∀ {l : List Done} {m : List Nat} {b : Nat}, b ∈ maskOf bs i l m ↔ b ∈ m ∨ ∃ d ∈ l, bef bs i d.i = false ∧ d.b = b
  | [], m, b => by simp [maskOf]
  | d :: r, m, b => by
    simp only [maskOf]
    cases hb : bef bs i d.i with
    | true =>
      rw [mem_maskOf]
      constructor
      · rintro (h | ⟨d', h1, h2, h3⟩)
        · exact .inl h
        · exact .inr ⟨d', by simp [h1], h2, h3⟩
      · rintro (h | ⟨d', h1, h2, h3⟩)
        · exact .inl h
        · rcases List.mem_cons.1 h1 with rfl | h1
          · rw [hb] at h2; cases h2
          · exact .inr ⟨d', h1, h2, h3⟩
    | false =>
      rw [List.mem_cons, mem_maskOf]
      constructor
      · rintro (rfl | h | ⟨d', h1, h2, h3⟩)
        · exact .inr ⟨d, by simp, hb, rfl⟩
        · exact .inl h
        · exact .inr ⟨d', by simp [h1], h2, h3⟩
      · rintro (h | ⟨d', h1, h2, h3⟩)
        · exact .inr (.inl h)
        · rcases List.mem_cons.1 h1 with rfl | h1
          · exact .inl h3.symm
          · exact .inr (.inr ⟨d', h1, h2, h3⟩)

theorem mem_doneAt {i : Nat} : ∀ {bl : List Nat} {l : List Done} {d : Done}, d ∈ doneAt i bl l ↔ (d.i = i ∧ d.b ∈ bl) ∨ d ∈ l
  | [], l, d => by simp [doneAt]
  | b :: r, l, d => by
    simp only [doneAt, List.mem_cons]
    rw [mem_doneAt]
    constructor
    · rintro (rfl | ⟨h1, h2⟩ | h)
      · exact .inl ⟨rfl, .inl rfl⟩
      · exact .inl ⟨h1, .inr h2⟩
      · exact .inr h
    · rintro (⟨h1, h2 | h2⟩ | h)
      · left; cases d; simp_all
      · exact .inr (.inl ⟨h1, h2⟩)
      · exact .inr (.inr h)

/-! ### Looking up -/
theorem look_append (t : Nat) : ∀ (A B : List Rc), look t (A ++ B) = match look t A with | some v => some v | none => look t B
  | [], B => rfl
  | r :: A, B => by
    simp only [List.cons_append, look]
    by_cases h : r.o.dst = some t
    · simp [h]
    · simp only [h, if_false]
      exact look_append t A B

theorem look_none {t : Nat} : ∀ {A : List Rc}, (∀ r ∈ A, r.o.dst ≠ some t) → look t A = none
  | [], _ => rfl
  | r :: A, h => by
    simp only [look]
    rw [if_neg (h r (by simp))]
    exact look_none fun r' hr' => h r' (by simp [hr'])

theorem look_filter {t : Nat} {p : Rc → Bool} : ∀ {A : List Rc}, (∀ r ∈ A, r.o.dst = some t → p r = true) → look t (A.filter p) = look t A
  | [], _ => rfl
  | r :: A, h => by
    have ih := look_filter (t := t) (p := p) (A := A) fun r' hr' => h r' (by simp [hr'])
    by_cases hd : r.o.dst = some t
    · rw [List.filter_cons_of_pos (h r (by simp) hd)]
      simp [look, hd]
    · cases hp : p r with
      | true => rw [List.filter_cons_of_pos hp]; simp [look, hd, ih]
      | false => rw [List.filter_cons_of_neg (by simp [hp])]; simp [look, hd, ih]

section
variable {Y : Sy} {E : Env} {ρ : Rho} {h : H} {w : World}

theorem LRel.insert {L : Lv} {A B : List Rc} {r : Rc} {tm : T AV} {a : Act} {cv : Value} (he : LRel Y ρ L (A ++ B) tm a.tmps) (hv : conc Y ρ r.v = some cv) (hd : ∀ d, r.o.dst = some d → d < a.tmps.size ∧ ∀ r' ∈ A, r'.o.dst ≠ some d) :
    LRel Y ρ L (A ++ r :: B) tm (a.put r.o.dst cv).tmps := by
  intro t
  by_cases hrt : r.o.dst = some t
  · obtain ⟨h1, h2⟩ := hd t hrt
    have hl : look t (A ++ r :: B) = some r.v := by
      rw [look_append, look_none h2]
      simp [look, hrt]
    rw [hl, hrt, getD_put h1, if_pos rfl]
    exact ⟨fun v hv' => by cases hv'; exact hv, fun hn => by cases hn⟩
  · have hl : look t (A ++ r :: B) = look t (A ++ B) := by
      rw [look_append, look_append]
      cases look t A with
      | some _ => rfl
      | none => simp [look, hrt]
    have ht : (a.put r.o.dst cv).tmps.getD t undef = a.tmps.getD t undef := by
      cases hdst : r.o.dst with
      | none => rfl
      | some d =>
        rw [getD_put (hd d hdst).1, if_neg]
        intro e
        rw [hdst, e] at hrt
        exact hrt rfl
    rw [hl, ht]
    exact he t

/-! ### Guards -/
theorem wanted_val {arr : Array Oper} {o : Oper} {a : Act} {d : Tmp} {want : Bool} {v : AV} {b : Bool} (hgu : guardOf arr.toList o.guard = some (some (d, want))) (hv : conc Y ρ v = some (a.tmps.getD d undef)) (hw : isWanted want v = some b) : Region.wanted o (yielded arr a.tmps) = b := by
  unfold guardOf at hgu
  split at hgu
  · cases hgu
  · rename_i j want' hgd
    rw [bnd_eq] at hgu
    obtain ⟨o', ho', hgu⟩ := hgu
    rw [bnd_eq] at hgu
    obtain ⟨d', hd', hgu⟩ := hgu
    cases hgu
    have ho2 : arr[j]? = some o' := by rw [← Array.getElem?_toList]; exact ho'
    unfold isWanted at hw
    split at hw
    · rename_i bb
      simp only [conc, Option.some.injEq] at hv
      have hget : a.tmps[d]? = some (.bool bb) := by
        rw [Array.getD_eq_getD_getElem?] at hv
        cases hq : a.tmps[d]? with
        | none => rw [hq] at hv; cases hv
        | some u => rw [hq] at hv; exact congrArg some hv.symm
      cases hw
      unfold Region.wanted
      rw [hgd]
      simp only [yielded, ho2, Option.bind_some, hd', hget]
      cases bb <;> cases want <;> rfl
    · cases hw
      have hu : a.tmps.getD d undef = undef := by
        simp only [conc, concs, Option.some.injEq] at hv
        exact hv.symm
      unfold Region.wanted
      rw [hgd]
      simp only [yielded, ho2, Option.bind_some, hd']
      cases hq : a.tmps[d]? with
      | none => rfl
      | some u =>
        have : u = undef := by
          rw [Array.getD_eq_getD_getElem?, hq] at hu
          exact hu
        subst this
        rfl
    · rename_i e ks bb
      have hbw : b = false ∧ bb ≠ want := by
        cases bb <;> cases want <;> simp_all
      obtain ⟨rfl, hbw⟩ := hbw
      simp only [conc] at hv
      have hget : a.tmps[d]? = some (.bool bb) ∨ a.tmps.getD d undef = undef := by
        split at hv
        · simp only [Option.some.injEq] at hv
          left
          rw [Array.getD_eq_getD_getElem?] at hv
          cases hq : a.tmps[d]? with
          | none => rw [hq] at hv; cases hv
          | some u => rw [hq] at hv; exact congrArg some hv.symm
        · simp only [Option.some.injEq] at hv
          exact .inr hv.symm
      unfold Region.wanted
      rw [hgd]
      simp only [yielded, ho2, Option.bind_some, hd']
      rcases hget with hget | hu
      · rw [hget]
        cases bb <;> cases want <;> first | rfl | exact absurd rfl hbw
      · cases hq : a.tmps[d]? with
        | none => rfl
        | some u =>
          have : u = undef := by
            rw [Array.getD_eq_getD_getElem?, hq] at hu
            exact hu
          subst this
          rfl
    · cases hw

theorem wanted_none {arr : Array Oper} {o : Oper} {a : Act} (hgu : guardOf arr.toList o.guard = some none) : Region.wanted o (yielded arr a.tmps) = true := by
  have : o.guard = none := by
    unfold guardOf at hgu
    split at hgu
    · rename_i hgn; exact hgn
    · rw [bnd_eq] at hgu
      obtain ⟨_, _, hgu⟩ := hgu
      rw [bnd_eq] at hgu
      obtain ⟨_, _, hgu⟩ := hgu
      cases hgu
  simp [Region.wanted, this]

/-- the guard lets the operation go, or not -/
def GuardIs (L : Lv) (tm : T AV) (ops : List Oper) (pre : List Rc) (o : Oper) (b : Bool) : Prop :=
  (guardOf ops o.guard = some none ∧ b = true) ∨ ∃ d want X, guardOf ops o.guard = some (some (d, want)) ∧ cX L (dsR pre) (.tmp d) = some X ∧ isWanted want (X tm (envR pre)) = some b

theorem GuardIs.wanted {L : Lv} (hng : L.ng = E.ng) (hg : Glob E ρ) {tm : T AV} {arr : Array Oper} {pre evS : List Rc} {o : Oper} {b : Bool} {a : Act} (hgi : GuardIs L tm arr.toList pre o b) (he : LRel Y ρ L evS tm a.tmps) (hag : ∀ t, t ∈ looks arr.toList o → look t evS = look t pre) :
    Region.wanted o (yielded arr a.tmps) = b := by
  rcases hgi with ⟨h1, rfl⟩ | ⟨d, want, X, h1, h2, h3⟩
  · exact wanted_none h1
  · have hv := cX_look (E := E) h2 he (fun t ht => by cases ht; exact hag d (looks_guard h1)) hg hng
    exact wanted_val h1 hv h3

/-- one operation of the evaluator: its guard -/
theorem cDraw1_eq {bs : T Nat} {L : Lv} {ops : List Oper} {pre : List Rc} {i : Nat} {o : Oper} {rc : Rec} {tm : T AV} {made seen : List Done} {k : AV → H → List Done → List Done → Bool} (hk : (cDraw1 E bs L ops (dsR pre) i o).run rc tm (envR pre) h made seen k = true) :
    (GuardIs L tm ops pre o true ∧ (drawK bs L (dsR pre) i (cOp E o.op)).run rc tm (envR pre) h made seen k = true) ∨ (GuardIs L tm ops pre o false ∧ k undefA h made seen = true) := by
  unfold cDraw1 at hk
  cases hgu : guardOf ops o.guard with
  | none => rw [hgu] at hk; cases hk
  | some g =>
    rw [hgu] at hk
    dsimp only at hk
    unfold guardD at hk
    cases g with
    | none => exact .inl ⟨.inl ⟨hgu, rfl⟩, hk⟩
    | some p =>
      obtain ⟨d, want⟩ := p
      dsimp only at hk
      cases hx : cX L (dsR pre) (.tmp d) with
      | none => rw [hx] at hk; cases hk
      | some X =>
        rw [hx] at hk
        dsimp only at hk
        cases hw : isWanted want (X tm (envR pre)) with
        | none => rw [hw] at hk; cases hk
        | some b =>
          rw [hw] at hk
          cases b with
          | true => exact .inl ⟨.inr ⟨d, want, X, hgu, hx, hw⟩, hk⟩
          | false => exact .inr ⟨.inr ⟨d, want, X, hgu, hx, hw⟩, hk⟩

/-! ### The invariant -/
def FactS (r : Rc) (H : H) (seen : List Done) : SRes → Prop
  | .val v => r.v = v ∧ r.blk = none
  | .read bl f => f H = some r.v ∧ r.blk = none ∧ ∀ b ∈ bl, b < H.next ∧ (⟨r.i, b⟩ : Done) ∈ seen
  | .new o mk => ∃ b, r.v = mk b ∧ r.blk = some b ∧ getO H.t b = some o ∧ b < H.next

/-- an operation that has been evaluated but not run -/
def Fact (E : Env) (L : Lv) (tm : T AV) (ops : List Oper) (pre : List Rc) (r : Rc) (H : H) (seen : List Done) : Prop :=
  (GuardIs L tm ops pre r.o false ∧ r.v = undefA ∧ r.blk = none) ∨ (GuardIs L tm ops pre r.o true ∧ ∃ S, Small L pre tm (cOp E r.o.op) S ∧ FactS r H seen S)

structure PInv (Y : Sy) (E : Env) (L : Lv) (nt : Nat) (rc : Rec) (tm : T AV) (arr : Array Oper) (ord : List Nat) (k : List AV → H → Bool) (ρ₀ : Rho) (h₀ : H) (w₀ : World) (a₀ : Act)
    (listed : Array Bool) (a : Act) (w : World) (ev : List Rc) (todo : List Nat) (ρ : Rho) (H : H) (seen : List Done) : Prop where
  split : ord = (ev.map fun r => r.i).reverse ++ todo
  opers : ∀ r ∈ ev, arr[r.i]? = some r.o
  run : (cDraws E (befs arr.toList) L arr.toList todo (dsR ev)).run rc tm (envR ev) H (madeOf ev) seen k = true
  unl : ∀ j ∈ todo, isL listed j = false
  bigs : ∀ r ∈ ev, bigAt E arr.toList r.i = true → isL listed r.i = true
  closed : ∀ i j, i < arr.size → j < arr.size → isL listed i = true → bef (befs arr.toList) i j = true → isL listed j = true
  le : ρ₀.le ρ
  rel : Rel Y E ρ (H.hide (unex listed ev)) w
  frm : Frm ρ₀ h₀ w₀ w
  keeps : Keeps h₀ H
  made : ∀ b M, ρ₀ b = none → ρ b = some M → w₀.heap.size ≤ M.blk ∨ ∃ c o N, h₀.get c = some o ∧ wr h₀ c o = true ∧ ρ₀ c = some N ∧ N.blk = M.blk
  same : ∀ b, b < h₀.next → ρ b = ρ₀ b
  nob : ∀ r ∈ ev, isL listed r.i = false → ∀ b, r.blk = some b → ρ b = none
  blkLt : ∀ r ∈ ev, ∀ b, r.blk = some b → h₀.next ≤ b ∧ b < H.next
  uniq : ∀ r ∈ ev, ∀ r' ∈ ev, ∀ b, r.blk = some b → r'.blk = some b → r.i = r'.i
  regs : LRel Y ρ L (ev.filter fun r => isL listed r.i) tm a.tmps
  facts : ∀ post r pre, ev = post ++ r :: pre → isL listed r.i = false → Fact E L tm arr.toList pre r H seen
  size : a.tmps.size = nt
  defers : a.defers = a₀.defers

/-- what the checks say -/
structure Checks (E : Env) (nt : Nat) (arr : Array Oper) (ord : List Nat) : Prop where
  pairs : ∀ (i j : Nat) (oi oj : Oper) (d : Tmp), arr[i]? = some oi → arr[j]? = some oj → i ≠ j → oj.dst = some d → (d ∈ looks arr.toList oi ∨ oi.dst = some d) → bef (befs arr.toList) i j = true ∨ bef (befs arr.toList) j i = true
  edges : ∀ (i : Nat) (o : Oper), arr[i]? = some o → ∀ e ∈ o.after, bindsA e = true → e.on < i
  ordk : ordOk E (befs arr.toList) arr.toList ord = true
  cover : ∀ i, i < arr.size → i ∈ ord
  close : ∀ (i : Nat) (o : Oper) (j : Nat), arr[i]? = some o → j < arr.size → bef (befs arr.toList) i j = true → ∃ e ∈ o.after, bindsA e = true ∧ (e.on = j ∨ bef (befs arr.toList) e.on j = true)
  dsts : ∀ (i : Nat) (o : Oper) (d : Tmp), arr[i]? = some o → o.dst = some d → d < nt

end
end Go.AE

namespace Go.AE

section
variable {Y : Sy} {E : Env}

theorem bigAt_false {ops : List Oper} {i : Nat} (h : bigAt E ops i = false) : ∃ o, ops[i]? = some o ∧ isBig (cOp E o.op) = false := by
  unfold bigAt at h
  split at h
  · rename_i o ho; exact ⟨o, ho, h⟩
  · cases h

theorem cDraws_cons {bs : T Nat} {L : Lv} {ops : List Oper} {i : Nat} {l : List Nat} {ds : List (Option Tmp)} {rc : Rec} {tm : T AV} {env : List AV} {h : H} {made seen : List Done} {k : List AV → H → Bool} {o : Oper} (ho : ops[i]? = some o) :
    (cDraws E bs L ops (i :: l) ds).run rc tm env h made seen k = (cDraw1 E bs L ops ds i o).run rc tm env h made seen fun v h' made' seen' => (cDraws E bs L ops l (o.dst :: ds)).run rc tm (v :: env) h' made' seen' k := by
  unfold cDraws
  dsimp only
  rw [ho]

theorem H.get_congr {h h' : H} {b : Nat} (hm : h'.mask = h.mask) (ht : getO h'.t b = getO h.t b) : h'.get b = h.get b := by
  rw [H.get_eq, H.get_eq, hm, ht]

theorem H.get_raw {h : H} {b : Nat} {o : AObj} (hg : h.get b = some o) : getO h.t b = some o := by
  rw [H.get_eq] at hg
  split at hg
  · cases hg
  · exact hg

theorem H.get_seen {h : H} {b : Nat} {o : AObj} (hg : h.get b = some o) : memN h.mask b = false := by
  rw [H.get_eq] at hg
  split at hg
  · cases hg
  · rename_i hm; simpa using hm

theorem Fact.move (hE : EnvOk Y E) {L : Lv} {tm : T AV} {ops : List Oper} {pre : List Rc} {r : Rc} {G G' : H} {seen seen' : List Done} (hf : Fact E L tm ops pre r G seen) (hn : G.next ≤ G'.next) (hs : ∀ d ∈ seen, d ∈ seen')
    (h1 : ∀ b, (⟨r.i, b⟩ : Done) ∈ seen → b < G.next → G'.get b = G.get b) (h2 : ∀ b, r.blk = some b → b < G.next → getO G'.t b = getO G.t b) : Fact E L tm ops pre r G' seen' := by
  rcases hf with hf | ⟨hg, S, hS, hf⟩
  · exact .inl hf
  · refine .inr ⟨hg, S, hS, ?_⟩
    cases S with
    | val v => exact hf
    | read bl f =>
      obtain ⟨g1, g2, g3⟩ := hf
      refine ⟨?_, g2, fun b hb => ⟨Nat.lt_of_lt_of_le (g3 b hb).1 hn, hs _ (g3 b hb).2⟩⟩
      rw [Small.local_ hE hS G G' fun b hb => h1 b (g3 b hb).2 (g3 b hb).1]
      exact g1
    | new o mk =>
      obtain ⟨b, g1, g2, g3, g4⟩ := hf
      exact ⟨b, g1, g2, by rw [h2 b g2 g4]; exact g3, Nat.lt_of_lt_of_le g4 hn⟩

section
variable {L : Lv} {nt : Nat} {rc : Rec} {tm : T AV} {arr : Array Oper} {ord : List Nat} {k : List AV → H → Bool} {ρ₀ : Rho} {h₀ : H} {w₀ : World} {a₀ : Act} {listed : Array Bool} {a : Act} {w : World} {ev : List Rc} {todo : List Nat} {ρ : Rho} {G : H} {seen : List Done}

/-- an operation is evaluated, but not run -/
theorem PInv.push (hE : EnvOk Y E) {i : Nat} (hP : PInv Y E L nt rc tm arr ord k ρ₀ h₀ w₀ a₀ listed a w ev (i :: todo) ρ G seen) {o : Oper} {v : AV} {blk : Option Nat} {G' : H} {seen' : List Done} (ho : arr[i]? = some o) (hsm : bigAt E arr.toList i = false)
    (hrun : (cDraws E (befs arr.toList) L arr.toList todo (dsR (⟨i, o, v, blk⟩ :: ev))).run rc tm (envR (⟨i, o, v, blk⟩ :: ev)) G' (madeOf (⟨i, o, v, blk⟩ :: ev)) seen' k = true)
    (hn : G.next ≤ G'.next) (hm : G'.mask = G.mask) (hp : G'.prot = G.prot) (hblk : ∀ b, blk = some b → b = G.next ∧ b < G'.next) (hget : ∀ b, blk ≠ some b → getO G'.t b = getO G.t b) (hseen : ∀ d ∈ seen, d ∈ seen')
    (hfact : Fact E L tm arr.toList ev ⟨i, o, v, blk⟩ G' seen') :
    PInv Y E L nt rc tm arr ord k ρ₀ h₀ w₀ a₀ listed a w (⟨i, o, v, blk⟩ :: ev) todo ρ G' seen' := by
  have hil : isL listed i = false := hP.unl i (by simp)
  have hold : ∀ b, b < G.next → getO G'.t b = getO G.t b := fun b hb => hget b fun e => by have := (hblk b e).1; omega
  have h0n := hP.keeps.next
  refine ⟨?_, ?_, hrun, fun j hj => hP.unl j (by simp [hj]), ?_, hP.closed, hP.le, ?_, hP.frm, ⟨hm.trans hP.keeps.mask, hp.trans hP.keeps.prot, Nat.le_trans h0n hn, ?_, ?_⟩, hP.made, hP.same, ?_, ?_, ?_, ?_, ?_, hP.size, hP.defers⟩
  · rw [hP.split]; simp
  · intro r hr
    rcases List.mem_cons.1 hr with rfl | hr
    · exact ho
    · exact hP.opers r hr
  · intro r hr hb
    rcases List.mem_cons.1 hr with rfl | hr
    · rw [hsm] at hb; cases hb
    · exact hP.bigs r hr hb
  · refine hP.rel.sub (fun b o' hb => ?_) hn
    rw [H.get_hide] at hb ⊢
    split at hb
    · cases hb
    · rename_i hU
      have h1 : blk ≠ some b := fun e => hU (mem_unex.2 ⟨_, List.mem_cons_self, hil, e⟩)
      have h2 : b ∉ unex listed ev := fun hm => by
        obtain ⟨r, hr, h3, h4⟩ := mem_unex.1 hm
        exact hU (mem_unex.2 ⟨r, by simp [hr], h3, h4⟩)
      rw [if_neg h2, ← H.get_congr hm (hget b h1)]
      exact hb
  · intro b hb hmp
    rw [hold b (by omega)]
    exact hP.keeps.raw b hb hmp
  · intro b o' hb hg ha
    rw [H.get_congr hm (hold b (by omega))] at hg
    exact hP.keeps.old b o' hb hg ha
  · intro r hr hl b hb
    rcases List.mem_cons.1 hr with rfl | hr
    · have := (hblk b hb).1
      exact hP.rel.fresh b (by show G.next ≤ b; omega)
    · exact hP.nob r hr hl b hb
  · intro r hr b hb
    rcases List.mem_cons.1 hr with rfl | hr
    · have := hblk b hb; omega
    · have := hP.blkLt r hr b hb; omega
  · intro r hr r' hr' b hb hb'
    rcases List.mem_cons.1 hr with rfl | hr
    · rcases List.mem_cons.1 hr' with rfl | hr'
      · rfl
      · have h1 := (hblk b hb).1
        have h2 := (hP.blkLt r' hr' b hb').2
        omega
    · rcases List.mem_cons.1 hr' with rfl | hr'
      · have h1 := (hblk b hb').1
        have h2 := (hP.blkLt r hr b hb).2
        omega
      · exact hP.uniq r hr r' hr' b hb hb'
  · have e : (⟨i, o, v, blk⟩ :: ev : List Rc).filter (fun r => isL listed r.i) = ev.filter fun r => isL listed r.i := by
      rw [List.filter_cons_of_neg]
      simp [hil]
    rw [e]
    exact hP.regs
  · intro post r pre he hl
    cases post with
    | nil =>
      simp only [List.nil_append, List.cons.injEq] at he
      obtain ⟨rfl, rfl⟩ := he
      exact hfact
    | cons r' post =>
      simp only [List.cons_append, List.cons.injEq] at he
      obtain ⟨_, he⟩ := he
      refine (hP.facts post r pre he hl).move hE hn hseen (fun b _ hb => H.get_congr hm (hold b hb)) fun b _ hb => hold b hb

theorem PInv.small (hE : EnvOk Y E) {i : Nat} (hP : PInv Y E L nt rc tm arr ord k ρ₀ h₀ w₀ a₀ listed a w ev (i :: todo) ρ G seen) (hsm : bigAt E arr.toList i = false) :
    ∃ r G' seen', PInv Y E L nt rc tm arr ord k ρ₀ h₀ w₀ a₀ listed a w (r :: ev) todo ρ G' seen' := by
  obtain ⟨o, ho, hb⟩ := bigAt_false hsm
  have ho' : arr[i]? = some o := by rw [← Array.getElem?_toList]; exact ho
  have hrun := hP.run
  rw [cDraws_cons ho] at hrun
  rcases cDraw1_eq hrun with ⟨hg, hk⟩ | ⟨hg, hk⟩
  · obtain ⟨S, hS, hres⟩ := drawK_small hb hk
    cases S with
    | val v =>
      exact ⟨⟨i, o, v, none⟩, G, seen, hP.push hE ho' hsm hres (Nat.le_refl _) rfl rfl (fun b hb => by cases hb) (fun _ _ => rfl) (fun _ h => h) (.inr ⟨hg, _, hS, rfl, rfl⟩)⟩
    | read bl f =>
      obtain ⟨v, h1, h2, h3⟩ := hres
      exact ⟨⟨i, o, v, none⟩, G, doneAt i bl seen, hP.push hE ho' hsm h3 (Nat.le_refl _) rfl rfl (fun b hb => by cases hb) (fun _ _ => rfl) (fun d hd => mem_doneAt.2 (.inr hd))
        (.inr ⟨hg, _, hS, h1, rfl, fun b hb => ⟨h2 b hb, mem_doneAt.2 (.inl ⟨rfl, hb⟩)⟩⟩)⟩
    | new ob mk =>
      refine ⟨⟨i, o, mk G.next, some G.next⟩, (G.new ob).2, seen, hP.push hE ho' hsm hres ?_ ?_ ?_ ?_ ?_ (fun _ h => h) (.inr ⟨hg, _, hS, G.next, rfl, rfl, ?_, ?_⟩)⟩
      · rw [H.new_eq]; exact Nat.le_succ _
      · rw [H.new_eq]
      · rw [H.new_eq]
      · intro b hb; cases hb; rw [H.new_eq]; exact ⟨rfl, Nat.lt_succ_self _⟩
      · intro b hb
        rw [H.new_eq]
        show getO (putO G.t G.next ob) b = _
        rw [get_putO, if_neg]
        intro e; subst e; exact hb rfl
      · rw [H.new_eq]
        show getO (putO G.t G.next ob) G.next = _
        rw [get_putO, if_pos rfl]
      · rw [H.new_eq]; exact Nat.lt_succ_self _
  · exact ⟨⟨i, o, undefA, none⟩, G, seen, hP.push hE ho' hsm hk (Nat.le_refl _) rfl rfl (fun b hb => by cases hb) (fun _ _ => rfl) (fun _ h => h) (.inl ⟨hg, rfl, rfl⟩)⟩

theorem PInv.smalls (hE : EnvOk Y E) : ∀ (todo : List Nat) (ev : List Rc) (G : H) (seen : List Done), PInv Y E L nt rc tm arr ord k ρ₀ h₀ w₀ a₀ listed a w ev todo ρ G seen →
    ∃ ev' todo' G' seen', PInv Y E L nt rc tm arr ord k ρ₀ h₀ w₀ a₀ listed a w ev' todo' ρ G' seen' ∧ (todo' = [] ∨ ∃ i r, todo' = i :: r ∧ bigAt E arr.toList i = true)
  | [], ev, G, seen, hP => ⟨ev, [], G, seen, hP, .inl rfl⟩
  | i :: todo, ev, G, seen, hP => by
    cases hb : bigAt E arr.toList i with
    | true => exact ⟨ev, i :: todo, G, seen, hP, .inr ⟨i, todo, rfl, hb⟩⟩
    | false =>
      obtain ⟨r, G', seen', hP'⟩ := hP.small hE hb
      exact PInv.smalls hE todo (r :: ev) G' seen' hP'

end
end
end Go.AE

namespace Go.AE

section
variable {Y : Sy} {E : Env}

theorem ordOk_pair {bs : T Nat} {ops : List Oper} {A B : List Nat} (h : ordOk E bs ops (A ++ B) = true) {x y : Nat} (hx : x ∈ A) (hy : y ∈ B) : x ≠ y ∧ bef bs x y = false ∧ (bigAt E ops x = true → bef bs y x = true) := by
  obtain ⟨p, q, rfl⟩ := List.append_of_mem hx
  have h' : ordOk E bs ops (p ++ x :: (q ++ B)) = true := by simpa using h
  obtain ⟨h1, h2, h3⟩ := ordOk_split h'
  have hm : y ∈ q ++ B := List.mem_append_right _ hy
  exact ⟨fun e => h1 (e ▸ hm), h2 y hm, fun hb => h3 hb y hm⟩

theorem isL_mono {listed : Array Bool} {i j : Nat} (hi : isL listed i = false) (hj : isL listed j = true) : isL (listed.setIfInBounds i true) j = true := by
  rw [isL_set hi]
  split
  · rfl
  · exact hj

section
variable {L : Lv} {nt : Nat} {rc : Rec} {tm : T AV} {arr : Array Oper} {ord : List Nat} {k : List AV → H → Bool} {ρ₀ : Rho} {h₀ : H} {w₀ : World} {a₀ : Act} {listed : Array Bool} {a : Act} {w : World} {ev : List Rc} {todo : List Nat} {ρ : Rho} {G : H} {seen : List Done}

/-- all that operation i waits for has been run -/
def Waits (arr : Array Oper) (listed : Array Bool) (i : Nat) : Prop := ∀ j, j < arr.size → bef (befs arr.toList) i j = true → isL listed j = true

theorem closed_set (hcl : ∀ i j, i < arr.size → j < arr.size → isL listed i = true → bef (befs arr.toList) i j = true → isL listed j = true) {i : Nat} (hi : isL listed i = false) (hw : Waits arr listed i) :
    ∀ i' j, i' < arr.size → j < arr.size → isL (listed.setIfInBounds i true) i' = true → bef (befs arr.toList) i' j = true → isL (listed.setIfInBounds i true) j = true := by
  intro i' j hi' hj hl hb
  rw [isL_set hi] at hl
  split at hl
  · rename_i e
    subst e
    exact isL_mono hi (hw j hj hb)
  · exact isL_mono hi (hcl i' j hi' hj hl hb)

/-- the index of a record -/
theorem PInv.lt (hP : PInv Y E L nt rc tm arr ord k ρ₀ h₀ w₀ a₀ listed a w ev todo ρ G seen) {r : Rc} (hr : r ∈ ev) : r.i < arr.size := by
  have := hP.opers r hr
  rcases Nat.lt_or_ge r.i arr.size with h | h
  · exact h
  · rw [Array.getElem?_eq_none h] at this; cases this

/-- records before and behind one -/
theorem PInv.before (hC : Checks E nt arr ord) (hP : PInv Y E L nt rc tm arr ord k ρ₀ h₀ w₀ a₀ listed a w ev todo ρ G seen) {post pre : List Rc} {r : Rc} (hev : ev = post ++ r :: pre) :
    (∀ r' ∈ pre, r'.i ≠ r.i ∧ bef (befs arr.toList) r'.i r.i = false) ∧ (∀ r' ∈ post, r'.i ≠ r.i ∧ bef (befs arr.toList) r.i r'.i = false) := by
  have hs := hP.split
  have ho := hC.ordk
  subst hev
  have e1 : ord = (pre.map fun r => r.i).reverse ++ (r.i :: ((post.map fun r => r.i).reverse ++ todo)) := by rw [hs]; simp
  have e2 : ord = ((pre.map fun r => r.i).reverse ++ [r.i]) ++ ((post.map fun r => r.i).reverse ++ todo) := by rw [hs]; simp
  constructor
  · intro r' hr'
    rw [e1] at ho
    have := ordOk_pair ho (x := r'.i) (y := r.i) (by simp; exact ⟨r', hr', rfl⟩) (by simp)
    exact ⟨this.1, this.2.1⟩
  · intro r' hr'
    rw [e2] at ho
    have := ordOk_pair ho (x := r.i) (y := r'.i) (by simp) (by simp; exact .inl ⟨r', hr', rfl⟩)
    exact ⟨fun e => this.1 e.symm, this.2.1⟩

/-- the records that have been run agree with those before an operation that is ready, on what it looks at -/
theorem PInv.agree (hC : Checks E nt arr ord) (hP : PInv Y E L nt rc tm arr ord k ρ₀ h₀ w₀ a₀ listed a w ev todo ρ G seen) {post pre : List Rc} {r : Rc} (hev : ev = post ++ r :: pre) (hun : isL listed r.i = false) (hw : Waits arr listed r.i)
    {t : Nat} (ht : t ∈ looks arr.toList r.o ∨ r.o.dst = some t) :
    look t (ev.filter fun r => isL listed r.i) = look t pre ∧ ∀ r' ∈ post.filter fun r => isL listed r.i, r'.o.dst ≠ some t := by
  obtain ⟨hb1, hb2⟩ := hP.before hC hev
  have hro := hP.opers r (by rw [hev]; simp)
  have hcmp : ∀ r' ∈ ev, r'.i ≠ r.i → r'.o.dst = some t → bef (befs arr.toList) r.i r'.i = true ∨ bef (befs arr.toList) r'.i r.i = true := fun r' hr' hne hd =>
    hC.pairs r.i r'.i r.o r'.o t hro (hP.opers r' hr') (fun e => hne e.symm) hd ht
  have hpost : ∀ r' ∈ post.filter fun r => isL listed r.i, r'.o.dst ≠ some t := by
    intro r' hr' hd
    rw [List.mem_filter] at hr'
    obtain ⟨hne, hbf⟩ := hb2 r' hr'.1
    have hm : r' ∈ ev := by rw [hev]; simp [hr'.1]
    rcases hcmp r' hm hne hd with h | h
    · rw [hbf] at h; cases h
    · have := hP.closed r'.i r.i (hP.lt hm) (hP.lt (by rw [hev]; simp)) hr'.2 h
      rw [hun] at this; cases this
  refine ⟨?_, hpost⟩
  rw [hev, List.filter_append, look_append, look_none hpost]
  dsimp only
  rw [List.filter_cons_of_neg (by simp [hun])]
  refine look_filter fun r' hr' hd => ?_
  obtain ⟨hne, hbf⟩ := hb1 r' hr'
  have hm : r' ∈ ev := by rw [hev]; simp [hr']
  rcases hcmp r' hm hne hd with h | h
  · exact hw r'.i (hP.lt hm) h
  · rw [hbf] at h; cases h

/-- an operation that was evaluated is run -/
theorem PInv.list (hC : Checks E nt arr ord) (hP : PInv Y E L nt rc tm arr ord k ρ₀ h₀ w₀ a₀ listed a w ev todo ρ G seen) {post pre : List Rc} {r : Rc} (hev : ev = post ++ r :: pre) (hun : isL listed r.i = false) (hw : Waits arr listed r.i)
    {ρ' : Rho} {w' : World} {cv : Value} (hle : ρ.le ρ') (hv : conc Y ρ' r.v = some cv) (hrel : Rel Y E ρ' (G.hide (unex (listed.setIfInBounds r.i true) ev)) w') (hfrm : Frm ρ₀ h₀ w₀ w')
    (hmade : ∀ b M, ρ₀ b = none → ρ' b = some M → w₀.heap.size ≤ M.blk ∨ ∃ c o N, h₀.get c = some o ∧ wr h₀ c o = true ∧ ρ₀ c = some N ∧ N.blk = M.blk) (hsame : ∀ b, b < h₀.next → ρ' b = ρ₀ b)
    (hnone : ∀ r' ∈ ev, isL (listed.setIfInBounds r.i true) r'.i = false → ∀ b, r'.blk = some b → ρ' b = none) :
    PInv Y E L nt rc tm arr ord k ρ₀ h₀ w₀ a₀ (listed.setIfInBounds r.i true) (a.put r.o.dst cv) w' ev todo ρ' G seen := by
  obtain ⟨hb1, hb2⟩ := hP.before hC hev
  have hmem : r ∈ ev := by rw [hev]; simp
  have hro := hP.opers r hmem
  refine ⟨hP.split, hP.opers, hP.run, ?_, ?_, closed_set hP.closed hun hw, Rho.le_trans hP.le hle, hrel, hfrm, hP.keeps, hmade, hsame, hnone, hP.blkLt, hP.uniq, ?_, ?_, by rw [put_size]; exact hP.size, by rw [put_defers]; exact hP.defers⟩
  · intro j hj
    rw [isL_set hun, if_neg]
    · exact hP.unl j hj
    · have ho := hC.ordk
      rw [hP.split] at ho
      have := (ordOk_pair ho (x := r.i) (y := j) (by simp; exact ⟨r, hmem, rfl⟩) hj).1
      exact fun e => this e.symm
  · intro r' hr' hb
    exact isL_mono hun (hP.bigs r' hr' hb)
  · have e : ev.filter (fun r' => isL (listed.setIfInBounds r.i true) r'.i) = (post.filter fun r' => isL listed r'.i) ++ r :: (pre.filter fun r' => isL listed r'.i) := by
      rw [hev, List.filter_append, List.filter_cons_of_pos (by rw [isL_set hun, if_pos rfl])]
      congr 1
      · refine List.filter_congr fun r' hr' => ?_
        rw [isL_set hun, if_neg (hb2 r' hr').1]
      · congr 1
        refine List.filter_congr fun r' hr' => ?_
        rw [isL_set hun, if_neg (hb1 r' hr').1]
    have e0 : ev.filter (fun r' => isL listed r'.i) = (post.filter fun r' => isL listed r'.i) ++ (pre.filter fun r' => isL listed r'.i) := by
      rw [hev, List.filter_append, List.filter_cons_of_neg (by simp [hun])]
    have hregs := hP.regs.mono hle
    rw [e0] at hregs
    rw [e]
    refine hregs.insert hv fun d hd => ⟨?_, (hP.agree hC hev hun hw (.inr hd)).2⟩
    rw [hP.size]
    exact hC.dsts r.i r.o d hro hd
  · intro post' r' pre' he hl
    refine hP.facts post' r' pre' he ?_
    rw [isL_set hun] at hl
    split at hl
    · cases hl
    · exact hl

theorem small_not_defer {o : Oper} (hb : isBig (cOp E o.op) = false) : ∀ c, o.op ≠ .defer c := by
  intro c h
  rw [h] at hb
  cases hc : c.callee <;> (simp only [cOp, hc] at hb; cases hb)

/-- an operation that was evaluated is run -/
theorem PInv.runSmall (hE : EnvOk Y E) (hC : Checks E nt arr ord) (hng : L.ng = E.ng) (hg₀ : Glob E ρ₀) (hP : PInv Y E L nt rc tm arr ord k ρ₀ h₀ w₀ a₀ listed a w ev todo ρ G seen) {post pre : List Rc} {r : Rc} (hev : ev = post ++ r :: pre) (hun : isL listed r.i = false) (hw : Waits arr listed r.i)
    {ro : Option Nat} {n : Nat} {Q : Exit → Act → World → Prop} {K : Act → World → Prop}
    (hK : ∀ a' w' ρ', PInv Y E L nt rc tm arr ord k ρ₀ h₀ w₀ a₀ (listed.setIfInBounds r.i true) a' w' ev todo ρ' G seen → K a' w') : wpOpIn (fence ro) n E.P arr Q r.i K a w := by
  have hmem : r ∈ ev := by rw [hev]; simp
  have hro := hP.opers r hmem
  have hglob := hg₀.mono hP.le
  have hag : ∀ t, t ∈ looks arr.toList r.o → look t (ev.filter fun r => isL listed r.i) = look t pre := fun t ht => (hP.agree hC hev hun hw (.inl ht)).1
  -- nothing changes but the frame
  have stay : ∀ cv, r.blk = none → conc Y ρ r.v = some cv → PInv Y E L nt rc tm arr ord k ρ₀ h₀ w₀ a₀ (listed.setIfInBounds r.i true) (a.put r.o.dst cv) w ev todo ρ G seen := by
    intro cv hblk hv
    refine hP.list hC hev hun hw (Rho.le_refl _) hv ?_ hP.frm hP.made hP.same ?_
    · refine hP.rel.sub (fun b o hb => ?_) (Nat.le_refl _)
      rw [H.get_hide] at hb ⊢
      split at hb
      · cases hb
      · rename_i hU
        rw [if_neg]
        · exact hb
        · intro hm
          obtain ⟨r', hr', h1, h2⟩ := mem_unex.1 hm
          refine hU (mem_unex.2 ⟨r', hr', ?_, h2⟩)
          rw [isL_set hun, if_neg]
          · exact h1
          · intro e
            have := hP.opers r' hr'
            -- the same index: the same record
            by_cases hrr : r' ∈ post
            · exact ((hP.before hC hev).2 r' hrr).1 e
            · by_cases hrp : r' ∈ pre
              · exact ((hP.before hC hev).1 r' hrp).1 e
              · rw [hev] at hr'
                rcases List.mem_append.1 hr' with h | h
                · exact hrr h
                · rcases List.mem_cons.1 h with h | h
                  · rw [h, hblk] at h2; cases h2
                  · exact hrp h
    · intro r' hr' hl b hb
      refine hP.nob r' hr' ?_ b hb
      rw [isL_set hun] at hl
      split at hl
      · cases hl
      · exact hl
  unfold wpOpIn
  rw [hro]
  dsimp only
  rcases hP.facts post r pre hev hun with ⟨hg, hv, hblk⟩ | ⟨hg, S, hS, hF⟩
  · have hwt := hg.wanted hng hglob hP.regs hag
    rw [hwt, if_neg (by simp)]
    exact ⟨fun _ _ => trivial, hK _ _ _ (stay undef hblk (by rw [hv]; rfl))⟩
  · have hwt := hg.wanted hng hglob hP.regs hag
    rw [hwt, if_pos rfl]
    refine ⟨fun _ _ => trivial, ?_⟩
    have hnd : ∀ c, r.o.op ≠ .defer c := by
      intro c h
      rw [h] at hS
      cases hc : c.callee <;> (simp only [cOp, hc] at hS; exact hS.elim)
    rw [Oper.semAt_eq _ _ _ hnd]
    have hex := hS.exec (Y := Y) (ρ := ρ) (w := w) (a := a) hE hng hP.regs hglob fun t ht => hag t (looks_operand ht)
    cases S with
    | val v =>
      obtain ⟨cv, h1, h2⟩ := hex
      obtain ⟨g1, g2⟩ := hF
      rw [h1]
      exact hK _ _ _ (stay cv g2 (by rw [g1]; exact h2))
    | read bl f =>
      obtain ⟨h1, h2⟩ := hex
      obtain ⟨g1, g2, g3⟩ := hF
      have hf : f (G.hide (unex listed ev)) = some r.v := by
        rw [Small.local_ hE hS G _ fun b hb => ?_]
        · exact g1
        · rw [H.get_hide, if_neg]
          intro hm
          obtain ⟨r', hr', k1, k2⟩ := mem_unex.1 hm
          obtain ⟨M, hM⟩ := h1 b hb
          rw [hP.nob r' hr' k1 b k2] at hM
          cases hM
      obtain ⟨cv, h3, h4⟩ := h2 _ _ hP.rel hf
      rw [h3]
      exact hK _ _ _ (stay cv g2 h4)
    | new ob mk =>
      obtain ⟨s, h1, obj, cv, h2, h3, h4⟩ := hex
      obtain ⟨b, g1, g2, g3, g4⟩ := hF
      rw [h1, run_v h2]
      have hbn : ρ b = none := hP.nob r hmem hun b g2
      have hle : ρ.le (ρ.set b ⟨w.heap.size, 0, 0⟩) := Rho.le_set hbn _
      have hother : ∀ r' ∈ ev, r'.i ≠ r.i → ∀ c, r'.blk = some c → c ≠ b := fun r' hr' hne c hc e => hne (hP.uniq r' hr' r hmem b (e ▸ hc) g2)
      have hb0 := (hP.blkLt r hmem b g2).1
      refine hK _ _ _ (hP.list hC hev hun hw hle (by rw [g1]; exact h4 _ b hle (Rho.set_same _ _ _)) ?_ ?_ ?_ ?_ ?_)
      · refine hP.rel.unhide (o := ob) ?_ hbn g4 ?_ (h3 _ hle)
        · intro c
          rw [mem_unex, mem_unex]
          constructor
          · rintro ⟨r', hr', k1, k2⟩
            by_cases hne : r'.i = r.i
            · right
              by_cases hrr : r' ∈ post
              · exact absurd hne ((hP.before hC hev).2 r' hrr).1
              · by_cases hrp : r' ∈ pre
                · exact absurd hne ((hP.before hC hev).1 r' hrp).1
                · rw [hev] at hr'
                  rcases List.mem_append.1 hr' with h | h
                  · exact absurd h hrr
                  · rcases List.mem_cons.1 h with h | h
                    · rw [h, g2] at k2; exact (Option.some.inj k2).symm
                    · exact absurd h hrp
            · left
              exact ⟨r', hr', by rw [isL_set hun, if_neg hne]; exact k1, k2⟩
          · rintro (⟨r', hr', k1, k2⟩ | rfl)
            · refine ⟨r', hr', ?_, k2⟩
              rw [isL_set hun] at k1
              split at k1
              · cases k1
              · exact k1
            · exact ⟨r, hmem, hun, g2⟩
        · intro p hp
          have := H.get_raw hp
          rw [g3] at this
          exact (Option.some.inj this).symm
      · refine ⟨hP.frm.os, hP.frm.tape, hP.frm.output, ?_, fun c hc hno => ?_⟩
        · have := hP.frm.size
          simp; omega
        · rw [RowKit.Below.heap_alloc _ _ _ (Nat.lt_of_lt_of_le hc hP.frm.size)]
          exact hP.frm.block c hc hno
      · intro c M h0 hM
        by_cases hcb : c = b
        · subst hcb
          rw [Rho.set_same] at hM
          cases hM
          exact .inl hP.frm.size
        · rw [Rho.set_other _ hcb] at hM
          exact hP.made c M h0 hM
      · intro c hc
        rw [Rho.set_other _ (by omega)]
        exact hP.same c hc
      · intro r' hr' hl c hc
        rw [isL_set hun] at hl
        split at hl
        · cases hl
        · rename_i hne
          rw [Rho.set_other _ (hother r' hr' hne c hc)]
          exact hP.nob r' hr' hl c hc

end
end
end Go.AE
