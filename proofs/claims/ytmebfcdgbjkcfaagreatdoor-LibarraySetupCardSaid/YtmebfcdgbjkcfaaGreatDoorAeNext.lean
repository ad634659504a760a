/-
  copy; the next entry of a range.
-/
import Derived.Test.YtmebfcdgbjkcfaaGreatDoorAeAppend
namespace Go.AE

section
variable {Y : Sy} {E : Env} {ρ : Rho} {h : H} {w : World}

theorem copy_ok (hE : EnvOk Y E) (hr : Rel Y E ρ h w) {ts : List TypeId} {args : List AV} {cargs : List Value} {v : AV} {h' : H} (ty : TypeId) (hl : copyA E h ts args = some (v, h')) (ha : concs Y ρ args = some cargs) :
    Acts Y E ρ h w (Builtin.copy_ ts.toArray ty cargs.toArray) v h' := by
  unfold copyA at hl
  split at hl
  · rename_i st tr d x
    obtain ⟨cd, cr, hcd, hcr, rfl⟩ := concs_cons.1 ha
    obtain ⟨cx, cr', hcx, hcr', rfl⟩ := concs_cons.1 hcr
    rw [concs_nil] at hcr'
    subst hcr'
    split at hl
    · rename_i elem hu
      split at hl
      · cases hl
      · rename_i size hsz
        split at hl
        · cases hl
        · rename_i n new hsrc
          obtain ⟨news, hs, hnew, hnc, hnl⟩ := src_ok hr hsrc hcx
          obtain ⟨l1, l2, l3⟩ := hs w rfl
          have key : ∀ (b o len cap : Nat) (L : Loc), ρ b = some L → cd = .slice (some (L.addr o)) len cap →
              (forceN (match Nat.ble n len with | true => n | false => len) fun k => match storeCellsA h b o (new.take (Nat.mul k size)) with | some h' => some (AV.i64 (.ofNat k), h') | none => none) = some (v, h') →
              Acts Y E ρ h w (Builtin.copy_ (st :: tr).toArray ty [cd, cx].toArray) v h' := by
            intro b o len cap L hL hcd hl
            subst hcd
            rw [forceN_eq] at hl
            have hmin : (match Nat.ble n len with | true => n | false => len) = Nat.min n len := by
              cases hb : Nat.ble n len with
              | true => exact (Nat.min_eq_left (Nat.le_of_ble_eq_true hb)).symm
              | false =>
                have : ¬ n ≤ len := fun h => by rw [Nat.ble_eq_true_of_le h] at hb; cases hb
                have h2 : len ≤ n := by omega
                exact (Nat.min_eq_right h2).symm
            rw [hmin] at hl
            cases hst : storeCellsA h b o (new.take (Nat.mul (Nat.min n len) size)) with
            | none => rw [hst] at hl; cases hl
            | some h1 =>
              rw [hst] at hl
              cases hl
              have hnt := concs_take hnew (Nat.min n len * size)
              obtain ⟨L', w', k1, k2, k3, _⟩ := storeCells_sound (P := E.P) hr hst hnt (by
                rw [List.all_eq_true] at hnc ⊢
                exact fun x hx => hnc x (List.mem_of_mem_take hx))
              rw [hL] at k1
              cases k1
              have hf := l3 (Nat.min n len) (Nat.min_le_left _ _)
              refine ⟨_, w', ρ, ?_, k3, rfl⟩
              simp only [Builtin.copy_, List.getElem?_toArray, List.getElem?_cons_zero, List.getElem?_cons_succ, Sem.run_bind, run_und hE hu, Result.andThen_ok, l1, run_size hE hsz, hf, k2, Sem.run_pure]
              rfl
          split at hl
          · cases hcd
            cases hl
            refine ⟨_, w, ρ, ?_, Goes.refl hr, rfl⟩
            have h0 : Nat.min n 0 = 0 := Nat.min_eq_right (Nat.zero_le _)
            simp only [Builtin.copy_, List.getElem?_toArray, List.getElem?_cons_zero, List.getElem?_cons_succ, Sem.run_bind, run_und hE hu, Result.andThen_ok, l1, run_size hE hsz, h0, l3 0 (Nat.zero_le _), Sem.run_pure]
            rfl
          · rename_i b o len cap
            obtain ⟨L, hL, rfl⟩ := conc_slice hcd
            exact key b o len _ L hL rfl hl
          · rename_i b o len pre
            obtain ⟨L, hL, rfl⟩ := conc_gslice hcd
            exact key b o len _ L hL rfl hl
          · cases hl
    · cases hl
  · cases hl

theorem decode_ascii {s : List Nat} {pos c : Nat} (hc : s[pos]? = some c) (hlt : c < 128) : Utf8.decode (bytesV s) pos = (c, 1) := by
  have hp : pos < s.length := by
    rcases Nat.lt_or_ge pos s.length with h' | h'
    · exact h'
    · rw [List.getElem?_eq_none h'] at hc; cases hc
  have h0 : ((bytesV s).get! (pos + 0)).toNat = c := by
    have h1 : (bytesV s).data[pos]? = some (UInt8.ofNat c) := by simp [bytesV, hc]
    have h2 : (bytesV s).get! pos = UInt8.ofNat c := by
      show (bytesV s).data[pos]! = _
      rw [Array.getElem!_eq_getD, Array.getD_eq_getD_getElem?, h1]
      rfl
    rw [Nat.add_zero, h2, toNat_ofNat (by omega)]
  unfold Utf8.decode
  simp only [h0]
  rw [if_pos (by omega)]

theorem EntRel.filter {p : Nat → Bool} : ∀ {es : List AEnt} {l : List MapEntry}, EntRel Y ρ es l → EntRel Y ρ (es.filter fun e => p e.born) (l.filter fun e => p e.born)
  | [], [], _ => trivial
  | a :: es, e :: l, ⟨h1, h2, h3, h4⟩ => by
    simp only [List.filter_cons, h3]
    split
    · exact ⟨h1, h2, h3, h4.filter⟩
    · exact h4.filter
  | [], _ :: _, h => h.elim
  | _ :: _, [], h => h.elim

theorem leftEnts_eq (seen : List Nat) : ∀ es, leftEnts seen es = es.filter fun e => !memN seen e.born
  | [] => rfl
  | e :: r => by
    simp only [leftEnts, List.filter_cons]
    cases hm : memN seen e.born with
    | true => simp [leftEnts_eq seen r]
    | false => simp [leftEnts_eq seen r]

theorem allBorn_rel {last : Nat} : ∀ {es : List AEnt} {l : List MapEntry}, EntRel Y ρ es l → allBorn last es = l.all fun e => decide (e.born ≥ last)
  | [], [], _ => rfl
  | a :: es, e :: l, ⟨h1, h2, h3, h4⟩ => by
    simp only [allBorn, List.all_cons, ← h3]
    cases hb : Nat.ble last a.born with
    | true => simp [Nat.le_of_ble_eq_true hb, allBorn_rel h4]
    | false =>
      have : ¬ last ≤ a.born := fun h => by rw [Nat.ble_eq_true_of_le h] at hb; cases hb
      simp [this]
  | [], _ :: _, h => h.elim
  | _ :: _, [], h => h.elim

theorem memN_contains (l : List Nat) (n : Nat) : memN l n = l.toArray.contains n := by
  rw [List.contains_toArray]
  cases hm : memN l n with
  | true => have := (memN_iff l n).1 hm; simp [this]
  | false =>
    have : n ∉ l := fun h => by rw [(memN_iff l n).2 h] at hm; cases hm
    simp [this]

theorem next_ok (hr : Rel Y E ρ h w) {it v : AV} {cit : Value} {isS : Bool} {ty : TypeId} {h' : H} (hl : nextA h it isS = some (v, h')) (hit : conc Y ρ it = some cit) : Acts Y E ρ h w (Instr.next cit isS ty) v h' := by
  unfold nextA at hl
  split at hl
  · rename_i r
    obtain ⟨L, hL, rfl⟩ := conc_ptr hit
    split at hl
    · rename_i s pos hb
      obtain ⟨L', ob, h1, h2, hsh, hok, rfl⟩ := hr.obj r _ hb rfl
      rw [hL] at h1
      cases h1
      have hgo : (getObj L.blk).run E.P w = .ok (.stringIter (bytesV s) pos) w := run_getObj' h2 (fun _ _ _ h => by cases h)
      have ha : L.addr 0 = ⟨L.blk, 0, none⟩ := by simp [Loc.addr, hsh]
      split at hl
      · rename_i hc
        cases hl
        refine ⟨.tuple #[.bool false], w, ρ, ?_, Goes.refl hr, rfl⟩
        have hge : ¬ pos < (bytesV s).size := by
          rw [bytesV_size]
          intro hlt
          rw [List.getElem?_eq_getElem hlt] at hc
          cases hc
        rw [ha]
        simp [Instr.next, hgo, hge]
      · rename_i c hc
        split at hl
        · cases hl
        · rename_i hlt
          have hlt' := (blt_iff _ _).1 hlt
          simp only [forceN_eq] at hl
          split at hl
          · rename_i h1 hu
            cases hl
            have hp : pos < (bytesV s).size := by
              rw [bytesV_size]
              rcases Nat.lt_or_ge pos s.length with h' | h'
              · exact h'
              · rw [List.getElem?_eq_none h'] at hc; cases hc
            have hst : ∀ o', (setObj L.blk o').run E.P w = .ok () (putW w L.blk o') := fun o' => run_setObj' h2 (fun _ _ _ h => by cases h)
            refine ⟨.tuple #[.bool true, goInt pos, .int .i32 c], putW w L.blk (.stringIter (bytesV s) (pos + 1)), ρ, ?_, Goes.put hr hb rfl hL hu ⟨hsh, hok, rfl⟩, rfl⟩
            rw [ha]
            simp [Instr.next, hgo, hp, decode_ascii hc hlt', hst]
          · cases hl
    · rename_i si se la hb
      cases hl
      obtain ⟨L', ob, h1, h2, hsh, m', rfl, hm⟩ := hr.obj r _ hb rfl
      rw [hL] at h1
      cases h1
      have hm' : m' = none := hm
      subst hm'
      have hgo : (getObj L.blk).run E.P w = .ok (.mapIter none si se.toArray la) w := run_getObj' h2 (fun _ _ _ h => by cases h)
      have ha : L.addr 0 = ⟨L.blk, 0, none⟩ := by simp [Loc.addr, hsh]
      refine ⟨.tuple #[.bool false], w, ρ, ?_, Goes.refl hr, rfl⟩
      rw [ha]
      simp [Instr.next, hgo]
    · rename_i m si se la hb
      obtain ⟨L', ob, h1, h2, hsh, m', rfl, hm⟩ := hr.obj r _ hb rfl
      rw [hL] at h1
      cases h1
      obtain ⟨M, hM, rfl⟩ : ∃ M, ρ m = some M ∧ m' = some M.blk := hm
      have hgo : (getObj L.blk).run E.P w = .ok (.mapIter (some M.blk) si se.toArray la) w := run_getObj' h2 (fun _ _ _ h => by cases h)
      have hst : ∀ o', (setObj L.blk o').run E.P w = .ok () (putW w L.blk o') := fun o' => run_setObj' h2 (fun _ _ _ h => by cases h)
      have ha : L.addr 0 = ⟨L.blk, 0, none⟩ := by simp [Loc.addr, hsh]
      split at hl
      · rename_i es clock hmb
        obtain ⟨M', l, k1, k2, k3⟩ := hr.mapAt hmb
        rw [hM] at k1
        cases k1
        have hgm : (getObj M.blk).run E.P w = .ok (.map l clock) w := run_getObj' k2 (fun _ _ _ h => by cases h)
        rw [Option.bind_eq_some_iff] at hl
        obtain ⟨_, hguard, hl⟩ := hl
        have hno : ¬ ((!se.toArray.isEmpty && !l.isEmpty && l.all fun e => decide (e.born ≥ la)) = true) := by
          have hall : (l.all fun e => decide (e.born ≥ la)) = allBorn la es := by
            rw [allBorn_rel k3, Array.all_toList]
          rw [hall]
          split at hguard
          · split at hguard
            · cases hguard
            · rename_i hf; rw [hf]; simp
          · rename_i hne
            cases se with
            | nil => simp
            | cons a se =>
              cases es with
              | nil =>
                have := k3.length
                simp only [List.length_nil, Array.length_toList] at this
                have : l = #[] := Array.eq_empty_of_size_eq_zero this
                subst this
                simp
              | cons e es => exact (hne _ _ _ _ rfl rfl).elim
        have hleft : EntRel Y ρ (leftEnts se es) ((l.filter fun e => !se.toArray.contains e.born).toList) := by
          rw [leftEnts_eq, Array.toList_filter]
          have := EntRel.filter (p := fun n => !memN se n) k3
          simpa only [memN_contains] using this
        split at hl
        · rename_i hle
          cases hl
          rw [hle] at hleft
          have hnil : (l.filter fun e => !se.toArray.contains e.born) = #[] := by
            cases hq : (l.filter fun e => !se.toArray.contains e.born).toList with
            | nil => exact Array.toList_eq_nil_iff.1 hq
            | cons _ _ => rw [hq] at hleft; exact hleft.elim
          refine ⟨.tuple #[.bool false], w, ρ, ?_, Goes.refl hr, rfl⟩
          rw [ha]
          simp only [Instr.next, Sem.run_bind, hgo, Result.andThen_ok, hgm, Sem.run_ite, hno, hnil]
          simp [Question.forced]
        · rename_i e hle
          rw [hle] at hleft
          split at hl
          · rename_i hlt
            have hlt' := (blt_iff _ _).1 hlt
            split at hl
            · rename_i h1 hu
              cases hl
              obtain ⟨e', hq⟩ : ∃ e', (l.filter fun e => !se.toArray.contains e.born) = #[e'] := by
                cases hq : (l.filter fun e => !se.toArray.contains e.born).toList with
                | nil => rw [hq] at hleft; exact hleft.elim
                | cons e' r' =>
                  rw [hq] at hleft
                  cases r' with
                  | nil => exact ⟨e', by apply Array.ext'; simpa using hq⟩
                  | cons _ _ => exact hleft.2.2.2.elim
              rw [hq] at hleft
              obtain ⟨g1, g2, g3, _⟩ := hleft
              refine ⟨.tuple #[.bool true, e'.key, e'.val], putW w L.blk (.mapIter (some M.blk) si (se.toArray.push e'.born) clock), ρ, ?_, Goes.put hr hb rfl hL hu ⟨hsh, some M.blk, ?_, M, hM, rfl⟩, by simp [conc, concs, g1, g2]⟩
              · rw [ha]
                have hb' : e'.born < si := by rw [← g3]; exact hlt'
                have hb2 : ¬ (si ≤ e'.born) := by omega
                simp only [Instr.next, Sem.run_bind, hgo, Result.andThen_ok, hgm, Sem.run_ite, hno, hq]
                simp [Question.forced, hb', hb2, hst]
              · rw [g3]; simp
            · cases hl
          · cases hl
        · cases hl
      · cases hl
    · cases hl
  · cases hl

theorem outsA_get {r m since clock : Nat} {seen : List Nat} : ∀ {l : List AEnt} {o : List (AV × H)}, outsA h r m since seen clock l = some o → ∀ (i : Nat) e, l[i]? = some e → e.born < since ∧ ∃ h', h.upd r (.miter (some m) since (seen ++ [e.born]) clock) = some h' ∧ (AV.tuple [.bool true, e.key, e.val], h') ∈ o
  | [], _, _, i, e, hi => by simp at hi
  | a :: l, o, ho, i, e, hi => by
    simp only [outsA] at ho
    split at ho
    · cases ho
    · rename_i hlt
      split at ho
      · rename_i h' o' hu ho'
        cases ho
        cases i with
        | zero =>
          simp at hi
          subst hi
          exact ⟨(blt_iff _ _).1 hlt, h', hu, by simp⟩
        | succ i =>
          obtain ⟨h1, h2, h3, h4⟩ := outsA_get ho' i e (by simpa using hi)
          exact ⟨h1, h2, h3, by simp [h4]⟩
      · cases ho

theorem EntRel.at_ : ∀ {es : List AEnt} {l : List MapEntry}, EntRel Y ρ es l → ∀ (i : Nat) e, l[i]? = some e → ∃ a, es[i]? = some a ∧ conc Y ρ a.key = some e.key ∧ conc Y ρ a.val = some e.val ∧ a.born = e.born
  | [], [], _, i, e, h => by simp at h
  | a :: es, e :: l, ⟨h1, h2, h3, h4⟩, i, e', h => by
    cases i with
    | zero => simp at h; subst h; exact ⟨a, rfl, h1, h2, h3⟩
    | succ i => obtain ⟨a', k⟩ := EntRel.at_ h4 i e' (by simpa using h); exact ⟨a', by simpa using k⟩
  | [], _ :: _, h, _, _, _ => h.elim
  | _ :: _, [], h, _, _, _ => h.elim

theorem nextMany_ok (hr : Rel Y E ρ h w) {it : AV} {ci : Value} {o : List (AV × H)} (ty : TypeId) (hl : nextMany h it = some o) (hi : conc Y ρ it = some ci) : ∃ x ∈ o, Acts Y E ρ h w (Instr.next ci false ty) x.1 x.2 := by
  unfold nextMany at hl
  split at hl
  · rename_i r
    obtain ⟨L, hL, rfl⟩ := conc_ptr hi
    split at hl
    · rename_i m si se la hb
      obtain ⟨L', ob, h1, h2, hsh, m', rfl, hm⟩ := hr.obj r _ hb rfl
      rw [hL] at h1
      cases h1
      obtain ⟨M, hM, rfl⟩ : ∃ M, ρ m = some M ∧ m' = some M.blk := hm
      have hgo : (getObj L.blk).run E.P w = .ok (.mapIter (some M.blk) si se.toArray la) w := run_getObj' h2 (fun _ _ _ h => by cases h)
      have ha : L.addr 0 = ⟨L.blk, 0, none⟩ := by simp [Loc.addr, hsh]
      split at hl
      · rename_i es clock hmb
        obtain ⟨M', l, k1, k2, k3⟩ := hr.mapAt hmb
        rw [hM] at k1
        cases k1
        have hgm : (getObj M.blk).run E.P w = .ok (.map l clock) w := run_getObj' k2 (fun _ _ _ h => by cases h)
        rw [Option.bind_eq_some_iff] at hl
        obtain ⟨_, hguard, hl⟩ := hl
        have hno : ¬ ((!se.toArray.isEmpty && !l.isEmpty && l.all fun e => decide (e.born ≥ la)) = true) := by
          have hall : (l.all fun e => decide (e.born ≥ la)) = allBorn la es := by
            rw [allBorn_rel k3, Array.all_toList]
          rw [hall]
          split at hguard
          · split at hguard
            · cases hguard
            · rename_i hf; rw [hf]; simp
          · rename_i hne
            cases se with
            | nil => simp
            | cons a se =>
              cases es with
              | nil =>
                have := k3.length
                simp only [List.length_nil, Array.length_toList] at this
                have : l = #[] := Array.eq_empty_of_size_eq_zero this
                subst this
                simp
              | cons e es => exact (hne _ _ _ _ rfl rfl).elim
        have hleft : EntRel Y ρ (leftEnts se es) ((l.filter fun e => !se.toArray.contains e.born).toList) := by
          rw [leftEnts_eq, Array.toList_filter]
          have := EntRel.filter (p := fun n => !memN se n) k3
          simpa only [memN_contains] using this
        split at hl
        · rename_i e1 e2 rest hle
          rw [hle] at hleft
          have hlen := hleft.length
          generalize hq : (l.filter fun e => !se.toArray.contains e.born) = left at hleft hlen
          have hsz : 2 ≤ left.size := by
            rw [← Array.length_toList, hlen]
            simp
          have hborn : ∀ e ∈ left, e.born < si := by
            intro e he
            obtain ⟨i, hi⟩ := List.mem_iff_getElem?.1 (Array.mem_toList_iff.2 he)
            obtain ⟨a, a1, _, _, a4⟩ := hleft.at_ i e hi
            rw [← a4]
            exact (outsA_get hl i a a1).1
          have hold : (left.filter fun e => decide (e.born < si)) = left := by
            rw [Array.filter_eq_self]
            intro e he
            simpa using hborn e he
          have hnew : (left.filter fun e => decide (e.born ≥ si)) = #[] := by
            rw [Array.filter_eq_empty_iff]
            intro e he
            have := hborn e he
            simp
            omega
          have hne : left.isEmpty = false := by
            cases hh : left.isEmpty with
            | false => rfl
            | true => rw [Array.isEmpty_iff] at hh; rw [hh] at hsz; simp at hsz
          -- which one is drawn
          have hlt : (w.tape w.drawn (.mapNext left.size)) % left.size < left.size := Nat.mod_lt _ (by omega)
          generalize hj : (w.tape w.drawn (.mapNext left.size)) % left.size = j at hlt
          have hej : left[j]? = some left[j] := Array.getElem?_eq_getElem hlt
          obtain ⟨a, a1, a2, a3, a4⟩ := hleft.at_ j left[j] (by rw [Array.getElem?_toList]; exact hej)
          obtain ⟨_, h', hu, hmem⟩ := outsA_get hl j a a1
          have hr' : Rel Y E ρ h w.drew := hr.of_heap rfl
          have hst : ∀ o', (setObj L.blk o').run E.P w.drew = .ok () (putW w.drew L.blk o') := fun o' => run_setObj' (w := w.drew) h2 (fun _ _ _ h => by cases h)
          refine ⟨_, hmem, .tuple #[.bool true, left[j].key, left[j].val], putW w.drew L.blk (.mapIter (some M.blk) si (se.toArray.push left[j].born) clock), ρ, ?_,
            Goes.trans hr (Goes.of_drawn (w' := w.drew) hr rfl rfl rfl rfl) (Goes.put hr' hb rfl hL hu ⟨hsh, some M.blk, ?_, M, hM, rfl⟩), by simp [conc, concs, a2, a3]⟩
          · rw [ha]
            have hforced : (Question.mapNext left.size).forced = false := by
              simp [Question.forced]; omega
            have hcand : ((if left.isEmpty = true then #[none] else #[]) ++ (left ++ #[]).map some : Array (Option MapEntry)) = left.map some := by
              rw [hne]
              simp
            simp only [Instr.next, Sem.run_bind, hgo, Result.andThen_ok, hgm, Sem.run_ite, hno, hq, hold, hnew, hcand, Array.size_map]
            have hch : (choose (.mapNext left.size)).run E.P w = .ok j w.drew := by
              show (if (Question.mapNext left.size).forced = true then Result.ok 0 w else Result.ok ((Question.mapNext left.size).cut (w.tape w.drawn (.mapNext left.size))) w.drew) = .ok j w.drew
              rw [hforced]
              simp [Question.cut, hj]
            simp [hch, hlt, hst]
          · rw [a4]; simp
        · cases hl
      · cases hl
    · cases hl
  · cases hl

theorem allK_mem {l : List (AV × H)} {k : KV} (hk : allK l k = true) {x : AV × H} (hx : x ∈ l) : k x.1 x.2 = true := by
  induction l with
  | nil => cases hx
  | cons a l ih =>
    have e : allK (a :: l) k = Bool.rec (motive := fun _ => Bool) false (allK l k) (k a.1 a.2) := rfl
    rw [e] at hk
    cases ha : k a.1 a.2 with
    | false => rw [ha] at hk; cases hk
    | true =>
      rw [ha] at hk
      rcases List.mem_cons.1 hx with rfl | hx
      · exact ha
      · exact ih hk hx

theorem lastN_eq : ∀ l : List Nat, lastN l = l.getLast?
  | [] => rfl
  | [a] => rfl
  | _ :: b :: r => by
    rw [List.getLast?_cons_cons]
    exact lastN_eq (b :: r)

theorem findBorn_ok {s : Nat} : ∀ {es : List AEnt} {l : List MapEntry} {e : AEnt}, EntRel Y ρ es l → findBorn s es = some e → ∃ x, l.find? (fun y => y.born == s) = some x ∧ conc Y ρ e.key = some x.key ∧ conc Y ρ e.val = some x.val
  | [], _, _, _, h => by cases h
  | _ :: _, [], _, h, _ => h.elim
  | a :: r, x :: l, e, ⟨h1, h2, h3, h4⟩, h => by
    simp only [findBorn] at h
    cases hb : Nat.beq a.born s with
    | true =>
      rw [hb] at h
      cases h
      have := Nat.eq_of_beq_eq_true hb
      refine ⟨x, ?_, h1, h2⟩
      rw [List.find?_cons_of_pos (by simp [← h3, this])]
    | false =>
      rw [hb] at h
      obtain ⟨y, k1, k2⟩ := findBorn_ok h4 h
      have := Nat.ne_of_beq_eq_false hb
      refine ⟨y, ?_, k2⟩
      rw [List.find?_cons_of_neg (by simp [← h3, this])]
      exact k1

theorem entry_ok (hr : Rel Y E ρ h w) {it v : AV} {cit : Value} (hl : entryA h it = some v) (hc : conc Y ρ it = some cit) : Yields Y E ρ w (Instr.entry cit) v := by
  unfold entryA at hl
  split at hl
  · rename_i r
    obtain ⟨L, hL, rfl⟩ := conc_ptr hc
    split at hl
    · rename_i m si se st hb
      obtain ⟨L', ob, h1, h2, hsh, m', rfl, hm⟩ := hr.obj r _ hb rfl
      rw [hL] at h1
      cases h1
      obtain ⟨M, hM, rfl⟩ : ∃ M, ρ m = some M ∧ m' = some M.blk := hm
      split at hl
      · rename_i stamp es clock hlast hmb
        obtain ⟨M', l, k1, k2, k3⟩ := hr.mapAt hmb
        rw [hM] at k1
        cases k1
        split at hl
        · rename_i e hck hf
          cases hl
          have hck' := Nat.eq_of_beq_eq_true hck
          subst hck'
          obtain ⟨x, f1, f2, f3⟩ := findBorn_ok k3 hf
          have hgo : (getObj L.blk).run E.P w = .ok (.mapIter (some M.blk) si se.toArray clock) w := run_getObj' h2 (fun _ _ _ h => by cases h)
          have hgm : (getObj M.blk).run E.P w = .ok (.map l clock) w := run_getObj' k2 (fun _ _ _ h => by cases h)
          have ha : L.addr 0 = ⟨L.blk, 0, none⟩ := by simp [Loc.addr, hsh]
          have hback : se.toArray.back? = some stamp := by rw [List.back?_toArray, ← lastN_eq, hlast]
          have hfind : l.find? (fun y => y.born == stamp) = some x := by rw [← Array.find?_toList]; exact f1
          refine ⟨.tuple #[x.key, x.val], ?_, by simp [conc, concs, f2, f3]⟩
          rw [ha]
          simp [Instr.entry, hgo, hback, hgm, hfind]
        · cases hl
      · cases hl
    · cases hl
  · cases hl

end
end Go.AE
