/-
  append, copy: what they do.
-/
import Derived.Test.YtmebfcdgbjkcfaaGreatDoorAeApp
namespace Go.AE

section
variable {Y : Sy} {E : Env} {ρ : Rho} {h : H} {w : World}

theorem info_size {elem : TypeId} {i : TypeInfo} (hi : E.info elem = some i) : E.size elem = some i.size := by
  unfold Env.size
  have : E.tt.get elem = some i := hi
  rw [this]

/-- no room: a new row -/
theorem append_grows (hE : EnvOk Y E) (hr : Rel Y E ρ h w) {st xt ty elem : TypeId} {i : TypeInfo} (hu : E.und st = some (.slice elem)) (hi : E.info elem = some i) {base : Option Addr} {sLen sCap n : Nat} {cx : Value} {old new : List AV} {olds news : List Value}
    (hs : Src2 E.P i.size elem xt cx n news w) (hnew : concs Y ρ new = some news) (hnc : new.all isCell = true) (hnl : new.length = n * i.size)
    (hold : (Builtin.firstCells i.size sLen (.slice base sLen sCap)).run E.P w.drew = .ok olds.toArray w.drew) (hoc : concs Y ρ old = some olds) (hoa : old.all isCell = true) (hol : old.length = sLen * i.size)
    (hlt : sCap < sLen + n) {v : AV} {h' : H} (hg : growA E elem h i (sLen + n) (old ++ new) = some (v, h')) : Acts Y E ρ h w (Builtin.append_ #[st, xt] ty #[.slice base sLen sCap, cx]) v h' := by
  obtain ⟨g1, g2, g3, rfl, rfl⟩ := growA_eq hg
  obtain ⟨z, zs, z1, z2, z3, z4⟩ := zeroOk_eq hE hi g2
  have hfit : Builtin.nextslicecap (sLen + n) sCap * i.bytes ≤ 281474976710656 := Nat.le_trans (Nat.mul_le_mul_right _ (nextcap_le _ _ hlt)) g1
  have hrun := run_append_grow2 (ty := ty) (und_ok hE hu) (hE.tt elem i hi) z1 hs hold hlt g3 hfit
  have hr' : Rel Y E ρ h w.drew := hr.of_heap rfl
  have hcap := grownCap_ge w (sLen + n) sCap elem
  have hgo := grow_rel hr' (cs := old ++ new) (ccs := olds ++ news) (zs := zs) (need := sLen + n) (cap := grownCap w (sLen + n) sCap elem) (size := i.size) (elem := elem)
    (concs_append.2 ⟨_, _, hoc, hnew, rfl⟩) (by rw [List.all_append, hoa, hnc]; rfl) (by rw [List.length_append, hol, hnl, Nat.add_mul]) z3 hcap
  rw [← z2] at hgo
  refine ⟨_, _, _, hrun, Goes.trans hr (Goes.of_drawn (w' := w.drew) hr rfl rfl rfl rfl) hgo, ?_⟩
  rw [conc_of_gslice (L := ⟨w.drew.heap.size, 0, grownCap w (sLen + n) sCap elem⟩) (Rho.set_same _ _ _) (by simpa using hcap)]
  rfl

/-- no room: a new row, its cells as a trie -/
theorem append_growsT (hE : EnvOk Y E) (hr : Rel Y E ρ h w) {st xt ty elem : TypeId} {i : TypeInfo} (hu : E.und st = some (.slice elem)) (hi : E.info elem = some i) {base : Option Addr} {sLen sCap n nn : Nat} {cx : Value} {c : T AV} {olds news : List Value}
    (hs : Src2 E.P i.size elem xt cx n news w) (hnl : news.length = n * i.size)
    (hold : (Builtin.firstCells i.size sLen (.slice base sLen sCap)).run E.P w.drew = .ok olds.toArray w.drew) (hol : olds.length = sLen * i.size) (hc : ∀ j v, getV c j = some v → isCell v = true ∧ ∃ cv, conc Y ρ v = some cv ∧ (olds ++ news)[j]? = some cv)
    (hnn : nn = (olds ++ news).length) (hlt : sCap < sLen + n) {v : AV} {h' : H} (hg : growT E elem h i (sLen + n) c nn = some (v, h')) : Acts Y E ρ h w (Builtin.append_ #[st, xt] ty #[.slice base sLen sCap, cx]) v h' := by
  obtain ⟨g1, g2, g3, rfl, rfl⟩ := growT_eq hg
  obtain ⟨z, zs, z1, z2, z3, z4⟩ := zeroOk_eq hE hi g2
  have hfit : Builtin.nextslicecap (sLen + n) sCap * i.bytes ≤ 281474976710656 := Nat.le_trans (Nat.mul_le_mul_right _ (nextcap_le _ _ hlt)) g1
  have hrun := run_append_grow2 (ty := ty) (und_ok hE hu) (hE.tt elem i hi) z1 hs hold hlt g3 hfit
  have hr' : Rel Y E ρ h w.drew := hr.of_heap rfl
  have hcap := grownCap_ge w (sLen + n) sCap elem
  have hgo := grow_relT hr' (c := c) (ccs := olds ++ news) (zs := zs) (need := sLen + n) (cap := grownCap w (sLen + n) sCap elem) (size := i.size) (elem := elem) hc (by rw [List.length_append, hol, hnl, Nat.add_mul]) z3 hcap
  rw [← z2] at hgo
  subst hnn
  refine ⟨_, _, _, hrun, Goes.trans hr (Goes.of_drawn (w' := w.drew) hr rfl rfl rfl rfl) hgo, ?_⟩
  rw [conc_of_gslice (L := ⟨w.drew.heap.size, 0, grownCap w (sLen + n) sCap elem⟩) (Rho.set_same _ _ _) (by simpa using hcap)]
  rfl

/-- no room, and nothing there: where the slice began does not matter -/
theorem append_base {t tx ty elem : TypeId} {i : TypeInfo} (ht : E.P.underlying t = some (.slice elem)) (hinfo : E.P.info? elem = some i) (hE : EnvOk Y E) (hi : E.info elem = some i) {b1 b2 : Addr} {n : Nat} {x : Value} {news : List Value} (hs : Src2 E.P i.size elem tx x n news w) (hn : n ≠ 0) (hg : growOk E elem i n = true) :
    (Builtin.append_ #[t, tx] ty #[.slice (some b1) 0 0, x]).run E.P w = (Builtin.append_ #[t, tx] ty #[.slice (some b2) 0 0, x]).run E.P w := by
  unfold growOk at hg
  split at hg
  · rename_i g1 g2 g3
    have g1' : (n * 4 + 4096) * i.bytes ≤ 281474976710656 := Nat.le_of_ble_eq_true g1
    have g3' := Nat.le_of_ble_eq_true g3
    obtain ⟨z, zs, z1, z2, z3, z4⟩ := zeroOk_eq hE hi g2
    have hlt : 0 < 0 + n := by omega
    have hfit : Builtin.nextslicecap (0 + n) 0 * i.bytes ≤ 281474976710656 := Nat.le_trans (Nat.mul_le_mul_right _ (nextcap_le _ _ hlt)) (by simpa using g1')
    have h0 : ∀ a : Addr, (Builtin.firstCells i.size 0 (.slice (some a) 0 0)).run E.P w.drew = .ok ([] : List Value).toArray w.drew := fun a => run_firstCells_some (P := E.P) w.drew i.size 0 a 0 0 [] (by simp) (fun j v hv => by simp at hv)
    rw [run_append_grow2 ht hinfo z1 hs (h0 b1) hlt (by omega) hfit, run_append_grow2 ht hinfo z1 hs (h0 b2) hlt (by omega) hfit]
  · cases hg

/-- onto a row of an unknown capacity -/
theorem appGrown_ok (hE : EnvOk Y E) (hr : Rel Y E ρ h w) {st xt ty elem : TypeId} {i : TypeInfo} (hu : E.und st = some (.slice elem)) (hi : E.info elem = some i) {n : Nat} {cx : Value} {new : List AV} {news : List Value} (hs : Src2 E.P i.size elem xt cx n news w) (hnew : concs Y ρ new = some news) (hnc : new.all isCell = true) (hnl : new.length = n * i.size)
    {b o len pre : Nat} {L : Loc} (hL : ρ b = some L) (hlc : len ≤ L.cap - pre) {ob : AObj} (hb : h.get b = some ob) {c : T AV} {known gs : Nat} (hrow : rowOf ob = some (c, known, gs)) {v : AV} {h' : H} (hl : appGrown E elem h i n new b o len pre c known gs = some (v, h')) :
    Acts Y E ρ h w (Builtin.append_ #[st, xt] ty #[.slice (some (L.addr o)) len (L.cap - pre), cx]) v h' := by
  have hinfo := hE.tt elem i hi
  have hund := und_ok hE hu
  unfold appGrown at hl
  split at hl
  · rename_i g1 g2 g3
    have g1' := Nat.eq_of_beq_eq_true g1
    have g2' : o = pre * i.size := Nat.eq_of_beq_eq_true g2
    have g3' := Nat.le_of_ble_eq_true g3
    subst g1'
    obtain ⟨rfl, L', arr, el, r1, r2, r3, r4, r5⟩ := hr.row hb hrow
    rw [hL] at r1
    cases r1
    obtain ⟨r6, r7⟩ := r4 (by omega)
    split at hl
    · rename_i hn
      have := Nat.eq_of_beq_eq_true hn
      subst this
      cases hl
      have hnews : news = [] := by
        have := concs_length hnew
        rw [hnl, Nat.zero_mul] at this
        exact List.eq_nil_of_length_eq_zero this
      subst hnews
      refine ⟨.slice (some (L.addr o)) len (L.cap - pre), w, ρ, ?_, Goes.refl hr, conc_of_gslice hL hlc⟩
      rw [show ([st, xt] : List TypeId).toArray = #[st, xt] from rfl, show ([.slice (some (L.addr o)) len (L.cap - pre), cx] : List Value).toArray = #[.slice (some (L.addr o)) len (L.cap - pre), cx] from rfl, run_append_room2 hund hinfo hs (by omega)]
      rfl
    · rename_i hn0
      have hn' : n ≠ 0 := Nat.ne_of_beq_eq_false hn0
      split at hl
      · rename_i hkn
        have hkn' : o + (len + n) * i.size ≤ known := Nat.le_of_ble_eq_true hkn
        split at hl
        · rename_i h1 hst
          simp only [forceN_eq] at hl
          cases hl
          have hroom : len + n ≤ L.cap - pre := by
            have h1 : (pre + (len + n)) * i.size ≤ L.cap * i.size := by rw [Nat.add_mul]; omega
            have h2 := Nat.le_of_mul_le_mul_right h1 (by omega)
            omega
          obtain ⟨L', w', k1, k2, k3, _⟩ := storeCells_sound (P := E.P) hr hst hnew hnc
          rw [hL] at k1
          cases k1
          refine ⟨.slice (some (L.addr o)) (len + n) (L.cap - pre), w', ρ, ?_, k3, conc_of_gslice hL hroom⟩
          rw [show ([st, xt] : List TypeId).toArray = #[st, xt] from rfl, show ([.slice (some (L.addr o)) len (L.cap - pre), cx] : List Value).toArray = #[.slice (some (L.addr o)) len (L.cap - pre), cx] from rfl, run_append_room2 hund hinfo hs hroom]
          simp only [addr_add]
          have k2' : (storeCells (L.addr (o + len * i.size)) news).run E.P w = .ok () w' := k2
          rw [k2']
          rfl
        · cases hl
      · split at hl
        · -- the row as it is, and more
          rename_i ho0 hkl
          have ho0' : o = 0 := Nat.eq_of_beq_eq_true ho0
          have hkl' : known = len * i.size := Nat.eq_of_beq_eq_true hkl
          have hpre0 : pre = 0 := by
            rcases Nat.eq_zero_or_pos pre with h0 | h0
            · exact h0
            · have := Nat.mul_le_mul h0 g3'
              omega
          subst hpre0
          split at hl
          · cases hl
          · rename_i h1 hdead
            simp only [forceN_eq, Nat.add_eq] at hl
            have hnlen := concs_length hnew
            -- what the trie says of a row that begins so
            have hput : ∀ j v, getV (putCells c known new) j = some v → isCell v = true ∧ ∃ cv, conc Y ρ v = some cv ∧ ((known ≤ j ∧ j < known + news.length ∧ news[j - known]? = some cv) ∨ (j < known ∧ arr[L.sh + j]? = some cv)) := by
              intro j v hv
              rw [putCells_get] at hv
              split at hv
              · rename_i hj
                obtain ⟨cv, e1, e2⟩ := concs_getElem hnew _ v hv
                exact ⟨List.all_eq_true.1 hnc v (List.mem_of_getElem? hv), cv, e1, .inl ⟨hj.1, by rw [hnlen]; exact hj.2, e2⟩⟩
              · obtain ⟨k1, k2, cv, k3, k4⟩ := r5 j v hv
                exact ⟨k2, cv, k3, .inr ⟨k1, k4⟩⟩
            by_cases hroom : len + n ≤ L.cap - 0
            · -- there is room: the row goes on
              obtain ⟨q1, q2, q3, rfl, rfl⟩ := growT_eq hl
              have hpre : len + n ≤ L.cap := by omega
              have hfits : L.sh + known + 0 + news.length ≤ arr.size := by
                have := Nat.mul_le_mul_right i.size hpre
                rw [Nat.add_mul] at this
                rw [hnlen, hnl, r7, hkl']
                omega
              have hst := run_storeCells (P := E.P) news w L known 0 arr el r2 (by omega) (fun u hu => by
                obtain ⟨j, hj⟩ := List.mem_iff_getElem?.1 hu
                have hlt : j < news.length := by
                  rcases Nat.lt_or_ge j news.length with h' | h'
                  · exact h'
                  · rw [List.getElem?_eq_none h'] at hj; cases hj
                rw [hnlen] at hlt
                obtain ⟨cv, e1, e2⟩ := concs_getElem hnew j _ (List.getElem?_eq_getElem hlt)
                rw [hj] at e2
                cases e2
                exact oneCell_of (List.all_eq_true.1 hnc _ (List.getElem_mem _)) e1)
              have hblt : L.blk < w.heap.size := (Array.getElem?_eq_some_iff.1 r2).1
              have hh1 := H.upd_eq.1 hdead
              have hnx : h1.next = h.next := by rw [hh1.2]
              rw [hnx]
              have hle : ρ.le (ρ.set h.next ⟨L.blk, L.sh, L.cap⟩) := Rho.le_set (hr.fresh h.next (Nat.le_refl _)) _
              refine ⟨.slice (some (L.addr 0)) (len + n) L.cap, _, ρ.set h.next ⟨L.blk, L.sh, L.cap⟩, ?_,
                Goes.regrow (L' := ⟨L.blk, L.sh, L.cap⟩) (w' := setRow w L.blk (putArr arr (L.sh + known + 0) news) el) (ob := .cells (putArr arr (L.sh + known + 0) news) el (0, 0))
                  hr hb rfl hL hdead rfl rfl rfl (by simp [setRow]) (by simp [setRow, hblt]) (fun d hd => by simp [setRow, Ne.symm hd]) rfl ?_, ?_⟩
              · rw [show ([st, xt] : List TypeId).toArray = #[st, xt] from rfl, show ([.slice (some (L.addr o)) len (L.cap - 0), cx] : List Value).toArray = #[.slice (some (L.addr o)) len (L.cap - 0), cx] from rfl, run_append_room2 hund hinfo hs hroom]
                simp only [addr_add]
                rw [show o + len * i.size = known by omega, hst, ho0']
                rfl
              · refine ⟨_, el, rfl, ?_, fun _ => ⟨?_, ?_⟩, fun j v hv => ?_⟩
                · rw [putArr_size]; dsimp only; omega
                · rw [hnl, hkl', ← Nat.add_mul]; exact Nat.mul_le_mul_right _ hpre
                · rw [putArr_size, r7]
                · obtain ⟨k1, cv, k2, k3⟩ := hput j v hv
                  refine ⟨?_, k1, cv, conc_mono hle k2, ?_⟩
                  · rcases k3 with ⟨_, k3, _⟩ | ⟨k3, _⟩
                    · rw [← hnlen]; exact k3
                    · omega
                  · rw [putArr_get _ _ _ _ (by omega)]
                    dsimp only
                    rcases k3 with ⟨k3, k4, k5⟩ | ⟨k3, k4⟩
                    · rw [if_pos (by omega), ← k5]
                      congr 1
                      omega
                    · rw [if_neg (by omega)]
                      exact k4
              · rw [conc_of_gslice (L := ⟨L.blk, L.sh, L.cap⟩) (Rho.set_same _ _ _) (by simpa using hroom)]
                simp [Loc.addr]
            · -- there is none
              have hg := Goes.upd (w' := w) hr hb rfl hL hdead rfl rfl rfl rfl r2 (fun _ _ => rfl) (o := .dead) trivial
              have holen : ((arr.toList.drop L.sh).take known).length = len * i.size := by
                rw [List.length_take, List.length_drop, Array.length_toList]
                omega
              have hcells : ∀ (j : Nat) cv, ((arr.toList.drop L.sh).take known)[j]? = some cv → arr[L.sh + j]? = some cv := by
                intro j cv hcv
                rw [List.getElem?_take] at hcv
                split at hcv
                · rw [List.getElem?_drop, Array.getElem?_toList] at hcv
                  exact hcv
                · cases hcv
              have hf := run_firstCells_some (P := E.P) w.drew i.size len (L.addr o) len (L.cap - 0) ((arr.toList.drop L.sh).take known) holen (fun j v hv => by
                rw [addr_add]
                show w.cell? _ = _
                rw [cell_of_block r2, ho0', Nat.zero_add]
                exact hcells j v hv)
              obtain ⟨cv, w', ρ', e1, e2, e3⟩ := append_growsT (ty := ty) hE hg.rel hu hi hs (by rw [hnlen, hnl]) hf holen (fun j v hv => by
                obtain ⟨k1, cv, k2, k3⟩ := hput j v hv
                refine ⟨k1, cv, k2, ?_⟩
                rcases k3 with ⟨k3, k4, k5⟩ | ⟨k3, k4⟩
                · rw [List.getElem?_append_right (by omega), holen, ← k5]
                  congr 1
                  omega
                · rw [List.getElem?_append_left (by omega), List.getElem?_take, if_pos k3, List.getElem?_drop, Array.getElem?_toList]
                  exact k4) (by rw [List.length_append, holen, hnlen, hkl']) (by omega) hl
              exact ⟨cv, w', ρ', e1, Goes.trans hr hg e2, e3⟩
        · split at hl
          · cases hl
          rename_i old hold
          split at hl
          · cases hl
          · rename_i h1 hdead
            simp only [forceN_eq] at hl
            obtain ⟨hol, hget⟩ := getCells_eq _ _ _ _ hold
            have hol' : old.length = len * i.size := hol
            obtain ⟨olds, hoc⟩ := concs_of_all (Y := Y) (ρ := ρ) old (fun j v hv => let ⟨_, _, cv, e, _⟩ := r5 _ v (hget j v hv); ⟨cv, e⟩)
            have hoa : old.all isCell = true := by
              rw [List.all_eq_true]
              intro v hv
              obtain ⟨j, hj⟩ := List.mem_iff_getElem?.1 hv
              exact (r5 _ v (hget j v hj)).2.1
            have hocl := concs_length hoc
            have hcells : ∀ (j : Nat) cv, olds[j]? = some cv → arr[L.sh + (o + j)]? = some cv := by
              intro j cv hcv
              have hj : j < olds.length := by
                rcases Nat.lt_or_ge j olds.length with h' | h'
                · exact h'
                · rw [List.getElem?_eq_none h'] at hcv; cases hcv
              rw [hocl] at hj
              have hv : old[j]? = some old[j] := List.getElem?_eq_getElem hj
              obtain ⟨cv', e1, e2⟩ := concs_getElem hoc j _ hv
              rw [e2] at hcv
              cases hcv
              obtain ⟨_, _, cv'', e3, e4⟩ := r5 _ _ (hget j _ hv)
              rw [e1] at e3
              cases e3
              exact e4
            by_cases hroom : len + n ≤ L.cap - pre
            · -- there is room: the row goes on
              obtain ⟨q1, q2, q3, rfl, rfl⟩ := growA_eq hl
              have hnlen := concs_length hnew
              have hpre : pre + (len + n) ≤ L.cap := by omega
              have hfits : L.sh + o + len * i.size + 0 + news.length ≤ arr.size := by
                have := Nat.mul_le_mul_right i.size hpre
                rw [Nat.add_mul, Nat.add_mul] at this
                rw [hnlen, hnl, r7]
                omega
              have hst := run_storeCells (P := E.P) news w L (o + len * i.size) 0 arr el r2 (by omega) (fun u hu => by
                obtain ⟨j, hj⟩ := List.mem_iff_getElem?.1 hu
                have hlt : j < news.length := by
                  rcases Nat.lt_or_ge j news.length with h' | h'
                  · exact h'
                  · rw [List.getElem?_eq_none h'] at hj; cases hj
                rw [hnlen] at hlt
                obtain ⟨cv, e1, e2⟩ := concs_getElem hnew j _ (List.getElem?_eq_getElem hlt)
                rw [hj] at e2
                cases e2
                exact oneCell_of (List.all_eq_true.1 hnc _ (List.getElem_mem _)) e1)
              have hblt : L.blk < w.heap.size := (Array.getElem?_eq_some_iff.1 r2).1
              have hh1 := H.upd_eq.1 hdead
              have hnx : h1.next = h.next := by rw [hh1.2]
              rw [hnx]
              have hle : ρ.le (ρ.set h.next ⟨L.blk, L.sh + o, L.cap - pre⟩) := Rho.le_set (hr.fresh h.next (Nat.le_refl _)) _
              refine ⟨.slice (some (L.addr o)) (len + n) (L.cap - pre), _, ρ.set h.next ⟨L.blk, L.sh + o, L.cap - pre⟩, ?_,
                Goes.regrow (L' := ⟨L.blk, L.sh + o, L.cap - pre⟩) (w' := setRow w L.blk (putArr arr (L.sh + (o + len * i.size) + 0) news) el) (ob := .cells (putArr arr (L.sh + (o + len * i.size) + 0) news) el (0, 0))
                  hr hb rfl hL hdead rfl rfl rfl (by simp [setRow]) (by simp [setRow, hblt]) (fun d hd => by simp [setRow, Ne.symm hd]) rfl ?_, ?_⟩
              · rw [show ([st, xt] : List TypeId).toArray = #[st, xt] from rfl, show ([.slice (some (L.addr o)) len (L.cap - pre), cx] : List Value).toArray = #[.slice (some (L.addr o)) len (L.cap - pre), cx] from rfl, run_append_room2 hund hinfo hs hroom]
                simp only [addr_add]
                rw [hst]
                rfl
              · have hll : (old ++ new).length = (len + n) * i.size := by rw [List.length_append, hol', hnl, Nat.add_mul]
                have hmul : pre * i.size + (L.cap - pre) * i.size = L.cap * i.size := by
                  rw [← Nat.add_mul]; congr 1; omega
                have hmul2 : (len + n) * i.size ≤ (L.cap - pre) * i.size := Nat.mul_le_mul_right _ hroom
                refine ⟨_, el, rfl, ?_, fun _ => ⟨?_, ?_⟩, fun j v hv => ?_⟩
                · rw [putArr_size, hll, r7]; dsimp only; omega
                · rw [hll]; exact hmul2
                · rw [putArr_size, r7]; dsimp only; omega
                · rw [get_ofListV] at hv
                  have hcc : concs Y ρ (old ++ new) = some (olds ++ news) := concs_append.2 ⟨_, _, hoc, hnew, rfl⟩
                  obtain ⟨cv, e1, e2⟩ := concs_getElem hcc j v hv
                  have hj : j < (old ++ new).length := by
                    rcases Nat.lt_or_ge j (old ++ new).length with h' | h'
                    · exact h'
                    · rw [List.getElem?_eq_none h'] at hv; cases hv
                  refine ⟨hj, ?_, cv, conc_mono hle e1, ?_⟩
                  · have hall : (old ++ new).all isCell = true := by rw [List.all_append, hoa, hnc]; rfl
                    exact List.all_eq_true.1 hall v (List.mem_of_getElem? hv)
                  · rw [putArr_get _ _ _ _ (by omega)]
                    dsimp only
                    by_cases hjo : j < olds.length
                    · rw [if_neg (by omega), Nat.add_assoc]
                      rw [List.getElem?_append_left hjo] at e2
                      exact hcells j cv e2
                    · rw [if_pos (by rw [List.length_append] at hj; omega)]
                      rw [List.getElem?_append_right (by omega)] at e2
                      rw [← e2]
                      congr 1
                      omega
              · rw [conc_of_gslice (L := ⟨L.blk, L.sh + o, L.cap - pre⟩) (Rho.set_same _ _ _) (by simpa using hroom)]
                simp [Loc.addr]
            · -- there is none
              have hg := Goes.upd (w' := w) hr hb rfl hL hdead rfl rfl rfl rfl r2 (fun _ _ => rfl) (o := .dead) trivial
              have hf := run_firstCells_some (P := E.P) w.drew i.size len (L.addr o) len (L.cap - pre) olds (by rw [hocl]; exact hol') (fun j v hv => by
                rw [addr_add]
                show w.cell? _ = _
                rw [cell_of_block r2]
                exact hcells j v hv)
              obtain ⟨cv, w', ρ', e1, e2, e3⟩ := append_grows (ty := ty) hE hg.rel hu hi hs hnew hnc hnl hf hoc hoa hol' (by omega) hl
              exact ⟨cv, w', ρ', e1, Goes.trans hr hg e2, e3⟩
  · cases hl

theorem append_ok (hE : EnvOk Y E) (hr : Rel Y E ρ h w) {ts : List TypeId} {args : List AV} {cargs : List Value} {v : AV} {h' : H} (ty : TypeId) (hl : appendA E h ts args = some (v, h')) (ha : concs Y ρ args = some cargs) :
    Acts Y E ρ h w (Builtin.append_ ts.toArray ty cargs.toArray) v h' := by
  unfold appendA at hl
  split at hl
  · rename_i st xt s x
    obtain ⟨cs, cr, hcs, hcr, rfl⟩ := concs_cons.1 ha
    obtain ⟨cx, cr', hcx, hcr', rfl⟩ := concs_cons.1 hcr
    rw [concs_nil] at hcr'
    subst hcr'
    split at hl
    · rename_i elem hu
      split at hl
      · cases hl
      · rename_i i hi
        split at hl
        · cases hl
        · rename_i n new hsrc
          obtain ⟨news, hs, hnew, hnc, hnl⟩ := appSrc_ok hE hr hi hsrc hcx
          have hinfo := hE.tt elem i hi
          have hund := und_ok hE hu
          split at hl
          · -- onto nil
            cases hcs
            split at hl
            · rename_i hn
              have := Nat.eq_of_beq_eq_true hn
              subst this
              cases hl
              refine ⟨.slice none 0 0, w, ρ, ?_, Goes.refl hr, rfl⟩
              rw [show ([st, xt] : List TypeId).toArray = #[st, xt] from rfl, show ([.slice none 0 0, cx] : List Value).toArray = #[.slice none 0 0, cx] from rfl, run_append_room2 hund hinfo hs (Nat.le_refl _)]
              rfl
            · rename_i hn
              have hn' : n ≠ 0 := Nat.ne_of_beq_eq_false hn
              refine append_grows hE hr hu hi hs hnew hnc hnl (olds := []) (old := []) rfl rfl rfl (by simp) (by omega) (by simpa using hl)
          · -- onto a row of a known capacity
            rename_i b o len cap
            obtain ⟨L, hL, rfl⟩ := conc_slice hcs
            split at hl
            · rename_i hle
              have hle' : len + n ≤ cap := Nat.le_of_ble_eq_true hle
              split at hl
              · rename_i h1 hst
                simp only [forceN_eq] at hl
                cases hl
                obtain ⟨L', w', k1, k2, k3, _⟩ := storeCells_sound (P := E.P) hr hst hnew hnc
                rw [hL] at k1
                cases k1
                refine ⟨.slice (some (L.addr o)) (len + n) cap, w', ρ, ?_, k3, by simp [conc, hL]⟩
                rw [show ([st, xt] : List TypeId).toArray = #[st, xt] from rfl, show ([.slice (some (L.addr o)) len cap, cx] : List Value).toArray = #[.slice (some (L.addr o)) len cap, cx] from rfl, run_append_room2 hund hinfo hs hle']
                simp only [addr_add]
                have k2' : (storeCells (L.addr (o + len * i.size)) news).run E.P w = .ok () w' := k2
                rw [k2']
                rfl
              · cases hl
            · rename_i hle
              have hle' : ¬ (len + n ≤ cap) := fun h => (by
                have e : Nat.ble (Nat.add len n) cap = true := Nat.ble_eq_true_of_le h
                rw [e] at hle
                cases hle)
              split at hl
              · rename_i old hold
                simp only [forceN_eq] at hl
                obtain ⟨L', cs, k1, k2, k3, k4, k5⟩ := loadCells_sound hr hold
                rw [hL] at k1
                cases k1
                have hcl := concs_length k2
                rw [k4] at hcl
                have hf := run_firstCells_some (P := E.P) w.drew i.size len (L.addr o) len cap cs hcl (fun j v hv => by rw [addr_add]; exact k5 j v hv)
                exact append_grows hE hr hu hi hs hnew hnc hnl hf k2 k3 k4 (by omega) hl
              · cases hl
          · -- onto a row of an unknown capacity
            rename_i b o len pre
            obtain ⟨L, hL, rfl, hlc⟩ := conc_gslice' hcs
            split at hl
            · rename_i ob hb
              split at hl
              · rename_i c known gs hrow
                exact appGrown_ok (ty := ty) hE hr hu hi hs hnew hnc hnl hL hlc hb hrow hl
              · cases hl
            · cases hl
          · -- onto the empty rest of a row of an unknown capacity
            rename_i b o l es pre
            split at hl
            · rename_i hn
              have := Nat.eq_of_beq_eq_true hn
              subst this
              cases hl
              obtain ⟨a, cp, rfl⟩ := conc_eslice hcs
              have hnews : news = [] := by
                have := concs_length hnew
                rw [hnl, Nat.zero_mul] at this
                exact List.eq_nil_of_length_eq_zero this
              subst hnews
              refine ⟨.slice (some a) 0 cp, w, ρ, ?_, Goes.refl hr, hcs⟩
              rw [show ([st, xt] : List TypeId).toArray = #[st, xt] from rfl, show ([.slice (some a) 0 cp, cx] : List Value).toArray = #[.slice (some a) 0 cp, cx] from rfl, run_append_room2 hund hinfo hs (by omega)]
              rfl
            · rename_i hn
              have hn0 : n ≠ 0 := Nat.ne_of_beq_eq_false hn
              split at hl
              · cases hl
              · rename_i hgk
                split at hl
                · rename_i ob hb
                  split at hl
                  · rename_i c known gs hrow
                    simp only [forceN_eq] at hl
                    simp only [conc, Option.bind_eq_some_iff] at hcs
                    obtain ⟨L, hL, hcs⟩ := hcs
                    have hmain := appGrown_ok (ty := ty) (L := L) hE hr hu hi hs hnew hnc hnl hL (Nat.zero_le _) hb hrow hl
                    split at hcs
                    · rename_i hle
                      split at hcs
                      · rename_i heq
                        cases hcs
                        have e0 : L.cap - (pre + l) = 0 := by omega
                        rw [show Nat.add pre l = pre + l from rfl, e0] at hmain
                        obtain ⟨cv, w', ρ', e1, e2, e3⟩ := hmain
                        exact ⟨cv, w', ρ', (append_base hund hinfo hE hi hs hn0 hgk).trans e1, e2, e3⟩
                      · rename_i hne
                        cases hcs
                        rw [show Nat.add pre l = pre + l from rfl, Nat.sub_add_eq] at hmain
                        exact hmain
                    · cases hcs
                  · cases hl
                · cases hl
          · cases hl
    · cases hl
  · cases hl

end
end Go.AE
