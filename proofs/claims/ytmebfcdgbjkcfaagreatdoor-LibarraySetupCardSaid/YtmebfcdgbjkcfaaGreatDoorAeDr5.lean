/-
  Regions that draw: operations are run.
-/
import Derived.Test.YtmebfcdgbjkcfaaGreatDoorAeDr4
namespace Go.AE

section
variable {Y : Sy} {E : Env}

theorem ordOk_pair {bs : T Nat} {ops : List Oper} {A B : List Nat} (h : ordOk E bs ops (A ++ B) = true) {x y : Nat} (hx : x ∈ A) (hy : y ∈ B) : x ≠ y ∧ bef bs x y = false ∧ (bigAt E ops x = true → bef bs y x = true) := by
  obtain ⟨p, q, rfl⟩ := List.append_of_mem hx
  have h' : ordOk E bs ops (p ++ x :: (q ++ B)) = true := by simpa using h
  obtain ⟨h1, h2, h3⟩ := ordOk_split h'
  have hm : y ∈ q ++ B := List.mem_append_right _ hy
  exact ⟨fun e => h1 (e ▸ hm), h2 y hm, fun hb => h3 hb y hm⟩

theorem isL_mono {listed : Array Bool} {i j : Nat} (hi : isL listed i = false) (hj : isL listed j = true) : isL (listed.setIfInBounds i true) j = true := by
  rw [isL_set hi]
  split
  · rfl
  · exact hj

section
variable {L : Lv} {nt : Nat} {rc : Rec} {tm : T AV} {arr : Array Oper} {ord : List Nat} {k : List AV → H → Bool} {ρ₀ : Rho} {h₀ : H} {w₀ : World} {a₀ : Act} {listed : Array Bool} {a : Act} {w : World} {ev : List Rc} {todo : List Nat} {ρ : Rho} {G : H} {seen : List Done}

/-- all that operation i waits for has been run -/
def Waits (arr : Array Oper) (listed : Array Bool) (i : Nat) : Prop := ∀ j, j < arr.size → bef (befs arr.toList) i j = true → isL listed j = true

theorem closed_set (hcl : ∀ i j, i < arr.size → j < arr.size → isL listed i = true → bef (befs arr.toList) i j = true → isL listed j = true) {i : Nat} (hi : isL listed i = false) (hw : Waits arr listed i) :
    ∀ i' j, i' < arr.size → j < arr.size → isL (listed.setIfInBounds i true) i' = true → bef (befs arr.toList) i' j = true → isL (listed.setIfInBounds i true) j = true := by
  intro i' j hi' hj hl hb
  rw [isL_set hi] at hl
  split at hl
  · rename_i e
    subst e
    exact isL_mono hi (hw j hj hb)
  · exact isL_mono hi (hcl i' j hi' hj hl hb)

/-- the index of a record -/
theorem PInv.lt (hP : PInv Y E L nt rc tm arr ord k ρ₀ h₀ w₀ a₀ listed a w ev todo ρ G seen) {r : Rc} (hr : r ∈ ev) : r.i < arr.size := by
  have := hP.opers r hr
  rcases Nat.lt_or_ge r.i arr.size with h | h
  · exact h
  · rw [Array.getElem?_eq_none h] at this; cases this

/-- records before and behind one -/
theorem PInv.before (hC : Checks E nt arr ord) (hP : PInv Y E L nt rc tm arr ord k ρ₀ h₀ w₀ a₀ listed a w ev todo ρ G seen) {post pre : List Rc} {r : Rc} (hev : ev = post ++ r :: pre) :
    (∀ r' ∈ pre, r'.i ≠ r.i ∧ bef (befs arr.toList) r'.i r.i = false) ∧ (∀ r' ∈ post, r'.i ≠ r.i ∧ bef (befs arr.toList) r.i r'.i = false) := by
  have hs := hP.split
  have ho := hC.ordk
  subst hev
  have e1 : ord = (pre.map fun r => r.i).reverse ++ (r.i :: ((post.map fun r => r.i).reverse ++ todo)) := by rw [hs]; simp
  have e2 : ord = ((pre.map fun r => r.i).reverse ++ [r.i]) ++ ((post.map fun r => r.i).reverse ++ todo) := by rw [hs]; simp
  constructor
  · intro r' hr'
    rw [e1] at ho
    have := ordOk_pair ho (x := r'.i) (y := r.i) (by simp; exact ⟨r', hr', rfl⟩) (by simp)
    exact ⟨this.1, this.2.1⟩
  · intro r' hr'
    rw [e2] at ho
    have := ordOk_pair ho (x := r.i) (y := r'.i) (by simp) (by simp; exact .inl ⟨r', hr', rfl⟩)
    exact ⟨fun e => this.1 e.symm, this.2.1⟩

/-- the records that have been run agree with those before an operation that is ready, on what it looks at -/
theorem PInv.agree (hC : Checks E nt arr ord) (hP : PInv Y E L nt rc tm arr ord k ρ₀ h₀ w₀ a₀ listed a w ev todo ρ G seen) {post pre : List Rc} {r : Rc} (hev : ev = post ++ r :: pre) (hun : isL listed r.i = false) (hw : Waits arr listed r.i)
    {t : Nat} (ht : t ∈ looks arr.toList r.o ∨ r.o.dst = some t) :
    look t (ev.filter fun r => isL listed r.i) = look t pre ∧ ∀ r' ∈ post.filter fun r => isL listed r.i, r'.o.dst ≠ some t := by
  obtain ⟨hb1, hb2⟩ := hP.before hC hev
  have hro := hP.opers r (by rw [hev]; simp)
  have hcmp : ∀ r' ∈ ev, r'.i ≠ r.i → r'.o.dst = some t → bef (befs arr.toList) r.i r'.i = true ∨ bef (befs arr.toList) r'.i r.i = true := fun r' hr' hne hd =>
    hC.pairs r.i r'.i r.o r'.o t hro (hP.opers r' hr') (fun e => hne e.symm) hd ht
  have hpost : ∀ r' ∈ post.filter fun r => isL listed r.i, r'.o.dst ≠ some t := by
    intro r' hr' hd
    rw [List.mem_filter] at hr'
    obtain ⟨hne, hbf⟩ := hb2 r' hr'.1
    have hm : r' ∈ ev := by rw [hev]; simp [hr'.1]
    rcases hcmp r' hm hne hd with h | h
    · rw [hbf] at h; cases h
    · have := hP.closed r'.i r.i (hP.lt hm) (hP.lt (by rw [hev]; simp)) hr'.2 h
      rw [hun] at this; cases this
  refine ⟨?_, hpost⟩
  rw [hev, List.filter_append, look_append, look_none hpost]
  dsimp only
  rw [List.filter_cons_of_neg (by simp [hun])]
  refine look_filter fun r' hr' hd => ?_
  obtain ⟨hne, hbf⟩ := hb1 r' hr'
  have hm : r' ∈ ev := by rw [hev]; simp [hr']
  rcases hcmp r' hm hne hd with h | h
  · exact hw r'.i (hP.lt hm) h
  · rw [hbf] at h; cases h

/-- an operation that was evaluated is run -/
theorem PInv.list (hC : Checks E nt arr ord) (hP : PInv Y E L nt rc tm arr ord k ρ₀ h₀ w₀ a₀ listed a w ev todo ρ G seen) {post pre : List Rc} {r : Rc} (hev : ev = post ++ r :: pre) (hun : isL listed r.i = false) (hw : Waits arr listed r.i)
    {ρ' : Rho} {w' : World} {cv : Value} (hle : ρ.le ρ') (hv : conc Y ρ' r.v = some cv) (hrel : Rel Y E ρ' (G.hide (unex (listed.setIfInBounds r.i true) ev)) w') (hfrm : Frm ρ₀ h₀ w₀ w')
    (hmade : ∀ b M, ρ₀ b = none → ρ' b = some M → w₀.heap.size ≤ M.blk ∨ ∃ c o N, h₀.get c = some o ∧ wr h₀ c o = true ∧ ρ₀ c = some N ∧ N.blk = M.blk) (hsame : ∀ b, b < h₀.next → ρ' b = ρ₀ b)
    (hnone : ∀ r' ∈ ev, isL (listed.setIfInBounds r.i true) r'.i = false → ∀ b, r'.blk = some b → ρ' b = none) :
    PInv Y E L nt rc tm arr ord k ρ₀ h₀ w₀ a₀ (listed.setIfInBounds r.i true) (a.put r.o.dst cv) w' ev todo ρ' G seen := by
  obtain ⟨hb1, hb2⟩ := hP.before hC hev
  have hmem : r ∈ ev := by rw [hev]; simp
  have hro := hP.opers r hmem
  refine ⟨hP.split, hP.opers, hP.run, ?_, ?_, closed_set hP.closed hun hw, Rho.le_trans hP.le hle, hrel, hfrm, hP.keeps, hmade, hsame, hnone, hP.blkLt, hP.uniq, ?_, ?_, by rw [put_size]; exact hP.size, by rw [put_defers]; exact hP.defers⟩
  · intro j hj
    rw [isL_set hun, if_neg]
    · exact hP.unl j hj
    · have ho := hC.ordk
      rw [hP.split] at ho
      have := (ordOk_pair ho (x := r.i) (y := j) (by simp; exact ⟨r, hmem, rfl⟩) hj).1
      exact fun e => this e.symm
  · intro r' hr' hb
    exact isL_mono hun (hP.bigs r' hr' hb)
  · have e : ev.filter (fun r' => isL (listed.setIfInBounds r.i true) r'.i) = (post.filter fun r' => isL listed r'.i) ++ r :: (pre.filter fun r' => isL listed r'.i) := by
      rw [hev, List.filter_append, List.filter_cons_of_pos (by rw [isL_set hun, if_pos rfl])]
      congr 1
      · refine List.filter_congr fun r' hr' => ?_
        rw [isL_set hun, if_neg (hb2 r' hr').1]
      · congr 1
        refine List.filter_congr fun r' hr' => ?_
        rw [isL_set hun, if_neg (hb1 r' hr').1]
    have e0 : ev.filter (fun r' => isL listed r'.i) = (post.filter fun r' => isL listed r'.i) ++ (pre.filter fun r' => isL listed r'.i) := by
      rw [hev, List.filter_append, List.filter_cons_of_neg (by simp [hun])]
    have hregs := hP.regs.mono hle
    rw [e0] at hregs
    rw [e]
    refine hregs.insert hv fun d hd => ⟨?_, (hP.agree hC hev hun hw (.inr hd)).2⟩
    rw [hP.size]
    exact hC.dsts r.i r.o d hro hd
  · intro post' r' pre' he hl
    refine hP.facts post' r' pre' he ?_
    rw [isL_set hun] at hl
    split at hl
    · cases hl
    · exact hl

theorem small_not_defer {o : Oper} (hb : isBig (cOp E o.op) = false) : ∀ c, o.op ≠ .defer c := by
  intro c h
  rw [h] at hb
  cases hc : c.callee <;> (simp only [cOp, hc] at hb; cases hb)

/-- an operation that was evaluated is run -/
theorem PInv.runSmall (hE : EnvOk Y E) (hC : Checks E nt arr ord) (hng : L.ng = E.ng) (hg₀ : Glob E ρ₀) (hP : PInv Y E L nt rc tm arr ord k ρ₀ h₀ w₀ a₀ listed a w ev todo ρ G seen) {post pre : List Rc} {r : Rc} (hev : ev = post ++ r :: pre) (hun : isL listed r.i = false) (hw : Waits arr listed r.i)
    {ro : Option Nat} {n : Nat} {Q : Exit → Act → World → Prop} {K : Act → World → Prop}
    (hK : ∀ a' w' ρ', PInv Y E L nt rc tm arr ord k ρ₀ h₀ w₀ a₀ (listed.setIfInBounds r.i true) a' w' ev todo ρ' G seen → K a' w') : wpOpIn (fence ro) n E.P arr Q r.i K a w := by
  have hmem : r ∈ ev := by rw [hev]; simp
  have hro := hP.opers r hmem
  have hglob := hg₀.mono hP.le
  have hag : ∀ t, t ∈ looks arr.toList r.o → look t (ev.filter fun r => isL listed r.i) = look t pre := fun t ht => (hP.agree hC hev hun hw (.inl ht)).1
  -- nothing changes but the frame
  have stay : ∀ cv, r.blk = none → conc Y ρ r.v = some cv → PInv Y E L nt rc tm arr ord k ρ₀ h₀ w₀ a₀ (listed.setIfInBounds r.i true) (a.put r.o.dst cv) w ev todo ρ G seen := by
    intro cv hblk hv
    refine hP.list hC hev hun hw (Rho.le_refl _) hv ?_ hP.frm hP.made hP.same ?_
    · refine hP.rel.sub (fun b o hb => ?_) (Nat.le_refl _)
      rw [H.get_hide] at hb ⊢
      split at hb
      · cases hb
      · rename_i hU
        rw [if_neg]
        · exact hb
        · intro hm
          obtain ⟨r', hr', h1, h2⟩ := mem_unex.1 hm
          refine hU (mem_unex.2 ⟨r', hr', ?_, h2⟩)
          rw [isL_set hun, if_neg]
          · exact h1
          · intro e
            have := hP.opers r' hr'
            -- the same index: the same record
            by_cases hrr : r' ∈ post
            · exact ((hP.before hC hev).2 r' hrr).1 e
            · by_cases hrp : r' ∈ pre
              · exact ((hP.before hC hev).1 r' hrp).1 e
              · rw [hev] at hr'
                rcases List.mem_append.1 hr' with h | h
                · exact hrr h
                · rcases List.mem_cons.1 h with h | h
                  · rw [h, hblk] at h2; cases h2
                  · exact hrp h
    · intro r' hr' hl b hb
      refine hP.nob r' hr' ?_ b hb
      rw [isL_set hun] at hl
      split at hl
      · cases hl
      · exact hl
  unfold wpOpIn
  rw [hro]
  dsimp only
  rcases hP.facts post r pre hev hun with ⟨hg, hv, hblk⟩ | ⟨hg, S, hS, hF⟩
  · have hwt := hg.wanted hng hglob hP.regs hag
    rw [hwt, if_neg (by simp)]
    exact ⟨fun _ _ => trivial, hK _ _ _ (stay undef hblk (by rw [hv]; rfl))⟩
  · have hwt := hg.wanted hng hglob hP.regs hag
    rw [hwt, if_pos rfl]
    refine ⟨fun _ _ => trivial, ?_⟩
    have hnd : ∀ c, r.o.op ≠ .defer c := by
      intro c h
      rw [h] at hS
      cases hc : c.callee <;> (simp only [cOp, hc] at hS; exact hS.elim)
    rw [Oper.semAt_eq _ _ _ hnd]
    have hex := hS.exec (Y := Y) (ρ := ρ) (w := w) (a := a) hE hng hP.regs hglob fun t ht => hag t (looks_operand ht)
    cases S with
    | val v =>
      obtain ⟨cv, h1, h2⟩ := hex
      obtain ⟨g1, g2⟩ := hF
      rw [h1]
      exact hK _ _ _ (stay cv g2 (by rw [g1]; exact h2))
    | read bl f =>
      obtain ⟨h1, h2⟩ := hex
      obtain ⟨g1, g2, g3⟩ := hF
      have hf : f (G.hide (unex listed ev)) = some r.v := by
        rw [Small.local_ hE hS G _ fun b hb => ?_]
        · exact g1
        · rw [H.get_hide, if_neg]
          intro hm
          obtain ⟨r', hr', k1, k2⟩ := mem_unex.1 hm
          obtain ⟨M, hM⟩ := h1 b hb
          rw [hP.nob r' hr' k1 b k2] at hM
          cases hM
      obtain ⟨cv, h3, h4⟩ := h2 _ _ hP.rel hf
      rw [h3]
      exact hK _ _ _ (stay cv g2 h4)
    | new ob mk =>
      obtain ⟨s, h1, obj, cv, h2, h3, h4⟩ := hex
      obtain ⟨b, g1, g2, g3, g4⟩ := hF
      rw [h1, run_v h2]
      have hbn : ρ b = none := hP.nob r hmem hun b g2
      have hle : ρ.le (ρ.set b ⟨w.heap.size, 0, 0⟩) := Rho.le_set hbn _
      have hother : ∀ r' ∈ ev, r'.i ≠ r.i → ∀ c, r'.blk = some c → c ≠ b := fun r' hr' hne c hc e => hne (hP.uniq r' hr' r hmem b (e ▸ hc) g2)
      have hb0 := (hP.blkLt r hmem b g2).1
      refine hK _ _ _ (hP.list hC hev hun hw hle (by rw [g1]; exact h4 _ b hle (Rho.set_same _ _ _)) ?_ ?_ ?_ ?_ ?_)
      · refine hP.rel.unhide (o := ob) ?_ hbn g4 ?_ (h3 _ hle)
        · intro c
          rw [mem_unex, mem_unex]
          constructor
          · rintro ⟨r', hr', k1, k2⟩
            by_cases hne : r'.i = r.i
            · right
              by_cases hrr : r' ∈ post
              · exact absurd hne ((hP.before hC hev).2 r' hrr).1
              · by_cases hrp : r' ∈ pre
                · exact absurd hne ((hP.before hC hev).1 r' hrp).1
                · rw [hev] at hr'
                  rcases List.mem_append.1 hr' with h | h
                  · exact absurd h hrr
                  · rcases List.mem_cons.1 h with h | h
                    · rw [h, g2] at k2; exact (Option.some.inj k2).symm
                    · exact absurd h hrp
            · left
              exact ⟨r', hr', by rw [isL_set hun, if_neg hne]; exact k1, k2⟩
          · rintro (⟨r', hr', k1, k2⟩ | rfl)
            · refine ⟨r', hr', ?_, k2⟩
              rw [isL_set hun] at k1
              split at k1
              · cases k1
              · exact k1
            · exact ⟨r, hmem, hun, g2⟩
        · intro p hp
          have := H.get_raw hp
          rw [g3] at this
          exact (Option.some.inj this).symm
      · refine ⟨hP.frm.os, hP.frm.tape, hP.frm.output, ?_, fun c hc hno => ?_⟩
        · have := hP.frm.size
          simp; omega
        · rw [RowKit.Below.heap_alloc _ _ _ (Nat.lt_of_lt_of_le hc hP.frm.size)]
          exact hP.frm.block c hc hno
      · intro c M h0 hM
        by_cases hcb : c = b
        · subst hcb
          rw [Rho.set_same] at hM
          cases hM
          exact .inl hP.frm.size
        · rw [Rho.set_other _ hcb] at hM
          exact hP.made c M h0 hM
      · intro c hc
        rw [Rho.set_other _ (by omega)]
        exact hP.same c hc
      · intro r' hr' hl c hc
        rw [isL_set hun] at hl
        split at hl
        · cases hl
        · rename_i hne
          rw [Rho.set_other _ (hother r' hr' hne c hc)]
          exact hP.nob r' hr' hl c hc

end
end
end Go.AE
