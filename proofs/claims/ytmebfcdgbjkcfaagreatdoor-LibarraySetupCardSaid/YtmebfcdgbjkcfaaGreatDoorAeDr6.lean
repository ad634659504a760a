/-
  Regions that draw: a great operation is run; the whole region.
-/
import Derived.Test.YtmebfcdgbjkcfaaGreatDoorAeDr5
namespace Go.AE

section
variable {Y : Sy} {E : Env}

/-- what a great operation sees -/
noncomputable def bigH (bs : T Nat) (i : Nat) (h : H) (made seen : List Done) : H := ⟨h.t, h.next, maskOf bs i made h.mask, maskOf bs i seen h.prot⟩
/-- behind it -/
def backH (h h' : H) : H := ⟨h'.t, h'.next, h.mask, h.prot⟩

theorem backH_bigH (bs : T Nat) (i : Nat) (h : H) (made seen : List Done) : backH h (bigH bs i h made seen) = h := by cases h; rfl

theorem bigD_eq {bs : T Nat} {i : Nat} {h : H} {made seen : List Done} {k : AV → H → List Done → List Done → Bool} {g : H → KV → Bool} : bigD bs i h made seen k g = g (bigH bs i h made seen) fun v h' => k v (backH h h') made seen := by
  cases h
  rfl

section
variable {L : Lv} {nt : Nat} {rc : Rec} {tm : T AV} {arr : Array Oper} {ord : List Nat} {k : List AV → H → Bool} {ρ₀ : Rho} {h₀ : H} {w₀ : World} {a₀ : Act} {listed : Array Bool} {a : Act} {w : World} {ev : List Rc} {todo : List Nat} {ρ : Rho} {G : H} {seen : List Done}

theorem PInv.bigRel {i : Nat} (hP : PInv Y E L nt rc tm arr ord k ρ₀ h₀ w₀ a₀ listed a w ev (i :: todo) ρ G seen) (hw : Waits arr listed i) : Rel Y E ρ (bigH (befs arr.toList) i G (madeOf ev) seen) w := by
  refine hP.rel.sub (fun b o hb => ?_) (Nat.le_refl _)
  have h1 := H.get_seen hb
  have h2 := H.get_raw hb
  have hnm : b ∉ maskOf (befs arr.toList) i (madeOf ev) G.mask := fun hm => by rw [show (bigH (befs arr.toList) i G (madeOf ev) seen).mask = maskOf (befs arr.toList) i (madeOf ev) G.mask from rfl, (memN_iff _ _).2 hm] at h1; cases h1
  rw [H.get_hide, if_neg, H.get_eq, if_neg]
  · exact h2
  · intro hm
    exact hnm (mem_maskOf.2 (.inl ((memN_iff _ _).1 hm)))
  · intro hm
    obtain ⟨r, hr, h3, h4⟩ := mem_unex.1 hm
    refine hnm (mem_maskOf.2 (.inr ⟨⟨r.i, b⟩, mem_madeOf.2 ⟨r, hr, rfl, h4⟩, ?_, rfl⟩))
    cases hbf : bef (befs arr.toList) i r.i with
    | false => rfl
    | true => rw [hw r.i (hP.lt hr) hbf] at h3; cases h3

/-- a great operation is run -/
theorem PInv.listBig (hE : EnvOk Y E) (hC : Checks E nt arr ord) (hr₀ : Rel Y E ρ₀ h₀ w₀) {i : Nat} (hP : PInv Y E L nt rc tm arr ord k ρ₀ h₀ w₀ a₀ listed a w ev (i :: todo) ρ G seen) (hw : Waits arr listed i)
    {o : Oper} (ho : arr[i]? = some o) {ρ' : Rho} {h' : H} {w' : World} {av : AV} {cv : Value} (hgo : Goes Y E ρ (bigH (befs arr.toList) i G (madeOf ev) seen) w ρ' h' w') (hv : conc Y ρ' av = some cv)
    (hrun : (cDraws E (befs arr.toList) L arr.toList todo (o.dst :: dsR ev)).run rc tm (av :: envR ev) (backH G h') (madeOf ev) seen k = true) :
    PInv Y E L nt rc tm arr ord k ρ₀ h₀ w₀ a₀ (listed.setIfInBounds i true) (a.put o.dst cv) w' (⟨i, o, av, none⟩ :: ev) todo ρ' (backH G h') seen := by
  have hun : isL listed i = false := hP.unl i (by simp)
  have hord := hC.ordk
  have hne : ∀ r ∈ ev, r.i ≠ i ∧ bef (befs arr.toList) r.i i = false := by
    intro r hr
    rw [hP.split] at hord
    have := ordOk_pair hord (x := r.i) (y := i) (by simp; exact ⟨r, hr, rfl⟩) (by simp)
    exact ⟨this.1, this.2.1⟩
  have hnw : ∀ r ∈ ev, isL listed r.i = false → bef (befs arr.toList) i r.i = false := by
    intro r hr hl
    cases hbf : bef (befs arr.toList) i r.i with
    | false => rfl
    | true => rw [hw r.i (hP.lt hr) hbf] at hl; cases hl
  have hsub : ∀ b o, (bigH (befs arr.toList) i G (madeOf ev) seen).get b = some o → G.get b = some o ∧ b ∉ maskOf (befs arr.toList) i (madeOf ev) G.mask := by
    intro b o hb
    have h1 := H.get_seen hb
    have h2 := H.get_raw hb
    have hnm : b ∉ maskOf (befs arr.toList) i (madeOf ev) G.mask := fun hm => by rw [show (bigH (befs arr.toList) i G (madeOf ev) seen).mask = maskOf (befs arr.toList) i (madeOf ev) G.mask from rfl, (memN_iff _ _).2 hm] at h1; cases h1
    refine ⟨?_, hnm⟩
    rw [H.get_eq, if_neg]
    · exact h2
    · intro hm
      exact hnm (mem_maskOf.2 (.inl ((memN_iff _ _).1 hm)))
  have hsubU : ∀ b o, (bigH (befs arr.toList) i G (madeOf ev) seen).get b = some o → (G.hide (unex listed ev)).get b = some o := by
    intro b o hb
    obtain ⟨h1, h2⟩ := hsub b o hb
    rw [H.get_hide, if_neg]
    · exact h1
    · intro hm
      obtain ⟨r, hr, h3, h4⟩ := mem_unex.1 hm
      exact h2 (mem_maskOf.2 (.inr ⟨⟨r.i, b⟩, mem_madeOf.2 ⟨r, hr, rfl, h4⟩, hnw r hr h3, rfl⟩))
  have hnext : G.next ≤ h'.next := hgo.keeps.next
  have hmask' : h'.mask = maskOf (befs arr.toList) i (madeOf ev) G.mask := hgo.keeps.mask
  -- what is masked stays
  have hrawM : ∀ b, b < G.next → b ∈ maskOf (befs arr.toList) i (madeOf ev) G.mask → getO h'.t b = getO G.t b := fun b hb hm => hgo.keeps.raw b hb (.inl ((memN_iff _ _).2 hm))
  have hrawP : ∀ b, b < G.next → b ∈ maskOf (befs arr.toList) i seen G.prot → getO h'.t b = getO G.t b := fun b hb hm => hgo.keeps.raw b hb (.inr ((memN_iff _ _).2 hm))
  have key : ∀ x o M, (bigH (befs arr.toList) i G (madeOf ev) seen).get x = some o → wr (bigH (befs arr.toList) i G (madeOf ev) seen) x o = true → ρ x = some M → w₀.heap.size ≤ M.blk ∨ ∃ c o N, h₀.get c = some o ∧ wr h₀ c o = true ∧ ρ₀ c = some N ∧ N.blk = M.blk := by
    intro x o M hx ha hM
    cases h0 : ρ₀ x with
    | none => exact hP.made x M h0 hM
    | some N =>
      have h1 := hP.le _ _ h0
      rw [h1] at hM
      cases hM
      have hlt : x < h₀.next := by
        rcases Nat.lt_or_ge x h₀.next with h2 | h2
        · exact h2
        · rw [hr₀.fresh x h2] at h0; cases h0
      obtain ⟨o₀, k1, k2⟩ := hP.keeps.old x o hlt (hsub x o hx).1 (wr_alive ha)
      have hpx : memN h₀.prot x = false := by
        cases hpm : memN h₀.prot x with
        | false => rfl
        | true =>
          have h2 : memN (maskOf (befs arr.toList) i seen G.prot) x = false := wr_prot ha
          rw [(memN_iff _ _).2 (mem_maskOf.2 (.inl (by rw [hP.keeps.prot]; exact (memN_iff _ _).1 hpm)))] at h2
          cases h2
      exact .inr ⟨x, o₀, _, k1, wr_mk k2 hpx, h0, rfl⟩
  have hfresh : ∀ b, ρ b ≠ none → b < G.next := by
    intro b hb
    rcases Nat.lt_or_ge b G.next with h | h
    · exact h
    · exact absurd (hP.rel.fresh b h) hb
  have hU : unex (listed.setIfInBounds i true) (⟨i, o, av, none⟩ :: ev) = unex listed ev := by
    unfold unex
    rw [List.filter_cons_of_neg (by simp [isL_set hun])]
    congr 1
    refine List.filter_congr fun r hr => ?_
    rw [isL_set hun, if_neg (hne r hr).1]
  -- a block that is seen behind it: seen by it, or held apart from it
  have hcase : ∀ b p, ((backH G h').hide (unex listed ev)).get b = some p → h'.get b = some p ∨ (b < G.next ∧ b ∈ maskOf (befs arr.toList) i (madeOf ev) G.mask ∧ (G.hide (unex listed ev)).get b = some p) := by
    intro b p hb
    rw [H.get_hide] at hb
    split at hb
    · cases hb
    · rename_i hbU
      by_cases hm : b ∈ maskOf (befs arr.toList) i (madeOf ev) G.mask
      · right
        have hnm : memN G.mask b = false := H.get_seen (h := backH G h') hb
        have hlt : b < G.next := by
          rcases mem_maskOf.1 hm with h | ⟨d, hd, _, hdb⟩
          · rw [(memN_iff _ _).2 h] at hnm; cases hnm
          · obtain ⟨r, hr, _, h4⟩ := mem_madeOf.1 hd
            rw [hdb] at h4
            exact (hP.blkLt r hr b h4).2
        refine ⟨hlt, hm, ?_⟩
        rw [H.get_hide, if_neg hbU, H.get_eq, if_neg (by rw [hnm]; simp), ← hrawM b hlt hm]
        exact H.get_raw (h := backH G h') hb
      · left
        rw [H.get_eq, hmask', if_neg]
        · exact H.get_raw (h := backH G h') hb
        · intro h; exact hm ((memN_iff _ _).1 h)
  -- two blocks, one held apart
  have hapart : ∀ b c p q M N, b < G.next → b ∈ maskOf (befs arr.toList) i (madeOf ev) G.mask → (G.hide (unex listed ev)).get b = some p → h'.get c = some q → p.alive = true → q.alive = true → ρ' b = some M → ρ' c = some N → M.blk ≠ N.blk := by
    intro b c p q M N hb hbm hbg hcg hpa hqa hM hN e
    have hMρ : ρ b = some M := by rw [← hgo.same b hb]; exact hM
    have hclash : ∀ c' q' N', (bigH (befs arr.toList) i G (madeOf ev) seen).get c' = some q' → q'.alive = true → ρ c' = some N' → N'.blk = M.blk → False := by
      intro c' q' N' h1 h2 h3 h4
      have := hP.rel.inj b c' p q' M N' hbg (hsubU c' q' h1) hpa h2 hMρ h3 h4.symm
      subst this
      exact (hsub b q' h1).2 hbm
    rcases Nat.lt_or_ge c G.next with hc | hc
    · obtain ⟨q₀, k1, k2⟩ := hgo.keeps.old c q hc hcg hqa
      have hNρ : ρ c = some N := by rw [← hgo.same c hc]; exact hN
      exact hclash c q₀ N k1 k2 hNρ e.symm
    · have hcn : ρ c = none := hP.rel.fresh c hc
      rcases hgo.made c N hcn hN with h1 | ⟨c', q', N', h1, h2, h3, h4⟩
      · have := hP.rel.bound b M hMρ
        omega
      · exact hclash c' q' N' h1 (wr_alive h2) h3 (h4.trans e.symm)
  refine ⟨?_, ?_, hrun, ?_, ?_, closed_set hP.closed hun hw, Rho.le_trans hP.le hgo.le, ?_, ?_, ⟨hP.keeps.mask, hP.keeps.prot, Nat.le_trans hP.keeps.next hnext, ?_, ?_⟩, ?_, ?_, ?_, ?_, ?_, ?_, ?_, by rw [put_size]; exact hP.size, by rw [put_defers]; exact hP.defers⟩
  · rw [hP.split]; simp
  · intro r hr
    rcases List.mem_cons.1 hr with rfl | hr
    · exact ho
    · exact hP.opers r hr
  · intro j hj
    rw [isL_set hun, if_neg]
    · exact hP.unl j (by simp [hj])
    · rw [hP.split] at hord
      have e : (ev.map fun r => r.i).reverse ++ i :: todo = ((ev.map fun r => r.i).reverse ++ [i]) ++ todo := by simp
      rw [e] at hord
      have := (ordOk_pair hord (x := i) (y := j) (by simp) hj).1
      exact fun e => this e.symm
  · intro r hr hb
    rcases List.mem_cons.1 hr with rfl | hr
    · rw [isL_set hun, if_pos rfl]
    · exact isL_mono hun (hP.bigs r hr hb)
  · rw [hU]
    refine ⟨fun b p hb ha => ?_, fun b c p q M N hb hc hpa hqa hM hN e => ?_, fun b hb => hgo.rel.fresh b hb, hgo.rel.bound⟩
    · rcases hcase b p hb with h1 | ⟨h1, h2, h3⟩
      · exact hgo.rel.obj b p h1 ha
      · obtain ⟨M, ob, k1, k2, k3⟩ := hP.rel.obj b p h3 ha
        refine ⟨M, ob, hgo.le _ _ k1, ?_, k3.mono hgo.le⟩
        rw [hgo.frm.block M.blk (hP.rel.bound b M k1) fun c q N hc hqa hN e => ?_]
        · exact k2
        · have := hP.rel.inj b c p q M N h3 (hsubU c q hc) ha (wr_alive hqa) k1 hN e.symm
          subst this
          exact (hsub b q hc).2 h2
    · rcases hcase b p hb with h1 | ⟨h1, h2, h3⟩
      · rcases hcase c q hc with g1 | ⟨g1, g2, g3⟩
        · exact hgo.rel.inj b c p q M N h1 g1 hpa hqa hM hN e
        · exact absurd e.symm (hapart c b q p N M g1 g2 g3 h1 hqa hpa hN hM)
      · rcases hcase c q hc with g1 | ⟨g1, g2, g3⟩
        · exact absurd e (hapart b c p q M N h1 h2 h3 g1 hpa hqa hM hN)
        · exact hP.rel.inj b c p q M N h3 g3 hpa hqa (by rw [← hgo.same b h1]; exact hM) (by rw [← hgo.same c g1]; exact hN) e
  · refine ⟨hgo.frm.os.trans hP.frm.os, hgo.frm.tape.trans hP.frm.tape, hgo.frm.output.trans hP.frm.output, Nat.le_trans hP.frm.size hgo.frm.size, fun c hc hno => ?_⟩
    rw [hgo.frm.block c (Nat.lt_of_lt_of_le hc hP.frm.size) fun x p M hx ha hM e => ?_]
    · exact hP.frm.block c hc hno
    · rcases key x p M hx ha hM with h1 | ⟨y, q, N, k1, k2, k3, k4⟩
      · omega
      · exact hno y q N k1 k2 k3 (k4.trans e)
  · intro b hb hmp
    show getO h'.t b = _
    have hlt : b < G.next := Nat.lt_of_lt_of_le hb hP.keeps.next
    rw [← hP.keeps.raw b hb hmp]
    rcases hmp with h1 | h1
    · exact hrawM b hlt (mem_maskOf.2 (.inl (by rw [hP.keeps.mask]; exact (memN_iff _ _).1 h1)))
    · exact hrawP b hlt (mem_maskOf.2 (.inl (by rw [hP.keeps.prot]; exact (memN_iff _ _).1 h1)))
  · intro b p hb hg ha
    have hlt : b < G.next := Nat.lt_of_lt_of_le hb hP.keeps.next
    have hnm : memN G.mask b = false := H.get_seen (h := backH G h') hg
    have hnM : b ∉ maskOf (befs arr.toList) i (madeOf ev) G.mask := by
      intro hm
      rcases mem_maskOf.1 hm with h | ⟨d, hd, _, hdb⟩
      · rw [(memN_iff _ _).2 h] at hnm; cases hnm
      · obtain ⟨r, hr, _, h4⟩ := mem_madeOf.1 hd
        rw [hdb] at h4
        have := (hP.blkLt r hr b h4).1
        omega
    have hg' : h'.get b = some p := by
      rw [H.get_eq, hmask', if_neg]
      · exact H.get_raw (h := backH G h') hg
      · intro h; exact hnM ((memN_iff _ _).1 h)
    obtain ⟨o₁, k1, k2⟩ := hgo.keeps.old b p hlt hg' ha
    exact hP.keeps.old b o₁ hb (hsub b o₁ k1).1 k2
  · intro b M h0 hM
    cases hb : ρ b with
    | none =>
      rcases hgo.made b M hb hM with h1 | ⟨c, q, N, h1, h2, h3, h4⟩
      · exact .inl (Nat.le_trans hP.frm.size h1)
      · rcases key c q N h1 h2 h3 with h5 | ⟨y, p, N', k1, k2, k3, k4⟩
        · exact .inl (h4 ▸ h5)
        · exact .inr ⟨y, p, N', k1, k2, k3, k4.trans h4⟩
    | some N =>
      have := hgo.le _ _ hb
      rw [this] at hM
      cases hM
      exact hP.made b _ h0 hb
  · intro b hb
    rw [hgo.same b (Nat.lt_of_lt_of_le hb hP.keeps.next)]
    exact hP.same b hb
  · intro r hr hl b hb
    rcases List.mem_cons.1 hr with rfl | hr
    · cases hb
    · rw [isL_set hun, if_neg (hne r hr).1] at hl
      rw [hgo.same b (hP.blkLt r hr b hb).2]
      exact hP.nob r hr hl b hb
  · intro r hr b hb
    rcases List.mem_cons.1 hr with rfl | hr
    · cases hb
    · have := hP.blkLt r hr b hb
      exact ⟨this.1, Nat.lt_of_lt_of_le this.2 hnext⟩
  · intro r hr r' hr' b hb hb'
    rcases List.mem_cons.1 hr with rfl | hr
    · cases hb
    · rcases List.mem_cons.1 hr' with rfl | hr'
      · cases hb'
      · exact hP.uniq r hr r' hr' b hb hb'
  · have e : (⟨i, o, av, none⟩ :: ev : List Rc).filter (fun r => isL (listed.setIfInBounds i true) r.i) = ⟨i, o, av, none⟩ :: ev.filter fun r => isL listed r.i := by
      rw [List.filter_cons_of_pos (by simp [isL_set hun])]
      congr 1
      refine List.filter_congr fun r hr => ?_
      rw [isL_set hun, if_neg (hne r hr).1]
    rw [e]
    have := (hP.regs.mono hgo.le)
    refine LRel.insert (A := []) (r := ⟨i, o, av, none⟩) this hv fun d hd => ⟨?_, fun r' hr' => by cases hr'⟩
    rw [hP.size]
    exact hC.dsts i o d ho hd
  · intro post r pre he hl
    cases post with
    | nil =>
      simp only [List.nil_append, List.cons.injEq] at he
      obtain ⟨rfl, rfl⟩ := he
      rw [isL_set hun, if_pos rfl] at hl
      cases hl
    | cons r' post =>
      simp only [List.cons_append, List.cons.injEq] at he
      obtain ⟨_, he⟩ := he
      have hr : r ∈ ev := by rw [he]; simp
      rw [isL_set hun, if_neg (hne r hr).1] at hl
      refine (hP.facts post r pre he hl).move hE hnext (fun _ h => h) (fun b hs hb => H.get_congr rfl (hrawP b hb (mem_maskOf.2 (.inr ⟨⟨r.i, b⟩, hs, hnw r hr hl, rfl⟩)))) fun b hbk hb => hrawM b hb (mem_maskOf.2 (.inr ⟨⟨r.i, b⟩, mem_madeOf.2 ⟨r, hr, rfl, hbk⟩, hnw r hr hl, rfl⟩))

theorem PInv.runBig (hE : EnvOk Y E) (hrc : RecOk Y E rc) (hC : Checks E nt arr ord) (hng : L.ng = E.ng) (hg₀ : Glob E ρ₀) (hr₀ : Rel Y E ρ₀ h₀ w₀) {i : Nat} (hP : PInv Y E L nt rc tm arr ord k ρ₀ h₀ w₀ a₀ listed a w ev (i :: todo) ρ G seen) (hbig : bigAt E arr.toList i = true) (hw : Waits arr listed i)
    {ro : Option Nat} {n : Nat} {Q : Exit → Act → World → Prop} {K : Act → World → Prop} {o : Oper} (ho : arr[i]? = some o)
    (hK : ∀ a' w' ev' ρ' G', PInv Y E L nt rc tm arr ord k ρ₀ h₀ w₀ a₀ (listed.setIfInBounds i true) a' w' ev' todo ρ' G' seen → K a' w') : wpOpIn (fence ro) n E.P arr Q i K a w := by
  have hglob := hg₀.mono hP.le
  have ho' : arr.toList[i]? = some o := by rw [Array.getElem?_toList]; exact ho
  have hb : isBig (cOp E o.op) = true := by
    unfold bigAt at hbig
    rw [ho'] at hbig
    exact hbig
  have hord := hC.ordk
  have hag : ∀ t, t ∈ looks arr.toList o → look t (ev.filter fun r => isL listed r.i) = look t ev := by
    intro t ht
    refine look_filter fun r hr hd => ?_
    rw [hP.split] at hord
    have h1 := ordOk_pair hord (x := r.i) (y := i) (by simp; exact ⟨r, hr, rfl⟩) (by simp)
    rcases hC.pairs i r.i o r.o t ho (hP.opers r hr) (fun e => h1.1 e.symm) hd (.inl ht) with h | h
    · exact hw r.i (hP.lt hr) h
    · rw [h1.2.1] at h; cases h
  have hrun := hP.run
  rw [cDraws_cons ho'] at hrun
  have hrel := hP.bigRel hw
  unfold wpOpIn
  rw [ho]
  dsimp only
  rcases cDraw1_eq hrun with ⟨hg, hk⟩ | ⟨hg, hk⟩
  · rw [hg.wanted hng hglob hP.regs hag, if_pos rfl]
    have hx1 : ∀ x X, x ∈ kxs (cOp E o.op) → cX L (dsR ev) x = some X → conc Y ρ (X tm (envR ev)) = some (a.eval x) := fun x X hm hx => cX_look hx hP.regs (fun t ht => hag t (looks_operand (by rw [← ht]; exact hm))) hglob hng
    have hag' : ∀ t, Operand.tmp t ∈ kxs (cOp E o.op) → look t (ev.filter fun r => isL listed r.i) = look t ev := fun t ht => hag t (looks_operand ht)
    have hok := cOp_ok (Y := Y) hE o
    have next : ∀ v w', PostV Y E ρ (bigH (befs arr.toList) i G (madeOf ev) seen) w (fun v h' => (cDraws E (befs arr.toList) L arr.toList todo (o.dst :: dsR ev)).run rc tm (v :: envR ev) (backH G h') (madeOf ev) seen k) (.returned v) w' → K (a.put o.dst v) w' := by
      rintro v w' ⟨ρ', h', av, hgo, hv, hk'⟩
      exact hK _ _ _ _ _ (hP.listBig hE hC hr₀ hw ho hgo hv hk')
    have nd : ∀ c, o.op ≠ .defer c := by
      intro c h
      rw [h] at hk
      cases hc : c.callee <;> (simp only [cOp, hc] at hk; cases hk)
    refine ⟨fun _ _ => trivial, ?_⟩
    rw [Oper.semAt_eq _ _ _ nd]
    refine upon_of_big ?_ next
    cases hc : cOp E o.op with
    | b2 x y g =>
      rw [hc] at hk hok hx1
      simp only [drawK] at hk
      cases hx : cX L (dsR ev) x with
      | none => rw [hx] at hk; cases hk
      | some X =>
        cases hy : cX L (dsR ev) y with
        | none => rw [hx, hy] at hk; cases hk
        | some Z =>
          rw [hx, hy] at hk
          dsimp only at hk
          rw [bigD_eq] at hk
          obtain ⟨h', hv, hk⟩ := optK_eq.1 hk
          obtain ⟨w', k1, k2⟩ := hok ρ a.eval w _ h' _ _ hrel (hx1 x X (by simp [kxs]) hx) (hx1 y Z (by simp [kxs]) hy) hv
          rw [k1]
          exact ⟨ρ, h', undefA, k2, rfl, hk⟩
    | bn xs g =>
      rw [hc] at hk hok hag'
      simp only [drawK] at hk
      cases hx : cXs L (dsR ev) xs with
      | none => rw [hx] at hk; cases hk
      | some X =>
        rw [hx] at hk
        dsimp only at hk
        rw [bigD_eq] at hk
        exact hok rc _ ρ a.eval w _ _ hrc hrel hglob (cXs_look hP.regs hglob hng hx hag') hk
    | p1 x g => rw [hc] at hb; cases hb
    | p2 x y g => rw [hc] at hb; cases hb
    | pn xs g => rw [hc] at hb; cases hb
    | r1 x g => rw [hc] at hb; cases hb
    | r2 x y g => rw [hc] at hb; cases hb
    | rn xs bk g => rw [hc] at hb; cases hb
    | a1 x g => rw [hc] at hb; cases hb
    | an xs g => rw [hc] at hb; cases hb
    | df xs g => rw [hc] at hk; cases hk
    | bad => rw [hc] at hk; cases hk
  · rw [hg.wanted hng hglob hP.regs hag, if_neg (by simp)]
    refine ⟨fun _ _ => trivial, hK _ _ _ _ _ (hP.listBig hE hC hr₀ hw ho (Goes.refl hrel) (av := undefA) rfl ?_)⟩
    rw [backH_bigH]
    exact hk

/-! ### The whole region -/
/-- how many have not been run -/
def unl (listed : Array Bool) (l : List Nat) : Nat := l.countP fun i => !isL listed i

theorem unl_set {listed : Array Bool} {i : Nat} (hi : isL listed i = false) : ∀ (l : List Nat), i ∈ l → unl (listed.setIfInBounds i true) l < unl listed l
  | [], h => by cases h
  | j :: l, h => by
    have hle : ∀ l : List Nat, unl (listed.setIfInBounds i true) l ≤ unl listed l := by
      intro l
      refine List.countP_mono_left fun x _ hx => ?_
      rw [isL_set hi] at hx
      split at hx
      · cases hx
      · exact hx
    unfold unl at hle ⊢
    rw [List.countP_cons, List.countP_cons]
    by_cases hji : j = i
    · subst hji
      have := hle l
      rw [isL_set hi, if_pos rfl, hi]
      simp only [Bool.not_true, Bool.false_eq_true, if_false, Bool.not_false, if_true]
      omega
    · rcases List.mem_cons.1 h with h | h
      · exact absurd h.symm hji
      · have := unl_set hi l h
        unfold unl at this
        rw [isL_set hi, if_neg hji]
        omega

theorem draw_any (hE : EnvOk Y E) (hrc : RecOk Y E rc) (hC : Checks E nt arr ord) (hng : L.ng = E.ng) (hg₀ : Glob E ρ₀) (hr₀ : Rel Y E ρ₀ h₀ w₀) {ro : Option Nat} {n : Nat} {Q : Exit → Act → World → Prop}
    (hQ : ∀ listed a w ev ρ G seen, PInv Y E L nt rc tm arr ord k ρ₀ h₀ w₀ a₀ listed a w ev [] ρ G seen → (∀ r ∈ ev, isL listed r.i = true) → Q .normal a w) :
    ∀ (fuel : Nat) (listed : Array Bool) (a : Act) (w : World) (ev : List Rc) (todo : List Nat) (ρ : Rho) (G : H) (seen : List Done), PInv Y E L nt rc tm arr ord k ρ₀ h₀ w₀ a₀ listed a w ev todo ρ G seen →
      (todo = [] ∨ ∃ i r, todo = i :: r ∧ bigAt E arr.toList i = true) → listed.size = arr.size → unl listed (List.range arr.size) ≤ fuel → wpAnyIn (fence ro) n E.P .any arr Q fuel listed a w := by
  have fin : ∀ (listed : Array Bool) (a : Act) (w : World) (ev : List Rc) (todo : List Nat) (ρ : Rho) (G : H) (seen : List Done), PInv Y E L nt rc tm arr ord k ρ₀ h₀ w₀ a₀ listed a w ev todo ρ G seen → (∀ i, i < arr.size → isL listed i = true) → listed.size = arr.size → Q .normal a w := by
    intro listed a w ev todo ρ G seen hP hall hsz
    have ht : todo = [] := by
      cases todo with
      | nil => rfl
      | cons j todo =>
        have h1 := hP.unl j (by simp)
        have hj : j < arr.size := by
          rcases Nat.lt_or_ge j listed.size with h | h
          · omega
          · simp [isL, Array.getElem?_eq_none h] at h1
        rw [hall j hj] at h1; cases h1
    subst ht
    exact hQ listed a w ev ρ G seen hP fun r hr => hall r.i (hP.lt hr)
  have lt_of_un : ∀ (listed : Array Bool) (i : Nat), listed.size = arr.size → isL listed i = false → i < arr.size := by
    intro listed i hsz h1
    rcases Nat.lt_or_ge i listed.size with h | h
    · omega
    · simp [isL, Array.getElem?_eq_none h] at h1
  intro fuel
  induction fuel with
  | zero =>
    intro listed a w ev todo ρ G seen hP htodo hsz hf
    have hall : ∀ i, i < arr.size → isL listed i = true := by
      intro i hi
      cases h : isL listed i with
      | true => rfl
      | false =>
        have : 0 < unl listed (List.range arr.size) := List.countP_pos_iff.2 ⟨i, List.mem_range.2 hi, by simp [h]⟩
        omega
    refine ⟨?_, fin listed a w ev todo ρ G seen hP hall hsz⟩
    cases hr : Region.ready .any arr listed with
    | nil => rfl
    | cons j l =>
      have hj : j ∈ Region.ready .any arr listed := by rw [hr]; simp
      have h1 := (mem_ready.1 hj).1
      have h2 := hall j (lt_of_un listed j hsz h1)
      rw [show isL listed j = listed.getD j true from rfl, h1] at h2
      cases h2
  | succ fuel ih =>
    intro listed a w ev todo ρ G seen hP htodo hsz hf
    refine ⟨fun hr => ?_, fun i hi => ?_⟩
    · refine fin listed a w ev todo ρ G seen hP ?_ hsz
      intro i
      induction i using Nat.strongRecOn with
      | _ i ihi =>
        intro hlt
        cases h : isL listed i with
        | true => rfl
        | false =>
          exfalso
          have hoi : arr[i]? = some arr[i] := Array.getElem?_eq_getElem hlt
          have : i ∈ Region.ready .any arr listed := mem_ready.2 ⟨h, arr[i], hoi, fun e he hbd => by
            rw [binds_any] at hbd
            have h1 := hC.edges i _ hoi e he hbd
            have h2 := ihi e.on h1 (by omega)
            have h3 : e.on < listed.size := by omega
            simpa [isL, h3] using h2⟩
          rw [hr] at this
          cases this
    · obtain ⟨h1, o, ho, h2⟩ := mem_ready.1 hi
      have hun : isL listed i = false := h1
      have hlt := lt_of_un listed i hsz hun
      have hw : Waits arr listed i := by
        intro j hj hb
        obtain ⟨e, he, hbd, hej⟩ := hC.close i o j ho hj hb
        have h3 := h2 e he (by rw [binds_any]; exact hbd)
        have h4 := hC.edges i o ho e he hbd
        have h5 : e.on < listed.size := by omega
        have h6 : isL listed e.on = true := by simpa [isL, h5] using h3
        rcases hej with rfl | hej
        · exact h6
        · exact hP.closed e.on j (by omega) hj h6 hej
      have hsz' : (listed.setIfInBounds i true).size = arr.size := by simpa using hsz
      have hcnt : unl (listed.setIfInBounds i true) (List.range arr.size) ≤ fuel := by
        have := unl_set hun (List.range arr.size) (List.mem_range.2 hlt)
        omega
      have hmem := hC.cover i hlt
      rw [hP.split, List.mem_append] at hmem
      rcases hmem with hmem | hmem
      · simp only [List.mem_reverse, List.mem_map] at hmem
        obtain ⟨r, hr, rfl⟩ := hmem
        obtain ⟨post, pre, hev⟩ := List.append_of_mem hr
        refine hP.runSmall hE hC hng hg₀ hev hun hw fun a' w' ρ' hP' => ?_
        exact ih _ _ _ _ _ _ _ _ hP' htodo hsz' hcnt
      · rcases htodo with rfl | ⟨j, rest, rfl, hbig⟩
        · cases hmem
        · have hij : i = j := by
            rcases List.mem_cons.1 hmem with h | h
            · exact h
            · exfalso
              have hord := hC.ordk
              rw [hP.split] at hord
              have e : (ev.map fun r => r.i).reverse ++ j :: rest = ((ev.map fun r => r.i).reverse ++ [j]) ++ rest := by simp
              rw [e] at hord
              have hb := (ordOk_pair hord (x := j) (y := i) (by simp) h).2.2 hbig
              have hjun := hP.unl j (by simp)
              rw [hw j (lt_of_un listed j hsz hjun) hb] at hjun
              cases hjun
          subst hij
          refine hP.runBig hE hrc hC hng hg₀ hr₀ hbig hw ho fun a' w' ev' ρ' G' hP' => ?_
          obtain ⟨ev'', todo'', G'', seen'', hP'', ht''⟩ := PInv.smalls hE _ _ _ _ hP'
          exact ih _ _ _ _ _ _ _ _ hP'' ht'' hsz' hcnt

end

theorem ordDsts_eq (ops : List Oper) : ∀ (l : List Nat) (ds : List (Option Tmp)), ordDsts ops l ds = (l.map fun i => (match ops[i]? with | some o => o.dst | none => none)).reverse ++ ds
  | [], ds => rfl
  | i :: l, ds => by
    have : ordDsts ops (i :: l) ds = ordDsts ops l ((match ops[i]? with | some o => o.dst | none => none) :: ds) := rfl
    rw [this, ordDsts_eq ops l]
    simp

theorem checks_of {nt : Nat} {arr : Array Oper} {ord : List Nat} (h : drawOk E arr.toList ord = true) (hd : ∀ d, some d ∈ ordDsts arr.toList ord [] → d < nt) : Checks E nt arr ord := by
  unfold drawOk at h
  simp only [Bool.and_eq_true] at h
  obtain ⟨h1, h2, h3, h4⟩ := h
  have hget : ∀ i o, arr[i]? = some o → arr.toList[i]? = some o := fun i o ho => by rw [Array.getElem?_toList]; exact ho
  have hcov := coverOk_at h3
  refine ⟨fun i j oi oj d hi hj hne hdj hl => ?_, fun i o hi e he hb => ?_, h2, fun i hi => hcov i (by simpa using hi), fun i o j hi hj hb => ?_, fun i o d hi hdo => ?_⟩
  · have h5 := (drawOkFrom_at h1 i oi (hget i oi hi)).2
    have h6 := pairsOk_at h5 j oj (hget j oj hj)
    simp only [Nat.zero_add] at h6
    exact pairOk_spec h6 hdj hne hl
  · have h5 := (drawOkFrom_at h1 i o (hget i o hi)).1
    simp only [Nat.zero_add] at h5
    exact edgesOk_at h5 e (by simpa using he) hb
  · have h5 := closeOk_at h4 i o (hget i o hi) j (by simpa using hj) (by simpa using hb)
    obtain ⟨e, he, h6⟩ := h5
    exact ⟨e, by simpa using he, h6⟩
  · have hlt : i < arr.size := by
      rcases Nat.lt_or_ge i arr.size with h | h
      · exact h
      · rw [Array.getElem?_eq_none h] at hi; cases hi
    refine hd d ?_
    rw [ordDsts_eq]
    simp only [List.append_nil, List.mem_reverse, List.mem_map]
    exact ⟨i, hcov i (by simpa using hlt), by rw [hget i o hi]; exact hdo⟩

theorem smallsFrom_lt {bs : T Nat} {bigs : List Nat} {k : Nat} : ∀ (l : List Oper) (i : Nat), ∀ p ∈ smallsFrom E bs bigs k l i, p.1 < i + l.length
  | [], _, p, hp => by cases hp
  | o :: r, i, p, hp => by
    have ih := smallsFrom_lt (bs := bs) (bigs := bigs) (k := k) r (i + 1)
    simp only [smallsFrom] at hp
    simp only [List.length_cons]
    split at hp
    · have := ih p hp; omega
    · split at hp
      · rcases List.mem_cons.1 hp with rfl | hp
        · dsimp only; omega
        · have := ih p hp; omega
      · have := ih p hp; omega

theorem canonFrom_lt {bs : T Nat} {ops : List Oper} {bigs : List Nat} : ∀ (l : List Nat) (k : Nat), ∀ p ∈ canonFrom E bs ops bigs l k, p.1 < ops.length
  | [], k, p, hp => by
    have := smallsFrom_lt ops 0 p hp
    omega
  | b :: r, k, p, hp => by
    simp only [canonFrom] at hp
    rcases List.mem_append.1 hp with hp | hp
    · have := smallsFrom_lt ops 0 p hp
      omega
    · split at hp
      · rename_i o ho
        rcases List.mem_cons.1 hp with rfl | hp
        · rcases Nat.lt_or_ge b ops.length with h | h
          · exact h
          · rw [List.getElem?_eq_none h] at ho; cases ho
        · exact canonFrom_lt r (k + 1) p hp
      · cases hp

theorem canon_lt {ops : List Oper} : ∀ p ∈ canon E ops, p.1 < ops.length := fun p hp => canonFrom_lt _ _ p hp

theorem draw_ok (hE : EnvOk Y E) {L : Lv} {nt : Nat} (hng : L.ng = E.ng) (id : Nat) (ops : Array Oper) : CodeOk Y E L nt (.region id ops true) (cDraw E L nt ops.toList) := by
  intro rc ro cro ρ h w a tm df kn ke kr n hrc hr hg hro hf hk
  unfold cDraw at hk
  cases hdo : drawOk E ops.toList (ordOf E ops.toList) with
  | false => rw [hdo] at hk; cases hk
  | true =>
    rw [hdo] at hk
    dsimp only at hk
    cases hfl : flushOf L nt (ordDsts ops.toList (ordOf E ops.toList) []) 0 [] with
    | none => rw [hfl] at hk; cases hk
    | some fl =>
      rw [hfl] at hk
      dsimp only at hk
      have hC : Checks E nt ops (ordOf E ops.toList) := checks_of hdo fun d hd => flushOf_lt hfl d hd
      have hr' : Rel Y E ρ h { w with drawn := w.drawn + 1 } := hr.of_heap rfl
      refine wpIn_region_any hE.mixed ?_
      have hunl : ∀ i, i < ops.size → isL (Array.replicate ops.size false) i = false := by
        intro i hi
        simp [isL, hi]
      have hord : ∀ i ∈ ordOf E ops.toList, isL (Array.replicate ops.size false) i = false := by
        intro i hi
        obtain ⟨p, hp, rfl⟩ := List.mem_map.1 hi
        rcases Nat.lt_or_ge p.1 ops.size with h | h
        · exact hunl _ h
        · have := canon_lt p hp
          simp at this
          omega
      have hP : PInv Y E L nt rc tm ops (ordOf E ops.toList) (fun env h' => kn (flush fl env tm) df h') ρ h { w with drawn := w.drawn + 1 } a (Array.replicate ops.size false) a { w with drawn := w.drawn + 1 } [] (ordOf E ops.toList) ρ h [] := by
        refine ⟨rfl, (fun r hr => by cases hr), hk, hord, (fun r hr => by cases hr), (fun i j hi hj hl => by rw [hunl i hi] at hl; cases hl), Rho.le_refl _, ?_, Frm.refl _ _ _, Keeps.refl _, (fun b M h0 h1 => by rw [h0] at h1; cases h1), fun _ _ => rfl, (fun r hr => by cases hr), (fun r hr => by cases hr), (fun r hr => by cases hr), ?_, (fun post r pre he => by simp at he), hf.size, rfl⟩
        · refine hr'.sub (fun b o hb => ?_) (Nat.le_refl _)
          rw [H.get_hide] at hb
          split at hb
          · cases hb
          · exact hb
        · intro t
          exact ⟨(fun v hv => by cases hv), fun _ hl => hf.tmps t hl⟩
      obtain ⟨ev', todo', G', seen', hP', ht'⟩ := PInv.smalls hE _ _ _ _ hP
      refine draw_any hE hrc hC hng hg hr' ?_ ops.size _ _ _ _ _ _ _ _ hP' ht' (by simp) ?_
      · intro listed a' w' ev ρ' G seen hP hall
        have hU : unex listed ev = [] := by
          unfold unex
          rw [List.filter_eq_nil_iff.2 fun r hr => by simp [hall r hr]]
          rfl
        have hrel := hP.rel
        rw [hU] at hrel
        have hrel' : Rel Y E ρ' G w' := by
          refine hrel.sub (fun b o hb => ?_) (Nat.le_refl _)
          rw [H.get_hide]
          simpa using hb
        have hregs := hP.regs
        rw [List.filter_eq_self.2 fun r hr => hall r hr] at hregs
        have hds : dsR ev = ordDsts ops.toList (ordOf E ops.toList) [] := by
          rw [ordDsts_eq, hP.split]
          simp only [List.append_nil, List.map_reverse, List.reverse_reverse, List.map_map]
          unfold dsR
          refine List.map_congr_left fun r hr => ?_
          have := hP.opers r hr
          simp [this]
        have herel := hregs.erel
        rw [hds] at herel
        have hgo : Goes Y E ρ h w ρ' G w' := ⟨hP.le, hrel', ⟨hP.frm.os, hP.frm.tape, hP.frm.output, hP.frm.size, hP.frm.block⟩, hP.keeps, hP.made, hP.same⟩
        exact ⟨ρ', G, _, df, hgo, ⟨herel.flush hfl, hP.size, by rw [hP.defers]; exact hf.defs.mono hP.le⟩, hP.run⟩
      · unfold unl
        exact Nat.le_trans List.countP_le_length (by simp)

theorem evGo_ok (hE : EnvOk Y E) (lf n : Nat) : RecOk Y E (evGo E lf n) := evGo_ok_of hE (fun _ _ hng id ops => draw_ok hE hng id ops) lf n

end
end Go.AE
