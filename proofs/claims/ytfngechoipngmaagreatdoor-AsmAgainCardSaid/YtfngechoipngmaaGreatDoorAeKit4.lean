/-
  AeDr6: Regions that draw: a great operation is run; the whole region.
  AeUse: The evaluator in use: tables, closed calls, what a row asks.
  AeKnow: Calls whose outcome is known already; runs with them.
  AeOpen: What a law's row asks: arguments without memory of their own, the reading behind the call.
  AeCls: Arguments that are known in part: numbers from here to there, strings of so many bytes, values of the engine's language (two numbers and a string).
  AeSum: Calls whose outcome is known already for a part of the heap: what was there, what is there now. A long run is cut at such calls.
  AeGlob: Runs that read the program's own variables: what these hold is known, and none is written.
  AePrim: Functions of the library whose outcome is reckoned (the place of a part in a string, how often a byte is in it): an evaluator that knows them, for every string that is spelled out.
  AeQuiet: Calls that read the program's own variables alone and leave nothing behind: what they answer is known wherever these lie as they were.
-/
import Derived.Test.YtfngechoipngmaaGreatDoorAeKit3
import Derived.Below
import Derived.ChangeSame
import Derived.WideKeyArgs
import Derived.OpenShut
import Derived.Lib.Bytealg
import Derived.Lib.Index

namespace Go.AE

section
variable {Y : Sy} {E : Env}

/-- what a great operation sees -/
noncomputable def bigH (bs : T Nat) (i : Nat) (h : H) (made seen : List Done) : H := ⟨h.t, h.next, maskOf bs i made h.mask, maskOf bs i seen h.prot⟩
/-- behind it -/
def backH (h h' : H) : H := ⟨h'.t, h'.next, h.mask, h.prot⟩

theorem backH_bigH (bs : T Nat) (i : Nat) (h : H) (made seen : List Done) : backH h (bigH bs i h made seen) = h := by cases h; rfl

theorem bigD_eq {bs : T Nat} {i : Nat} {h : H} {made seen : List Done} {k : AV → H → List Done → List Done → Bool} {g : H → KV → Bool} : bigD bs i h made seen k g = g (bigH bs i h made seen) fun v h' => k v (backH h h') made seen := by
  cases h
  rfl

section
variable {L : Lv} {nt : Nat} {rc : Rec} {tm : T AV} {arr : Array Oper} {ord : List Nat} {k : List AV → H → Bool} {ρ₀ : Rho} {h₀ : H} {w₀ : World} {a₀ : Act} {listed : Array Bool} {a : Act} {w : World} {ev : List Rc} {todo : List Nat} {ρ : Rho} {G : H} {seen : List Done}

theorem PInv.bigRel {i : Nat} (hP : PInv Y E L nt rc tm arr ord k ρ₀ h₀ w₀ a₀ listed a w ev (i :: todo) ρ G seen) (hw : Waits arr listed i) : Rel Y E ρ (bigH (befs arr.toList) i G (madeOf ev) seen) w := by
  refine hP.rel.sub (fun b o hb => ?_) (Nat.le_refl _)
  have h1 := H.get_seen hb
  have h2 := H.get_raw hb
  have hnm : b ∉ maskOf (befs arr.toList) i (madeOf ev) G.mask := fun hm => by rw [show (bigH (befs arr.toList) i G (madeOf ev) seen).mask = maskOf (befs arr.toList) i (madeOf ev) G.mask from rfl, (memN_iff _ _).2 hm] at h1; cases h1
  rw [H.get_hide, if_neg, H.get_eq, if_neg]
  · exact h2
  · intro hm
    exact hnm (mem_maskOf.2 (.inl ((memN_iff _ _).1 hm)))
  · intro hm
    obtain ⟨r, hr, h3, h4⟩ := mem_unex.1 hm
    refine hnm (mem_maskOf.2 (.inr ⟨⟨r.i, b⟩, mem_madeOf.2 ⟨r, hr, rfl, h4⟩, ?_, rfl⟩))
    cases hbf : bef (befs arr.toList) i r.i with
    | false => rfl
    | true => rw [hw r.i (hP.lt hr) hbf] at h3; cases h3

/-- a great operation is run -/
theorem PInv.listBig (hE : EnvOk Y E) (hC : Checks E nt arr ord) (hr₀ : Rel Y E ρ₀ h₀ w₀) {i : Nat} (hP : PInv Y E L nt rc tm arr ord k ρ₀ h₀ w₀ a₀ listed a w ev (i :: todo) ρ G seen) (hw : Waits arr listed i)
    {o : Oper} (ho : arr[i]? = some o) {ρ' : Rho} {h' : H} {w' : World} {av : AV} {cv : Value} (hgo : Goes Y E ρ (bigH (befs arr.toList) i G (madeOf ev) seen) w ρ' h' w') (hv : conc Y ρ' av = some cv)
    (hrun : (cDraws E (befs arr.toList) L arr.toList todo (o.dst :: dsR ev)).run rc tm (av :: envR ev) (backH G h') (madeOf ev) seen k = true) :
    PInv Y E L nt rc tm arr ord k ρ₀ h₀ w₀ a₀ (listed.setIfInBounds i true) (a.put o.dst cv) w' (⟨i, o, av, none⟩ :: ev) todo ρ' (backH G h') seen := by
  have hun : isL listed i = false := hP.unl i (by simp)
  have hord := hC.ordk
  have hne : ∀ r ∈ ev, r.i ≠ i ∧ bef (befs arr.toList) r.i i = false := by
    intro r hr
    rw [hP.split] at hord
    have := ordOk_pair hord (x := r.i) (y := i) (by simp; exact ⟨r, hr, rfl⟩) (by simp)
    exact ⟨this.1, this.2.1⟩
  have hnw : ∀ r ∈ ev, isL listed r.i = false → bef (befs arr.toList) i r.i = false := by
    intro r hr hl
    cases hbf : bef (befs arr.toList) i r.i with
    | false => rfl
    | true => rw [hw r.i (hP.lt hr) hbf] at hl; cases hl
  have hsub : ∀ b o, (bigH (befs arr.toList) i G (madeOf ev) seen).get b = some o → G.get b = some o ∧ b ∉ maskOf (befs arr.toList) i (madeOf ev) G.mask := by
    intro b o hb
    have h1 := H.get_seen hb
    have h2 := H.get_raw hb
    have hnm : b ∉ maskOf (befs arr.toList) i (madeOf ev) G.mask := fun hm => by rw [show (bigH (befs arr.toList) i G (madeOf ev) seen).mask = maskOf (befs arr.toList) i (madeOf ev) G.mask from rfl, (memN_iff _ _).2 hm] at h1; cases h1
    refine ⟨?_, hnm⟩
    rw [H.get_eq, if_neg]
    · exact h2
    · intro hm
      exact hnm (mem_maskOf.2 (.inl ((memN_iff _ _).1 hm)))
  have hsubU : ∀ b o, (bigH (befs arr.toList) i G (madeOf ev) seen).get b = some o → (G.hide (unex listed ev)).get b = some o := by
    intro b o hb
    obtain ⟨h1, h2⟩ := hsub b o hb
    rw [H.get_hide, if_neg]
    · exact h1
    · intro hm
      obtain ⟨r, hr, h3, h4⟩ := mem_unex.1 hm
      exact h2 (mem_maskOf.2 (.inr ⟨⟨r.i, b⟩, mem_madeOf.2 ⟨r, hr, rfl, h4⟩, hnw r hr h3, rfl⟩))
  have hnext : G.next ≤ h'.next := hgo.keeps.next
  have hmask' : h'.mask = maskOf (befs arr.toList) i (madeOf ev) G.mask := hgo.keeps.mask
  -- what is masked stays
  have hrawM : ∀ b, b < G.next → b ∈ maskOf (befs arr.toList) i (madeOf ev) G.mask → getO h'.t b = getO G.t b := fun b hb hm => hgo.keeps.raw b hb (.inl ((memN_iff _ _).2 hm))
  have hrawP : ∀ b, b < G.next → b ∈ maskOf (befs arr.toList) i seen G.prot → getO h'.t b = getO G.t b := fun b hb hm => hgo.keeps.raw b hb (.inr ((memN_iff _ _).2 hm))
  have key : ∀ x o M, (bigH (befs arr.toList) i G (madeOf ev) seen).get x = some o → wr (bigH (befs arr.toList) i G (madeOf ev) seen) x o = true → ρ x = some M → w₀.heap.size ≤ M.blk ∨ ∃ c o N, h₀.get c = some o ∧ wr h₀ c o = true ∧ ρ₀ c = some N ∧ N.blk = M.blk := by
    intro x o M hx ha hM
    cases h0 : ρ₀ x with
    | none => exact hP.made x M h0 hM
    | some N =>
      have h1 := hP.le _ _ h0
      rw [h1] at hM
      cases hM
      have hlt : x < h₀.next := by
        rcases Nat.lt_or_ge x h₀.next with h2 | h2
        · exact h2
        · rw [hr₀.fresh x h2] at h0; cases h0
      obtain ⟨o₀, k1, k2⟩ := hP.keeps.old x o hlt (hsub x o hx).1 (wr_alive ha)
      have hpx : memN h₀.prot x = false := by
        cases hpm : memN h₀.prot x with
        | false => rfl
        | true =>
          have h2 : memN (maskOf (befs arr.toList) i seen G.prot) x = false := wr_prot ha
          rw [(memN_iff _ _).2 (mem_maskOf.2 (.inl (by rw [hP.keeps.prot]; exact (memN_iff _ _).1 hpm)))] at h2
          cases h2
      exact .inr ⟨x, o₀, _, k1, wr_mk k2 hpx, h0, rfl⟩
  have hfresh : ∀ b, ρ b ≠ none → b < G.next := by
    intro b hb
    rcases Nat.lt_or_ge b G.next with h | h
    · exact h
    · exact absurd (hP.rel.fresh b h) hb
  have hU : unex (listed.setIfInBounds i true) (⟨i, o, av, none⟩ :: ev) = unex listed ev := by
    unfold unex
    rw [List.filter_cons_of_neg (by simp [isL_set hun])]
    congr 1
    refine List.filter_congr fun r hr => ?_
    rw [isL_set hun, if_neg (hne r hr).1]
  -- a block that is seen behind it: seen by it, or held apart from it
  have hcase : ∀ b p, ((backH G h').hide (unex listed ev)).get b = some p → h'.get b = some p ∨ (b < G.next ∧ b ∈ maskOf (befs arr.toList) i (madeOf ev) G.mask ∧ (G.hide (unex listed ev)).get b = some p) := by
    intro b p hb
    rw [H.get_hide] at hb
    split at hb
    · cases hb
    · rename_i hbU
      by_cases hm : b ∈ maskOf (befs arr.toList) i (madeOf ev) G.mask
      · right
        have hnm : memN G.mask b = false := H.get_seen (h := backH G h') hb
        have hlt : b < G.next := by
          rcases mem_maskOf.1 hm with h | ⟨d, hd, _, hdb⟩
          · rw [(memN_iff _ _).2 h] at hnm; cases hnm
          · obtain ⟨r, hr, _, h4⟩ := mem_madeOf.1 hd
            rw [hdb] at h4
            exact (hP.blkLt r hr b h4).2
        refine ⟨hlt, hm, ?_⟩
        rw [H.get_hide, if_neg hbU, H.get_eq, if_neg (by rw [hnm]; simp), ← hrawM b hlt hm]
        exact H.get_raw (h := backH G h') hb
      · left
        rw [H.get_eq, hmask', if_neg]
        · exact H.get_raw (h := backH G h') hb
        · intro h; exact hm ((memN_iff _ _).1 h)
  -- two blocks, one held apart
  have hapart : ∀ b c p q M N, b < G.next → b ∈ maskOf (befs arr.toList) i (madeOf ev) G.mask → (G.hide (unex listed ev)).get b = some p → h'.get c = some q → p.alive = true → q.alive = true → ρ' b = some M → ρ' c = some N → M.blk ≠ N.blk := by
    intro b c p q M N hb hbm hbg hcg hpa hqa hM hN e
    have hMρ : ρ b = some M := by rw [← hgo.same b hb]; exact hM
    have hclash : ∀ c' q' N', (bigH (befs arr.toList) i G (madeOf ev) seen).get c' = some q' → q'.alive = true → ρ c' = some N' → N'.blk = M.blk → False := by
      intro c' q' N' h1 h2 h3 h4
      have := hP.rel.inj b c' p q' M N' hbg (hsubU c' q' h1) hpa h2 hMρ h3 h4.symm
      subst this
      exact (hsub b q' h1).2 hbm
    rcases Nat.lt_or_ge c G.next with hc | hc
    · obtain ⟨q₀, k1, k2⟩ := hgo.keeps.old c q hc hcg hqa
      have hNρ : ρ c = some N := by rw [← hgo.same c hc]; exact hN
      exact hclash c q₀ N k1 k2 hNρ e.symm
    · have hcn : ρ c = none := hP.rel.fresh c hc
      rcases hgo.made c N hcn hN with h1 | ⟨c', q', N', h1, h2, h3, h4⟩
      · have := hP.rel.bound b M hMρ
        omega
      · exact hclash c' q' N' h1 (wr_alive h2) h3 (h4.trans e.symm)
  refine ⟨?_, ?_, hrun, ?_, ?_, closed_set hP.closed hun hw, Rho.le_trans hP.le hgo.le, ?_, ?_, ⟨hP.keeps.mask, hP.keeps.prot, Nat.le_trans hP.keeps.next hnext, ?_, ?_⟩, ?_, ?_, ?_, ?_, ?_, ?_, ?_, by rw [put_size]; exact hP.size, by rw [put_defers]; exact hP.defers⟩
  · rw [hP.split]; simp
  · intro r hr
    rcases List.mem_cons.1 hr with rfl | hr
    · exact ho
    · exact hP.opers r hr
  · intro j hj
    rw [isL_set hun, if_neg]
    · exact hP.unl j (by simp [hj])
    · rw [hP.split] at hord
      have e : (ev.map fun r => r.i).reverse ++ i :: todo = ((ev.map fun r => r.i).reverse ++ [i]) ++ todo := by simp
      rw [e] at hord
      have := (ordOk_pair hord (x := i) (y := j) (by simp) hj).1
      exact fun e => this e.symm
  · intro r hr hb
    rcases List.mem_cons.1 hr with rfl | hr
    · rw [isL_set hun, if_pos rfl]
    · exact isL_mono hun (hP.bigs r hr hb)
  · rw [hU]
    refine ⟨fun b p hb ha => ?_, fun b c p q M N hb hc hpa hqa hM hN e => ?_, fun b hb => hgo.rel.fresh b hb, hgo.rel.bound⟩
    · rcases hcase b p hb with h1 | ⟨h1, h2, h3⟩
      · exact hgo.rel.obj b p h1 ha
      · obtain ⟨M, ob, k1, k2, k3⟩ := hP.rel.obj b p h3 ha
        refine ⟨M, ob, hgo.le _ _ k1, ?_, k3.mono hgo.le⟩
        rw [hgo.frm.block M.blk (hP.rel.bound b M k1) fun c q N hc hqa hN e => ?_]
        · exact k2
        · have := hP.rel.inj b c p q M N h3 (hsubU c q hc) ha (wr_alive hqa) k1 hN e.symm
          subst this
          exact (hsub b q hc).2 h2
    · rcases hcase b p hb with h1 | ⟨h1, h2, h3⟩
      · rcases hcase c q hc with g1 | ⟨g1, g2, g3⟩
        · exact hgo.rel.inj b c p q M N h1 g1 hpa hqa hM hN e
        · exact absurd e.symm (hapart c b q p N M g1 g2 g3 h1 hqa hpa hN hM)
      · rcases hcase c q hc with g1 | ⟨g1, g2, g3⟩
        · exact absurd e (hapart b c p q M N h1 h2 h3 g1 hpa hqa hM hN)
        · exact hP.rel.inj b c p q M N h3 g3 hpa hqa (by rw [← hgo.same b h1]; exact hM) (by rw [← hgo.same c g1]; exact hN) e
  · refine ⟨hgo.frm.os.trans hP.frm.os, hgo.frm.tape.trans hP.frm.tape, hgo.frm.output.trans hP.frm.output, Nat.le_trans hP.frm.size hgo.frm.size, fun c hc hno => ?_⟩
    rw [hgo.frm.block c (Nat.lt_of_lt_of_le hc hP.frm.size) fun x p M hx ha hM e => ?_]
    · exact hP.frm.block c hc hno
    · rcases key x p M hx ha hM with h1 | ⟨y, q, N, k1, k2, k3, k4⟩
      · omega
      · exact hno y q N k1 k2 k3 (k4.trans e)
  · intro b hb hmp
    show getO h'.t b = _
    have hlt : b < G.next := Nat.lt_of_lt_of_le hb hP.keeps.next
    rw [← hP.keeps.raw b hb hmp]
    rcases hmp with h1 | h1
    · exact hrawM b hlt (mem_maskOf.2 (.inl (by rw [hP.keeps.mask]; exact (memN_iff _ _).1 h1)))
    · exact hrawP b hlt (mem_maskOf.2 (.inl (by rw [hP.keeps.prot]; exact (memN_iff _ _).1 h1)))
  · intro b p hb hg ha
    have hlt : b < G.next := Nat.lt_of_lt_of_le hb hP.keeps.next
    have hnm : memN G.mask b = false := H.get_seen (h := backH G h') hg
    have hnM : b ∉ maskOf (befs arr.toList) i (madeOf ev) G.mask := by
      intro hm
      rcases mem_maskOf.1 hm with h | ⟨d, hd, _, hdb⟩
      · rw [(memN_iff _ _).2 h] at hnm; cases hnm
      · obtain ⟨r, hr, _, h4⟩ := mem_madeOf.1 hd
        rw [hdb] at h4
        have := (hP.blkLt r hr b h4).1
        omega
    have hg' : h'.get b = some p := by
      rw [H.get_eq, hmask', if_neg]
      · exact H.get_raw (h := backH G h') hg
      · intro h; exact hnM ((memN_iff _ _).1 h)
    obtain ⟨o₁, k1, k2⟩ := hgo.keeps.old b p hlt hg' ha
    exact hP.keeps.old b o₁ hb (hsub b o₁ k1).1 k2
  · intro b M h0 hM
    cases hb : ρ b with
    | none =>
      rcases hgo.made b M hb hM with h1 | ⟨c, q, N, h1, h2, h3, h4⟩
      · exact .inl (Nat.le_trans hP.frm.size h1)
      · rcases key c q N h1 h2 h3 with h5 | ⟨y, p, N', k1, k2, k3, k4⟩
        · exact .inl (h4 ▸ h5)
        · exact .inr ⟨y, p, N', k1, k2, k3, k4.trans h4⟩
    | some N =>
      have := hgo.le _ _ hb
      rw [this] at hM
      cases hM
      exact hP.made b _ h0 hb
  · intro b hb
    rw [hgo.same b (Nat.lt_of_lt_of_le hb hP.keeps.next)]
    exact hP.same b hb
  · intro r hr hl b hb
    rcases List.mem_cons.1 hr with rfl | hr
    · cases hb
    · rw [isL_set hun, if_neg (hne r hr).1] at hl
      rw [hgo.same b (hP.blkLt r hr b hb).2]
      exact hP.nob r hr hl b hb
  · intro r hr b hb
    rcases List.mem_cons.1 hr with rfl | hr
    · cases hb
    · have := hP.blkLt r hr b hb
      exact ⟨this.1, Nat.lt_of_lt_of_le this.2 hnext⟩
  · intro r hr r' hr' b hb hb'
    rcases List.mem_cons.1 hr with rfl | hr
    · cases hb
    · rcases List.mem_cons.1 hr' with rfl | hr'
      · cases hb'
      · exact hP.uniq r hr r' hr' b hb hb'
  · have e : (⟨i, o, av, none⟩ :: ev : List Rc).filter (fun r => isL (listed.setIfInBounds i true) r.i) = ⟨i, o, av, none⟩ :: ev.filter fun r => isL listed r.i := by
      rw [List.filter_cons_of_pos (by simp [isL_set hun])]
      congr 1
      refine List.filter_congr fun r hr => ?_
      rw [isL_set hun, if_neg (hne r hr).1]
    rw [e]
    have := (hP.regs.mono hgo.le)
    refine LRel.insert (A := []) (r := ⟨i, o, av, none⟩) this hv fun d hd => ⟨?_, fun r' hr' => by cases hr'⟩
    rw [hP.size]
    exact hC.dsts i o d ho hd
  · intro post r pre he hl
    cases post with
    | nil =>
      simp only [List.nil_append, List.cons.injEq] at he
      obtain ⟨rfl, rfl⟩ := he
      rw [isL_set hun, if_pos rfl] at hl
      cases hl
    | cons r' post =>
      simp only [List.cons_append, List.cons.injEq] at he
      obtain ⟨_, he⟩ := he
      have hr : r ∈ ev := by rw [he]; simp
      rw [isL_set hun, if_neg (hne r hr).1] at hl
      refine (hP.facts post r pre he hl).move hE hnext (fun _ h => h) (fun b hs hb => H.get_congr rfl (hrawP b hb (mem_maskOf.2 (.inr ⟨⟨r.i, b⟩, hs, hnw r hr hl, rfl⟩)))) fun b hbk hb => hrawM b hb (mem_maskOf.2 (.inr ⟨⟨r.i, b⟩, mem_madeOf.2 ⟨r, hr, rfl, hbk⟩, hnw r hr hl, rfl⟩))

theorem PInv.runBig (hE : EnvOk Y E) (hrc : RecOk Y E rc) (hC : Checks E nt arr ord) (hng : L.ng = E.ng) (hg₀ : Glob E ρ₀) (hr₀ : Rel Y E ρ₀ h₀ w₀) {i : Nat} (hP : PInv Y E L nt rc tm arr ord k ρ₀ h₀ w₀ a₀ listed a w ev (i :: todo) ρ G seen) (hbig : bigAt E arr.toList i = true) (hw : Waits arr listed i)
    {ro : Option Nat} {n : Nat} {Q : Exit → Act → World → Prop} {K : Act → World → Prop} {o : Oper} (ho : arr[i]? = some o)
    (hK : ∀ a' w' ev' ρ' G', PInv Y E L nt rc tm arr ord k ρ₀ h₀ w₀ a₀ (listed.setIfInBounds i true) a' w' ev' todo ρ' G' seen → K a' w') : wpOpIn (fence ro) n E.P arr Q i K a w := by
  have hglob := hg₀.mono hP.le
  have ho' : arr.toList[i]? = some o := by rw [Array.getElem?_toList]; exact ho
  have hb : isBig (cOp E o.op) = true := by
    unfold bigAt at hbig
    rw [ho'] at hbig
    exact hbig
  have hord := hC.ordk
  have hag : ∀ t, t ∈ looks arr.toList o → look t (ev.filter fun r => isL listed r.i) = look t ev := by
    intro t ht
    refine look_filter fun r hr hd => ?_
    rw [hP.split] at hord
    have h1 := ordOk_pair hord (x := r.i) (y := i) (by simp; exact ⟨r, hr, rfl⟩) (by simp)
    rcases hC.pairs i r.i o r.o t ho (hP.opers r hr) (fun e => h1.1 e.symm) hd (.inl ht) with h | h
    · exact hw r.i (hP.lt hr) h
    · rw [h1.2.1] at h; cases h
  have hrun := hP.run
  rw [cDraws_cons ho'] at hrun
  have hrel := hP.bigRel hw
  unfold wpOpIn
  rw [ho]
  dsimp only
  rcases cDraw1_eq hrun with ⟨hg, hk⟩ | ⟨hg, hk⟩
  · rw [hg.wanted hng hglob hP.regs hag, if_pos rfl]
    have hx1 : ∀ x X, x ∈ kxs (cOp E o.op) → cX L (dsR ev) x = some X → conc Y ρ (X tm (envR ev)) = some (a.eval x) := fun x X hm hx => cX_look hx hP.regs (fun t ht => hag t (looks_operand (by rw [← ht]; exact hm))) hglob hng
    have hag' : ∀ t, Operand.tmp t ∈ kxs (cOp E o.op) → look t (ev.filter fun r => isL listed r.i) = look t ev := fun t ht => hag t (looks_operand ht)
    have hok := cOp_ok (Y := Y) hE o
    have next : ∀ v w', PostV Y E ρ (bigH (befs arr.toList) i G (madeOf ev) seen) w (fun v h' => (cDraws E (befs arr.toList) L arr.toList todo (o.dst :: dsR ev)).run rc tm (v :: envR ev) (backH G h') (madeOf ev) seen k) (.returned v) w' → K (a.put o.dst v) w' := by
      rintro v w' ⟨ρ', h', av, hgo, hv, hk'⟩
      exact hK _ _ _ _ _ (hP.listBig hE hC hr₀ hw ho hgo hv hk')
    have nd : ∀ c, o.op ≠ .defer c := by
      intro c h
      rw [h] at hk
      cases hc : c.callee <;> (simp only [cOp, hc] at hk; cases hk)
    refine ⟨fun _ _ => trivial, ?_⟩
    rw [Oper.semAt_eq _ _ _ nd]
    refine upon_of_big ?_ next
    cases hc : cOp E o.op with
    | b2 x y g =>
      rw [hc] at hk hok hx1
      simp only [drawK] at hk
      cases hx : cX L (dsR ev) x with
      | none => rw [hx] at hk; cases hk
      | some X =>
        cases hy : cX L (dsR ev) y with
        | none => rw [hx, hy] at hk; cases hk
        | some Z =>
          rw [hx, hy] at hk
          dsimp only at hk
          rw [bigD_eq] at hk
          obtain ⟨h', hv, hk⟩ := optK_eq.1 hk
          obtain ⟨w', k1, k2⟩ := hok ρ a.eval w _ h' _ _ hrel (hx1 x X (by simp [kxs]) hx) (hx1 y Z (by simp [kxs]) hy) hv
          rw [k1]
          exact ⟨ρ, h', undefA, k2, rfl, hk⟩
    | bn xs g =>
      rw [hc] at hk hok hag'
      simp only [drawK] at hk
      cases hx : cXs L (dsR ev) xs with
      | none => rw [hx] at hk; cases hk
      | some X =>
        rw [hx] at hk
        dsimp only at hk
        rw [bigD_eq] at hk
        exact hok rc _ ρ a.eval w _ _ hrc hrel hglob (cXs_look hP.regs hglob hng hx hag') hk
    | p1 x g => rw [hc] at hb; cases hb
    | p2 x y g => rw [hc] at hb; cases hb
    | pn xs g => rw [hc] at hb; cases hb
    | r1 x g => rw [hc] at hb; cases hb
    | r2 x y g => rw [hc] at hb; cases hb
    | rn xs bk g => rw [hc] at hb; cases hb
    | a1 x g => rw [hc] at hb; cases hb
    | an xs g => rw [hc] at hb; cases hb
    | df xs g => rw [hc] at hk; cases hk
    | bad => rw [hc] at hk; cases hk
  · rw [hg.wanted hng hglob hP.regs hag, if_neg (by simp)]
    refine ⟨fun _ _ => trivial, hK _ _ _ _ _ (hP.listBig hE hC hr₀ hw ho (Goes.refl hrel) (av := undefA) rfl ?_)⟩
    rw [backH_bigH]
    exact hk

/-! ### The whole region -/
/-- how many have not been run -/
def unl (listed : Array Bool) (l : List Nat) : Nat := l.countP fun i => !isL listed i

theorem unl_set {listed : Array Bool} {i : Nat} (hi : isL listed i = false) : ∀ (l : List Nat), i ∈ l → unl (listed.setIfInBounds i true) l < unl listed l
  | [], h => by cases h
  | j :: l, h => by
    have hle : ∀ l : List Nat, unl (listed.setIfInBounds i true) l ≤ unl listed l := by
      intro l
      refine List.countP_mono_left fun x _ hx => ?_
      rw [isL_set hi] at hx
      split at hx
      · cases hx
      · exact hx
    unfold unl at hle ⊢
    rw [List.countP_cons, List.countP_cons]
    by_cases hji : j = i
    · subst hji
      have := hle l
      rw [isL_set hi, if_pos rfl, hi]
      simp only [Bool.not_true, Bool.false_eq_true, if_false, Bool.not_false, if_true]
      omega
    · rcases List.mem_cons.1 h with h | h
      · exact absurd h.symm hji
      · have := unl_set hi l h
        unfold unl at this
        rw [isL_set hi, if_neg hji]
        omega

theorem draw_any (hE : EnvOk Y E) (hrc : RecOk Y E rc) (hC : Checks E nt arr ord) (hng : L.ng = E.ng) (hg₀ : Glob E ρ₀) (hr₀ : Rel Y E ρ₀ h₀ w₀) {ro : Option Nat} {n : Nat} {Q : Exit → Act → World → Prop}
    (hQ : ∀ listed a w ev ρ G seen, PInv Y E L nt rc tm arr ord k ρ₀ h₀ w₀ a₀ listed a w ev [] ρ G seen → (∀ r ∈ ev, isL listed r.i = true) → Q .normal a w) :
    ∀ (fuel : Nat) (listed : Array Bool) (a : Act) (w : World) (ev : List Rc) (todo : List Nat) (ρ : Rho) (G : H) (seen : List Done), PInv Y E L nt rc tm arr ord k ρ₀ h₀ w₀ a₀ listed a w ev todo ρ G seen →
      (todo = [] ∨ ∃ i r, todo = i :: r ∧ bigAt E arr.toList i = true) → listed.size = arr.size → unl listed (List.range arr.size) ≤ fuel → wpAnyIn (fence ro) n E.P .any arr Q fuel listed a w := by
  have fin : ∀ (listed : Array Bool) (a : Act) (w : World) (ev : List Rc) (todo : List Nat) (ρ : Rho) (G : H) (seen : List Done), PInv Y E L nt rc tm arr ord k ρ₀ h₀ w₀ a₀ listed a w ev todo ρ G seen → (∀ i, i < arr.size → isL listed i = true) → listed.size = arr.size → Q .normal a w := by
    intro listed a w ev todo ρ G seen hP hall hsz
    have ht : todo = [] := by
      cases todo with
      | nil => rfl
      | cons j todo =>
        have h1 := hP.unl j (by simp)
        have hj : j < arr.size := by
          rcases Nat.lt_or_ge j listed.size with h | h
          · omega
          · simp [isL, Array.getElem?_eq_none h] at h1
        rw [hall j hj] at h1; cases h1
    subst ht
    exact hQ listed a w ev ρ G seen hP fun r hr => hall r.i (hP.lt hr)
  have lt_of_un : ∀ (listed : Array Bool) (i : Nat), listed.size = arr.size → isL listed i = false → i < arr.size := by
    intro listed i hsz h1
    rcases Nat.lt_or_ge i listed.size with h | h
    · omega
    · simp [isL, Array.getElem?_eq_none h] at h1
  intro fuel
  induction fuel with
  | zero =>
    intro listed a w ev todo ρ G seen hP htodo hsz hf
    have hall : ∀ i, i < arr.size → isL listed i = true := by
      intro i hi
      cases h : isL listed i with
      | true => rfl
      | false =>
        have : 0 < unl listed (List.range arr.size) := List.countP_pos_iff.2 ⟨i, List.mem_range.2 hi, by simp [h]⟩
        omega
    refine ⟨?_, fin listed a w ev todo ρ G seen hP hall hsz⟩
    cases hr : Region.ready .any arr listed with
    | nil => rfl
    | cons j l =>
      have hj : j ∈ Region.ready .any arr listed := by rw [hr]; simp
      have h1 := (mem_ready.1 hj).1
      have h2 := hall j (lt_of_un listed j hsz h1)
      rw [show isL listed j = listed.getD j true from rfl, h1] at h2
      cases h2
  | succ fuel ih =>
    intro listed a w ev todo ρ G seen hP htodo hsz hf
    refine ⟨fun hr => ?_, fun i hi => ?_⟩
    · refine fin listed a w ev todo ρ G seen hP ?_ hsz
      intro i
      induction i using Nat.strongRecOn with
      | _ i ihi =>
        intro hlt
        cases h : isL listed i with
        | true => rfl
        | false =>
          exfalso
          have hoi : arr[i]? = some arr[i] := Array.getElem?_eq_getElem hlt
          have : i ∈ Region.ready .any arr listed := mem_ready.2 ⟨h, arr[i], hoi, fun e he hbd => by
            rw [binds_any] at hbd
            have h1 := hC.edges i _ hoi e he hbd
            have h2 := ihi e.on h1 (by omega)
            have h3 : e.on < listed.size := by omega
            simpa [isL, h3] using h2⟩
          rw [hr] at this
          cases this
    · obtain ⟨h1, o, ho, h2⟩ := mem_ready.1 hi
      have hun : isL listed i = false := h1
      have hlt := lt_of_un listed i hsz hun
      have hw : Waits arr listed i := by
        intro j hj hb
        obtain ⟨e, he, hbd, hej⟩ := hC.close i o j ho hj hb
        have h3 := h2 e he (by rw [binds_any]; exact hbd)
        have h4 := hC.edges i o ho e he hbd
        have h5 : e.on < listed.size := by omega
        have h6 : isL listed e.on = true := by simpa [isL, h5] using h3
        rcases hej with rfl | hej
        · exact h6
        · exact hP.closed e.on j (by omega) hj h6 hej
      have hsz' : (listed.setIfInBounds i true).size = arr.size := by simpa using hsz
      have hcnt : unl (listed.setIfInBounds i true) (List.range arr.size) ≤ fuel := by
        have := unl_set hun (List.range arr.size) (List.mem_range.2 hlt)
        omega
      have hmem := hC.cover i hlt
      rw [hP.split, List.mem_append] at hmem
      rcases hmem with hmem | hmem
      · simp only [List.mem_reverse, List.mem_map] at hmem
        obtain ⟨r, hr, rfl⟩ := hmem
        obtain ⟨post, pre, hev⟩ := List.append_of_mem hr
        refine hP.runSmall hE hC hng hg₀ hev hun hw fun a' w' ρ' hP' => ?_
        exact ih _ _ _ _ _ _ _ _ hP' htodo hsz' hcnt
      · rcases htodo with rfl | ⟨j, rest, rfl, hbig⟩
        · cases hmem
        · have hij : i = j := by
            rcases List.mem_cons.1 hmem with h | h
            · exact h
            · exfalso
              have hord := hC.ordk
              rw [hP.split] at hord
              have e : (ev.map fun r => r.i).reverse ++ j :: rest = ((ev.map fun r => r.i).reverse ++ [j]) ++ rest := by simp
              rw [e] at hord
              have hb := (ordOk_pair hord (x := j) (y := i) (by simp) h).2.2 hbig
              have hjun := hP.unl j (by simp)
              rw [hw j (lt_of_un listed j hsz hjun) hb] at hjun
              cases hjun
          subst hij
          refine hP.runBig hE hrc hC hng hg₀ hr₀ hbig hw ho fun a' w' ev' ρ' G' hP' => ?_
          obtain ⟨ev'', todo'', G'', seen'', hP'', ht''⟩ := PInv.smalls hE _ _ _ _ hP'
          exact ih _ _ _ _ _ _ _ _ hP'' ht'' hsz' hcnt

end

theorem ordDsts_eq (ops : List Oper) : ∀ (l : List Nat) (ds : List (Option Tmp)), ordDsts ops l ds = (l.map fun i => (match ops[i]? with | some o => o.dst | none => none)).reverse ++ ds
  | [], ds => rfl
  | i :: l, ds => by
    have : ordDsts ops (i :: l) ds = ordDsts ops l ((match ops[i]? with | some o => o.dst | none => none) :: ds) := rfl
    rw [this, ordDsts_eq ops l]
    simp

theorem checks_of {nt : Nat} {arr : Array Oper} {ord : List Nat} (h : drawOk E arr.toList ord = true) (hd : ∀ d, some d ∈ ordDsts arr.toList ord [] → d < nt) : Checks E nt arr ord := by
  unfold drawOk at h
  simp only [Bool.and_eq_true] at h
  obtain ⟨h1, h2, h3, h4⟩ := h
  have hget : ∀ i o, arr[i]? = some o → arr.toList[i]? = some o := fun i o ho => by rw [Array.getElem?_toList]; exact ho
  have hcov := coverOk_at h3
  refine ⟨fun i j oi oj d hi hj hne hdj hl => ?_, fun i o hi e he hb => ?_, h2, fun i hi => hcov i (by simpa using hi), fun i o j hi hj hb => ?_, fun i o d hi hdo => ?_⟩
  · have h5 := (drawOkFrom_at h1 i oi (hget i oi hi)).2
    have h6 := pairsOk_at h5 j oj (hget j oj hj)
    simp only [Nat.zero_add] at h6
    exact pairOk_spec h6 hdj hne hl
  · have h5 := (drawOkFrom_at h1 i o (hget i o hi)).1
    simp only [Nat.zero_add] at h5
    exact edgesOk_at h5 e (by simpa using he) hb
  · have h5 := closeOk_at h4 i o (hget i o hi) j (by simpa using hj) (by simpa using hb)
    obtain ⟨e, he, h6⟩ := h5
    exact ⟨e, by simpa using he, h6⟩
  · have hlt : i < arr.size := by
      rcases Nat.lt_or_ge i arr.size with h | h
      · exact h
      · rw [Array.getElem?_eq_none h] at hi; cases hi
    refine hd d ?_
    rw [ordDsts_eq]
    simp only [List.append_nil, List.mem_reverse, List.mem_map]
    exact ⟨i, hcov i (by simpa using hlt), by rw [hget i o hi]; exact hdo⟩

theorem smallsFrom_lt {bs : T Nat} {bigs : List Nat} {k : Nat} : ∀ (l : List Oper) (i : Nat), ∀ p ∈ smallsFrom E bs bigs k l i, p.1 < i + l.length
  | [], _, p, hp => by cases hp
  | o :: r, i, p, hp => by
    have ih := smallsFrom_lt (bs := bs) (bigs := bigs) (k := k) r (i + 1)
    simp only [smallsFrom] at hp
    simp only [List.length_cons]
    split at hp
    · have := ih p hp; omega
    · split at hp
      · rcases List.mem_cons.1 hp with rfl | hp
        · dsimp only; omega
        · have := ih p hp; omega
      · have := ih p hp; omega

theorem canonFrom_lt {bs : T Nat} {ops : List Oper} {bigs : List Nat} : ∀ (l : List Nat) (k : Nat), ∀ p ∈ canonFrom E bs ops bigs l k, p.1 < ops.length
  | [], k, p, hp => by
    have := smallsFrom_lt ops 0 p hp
    omega
  | b :: r, k, p, hp => by
    simp only [canonFrom] at hp
    rcases List.mem_append.1 hp with hp | hp
    · have := smallsFrom_lt ops 0 p hp
      omega
    · split at hp
      · rename_i o ho
        rcases List.mem_cons.1 hp with rfl | hp
        · rcases Nat.lt_or_ge b ops.length with h | h
          · exact h
          · rw [List.getElem?_eq_none h] at ho; cases ho
        · exact canonFrom_lt r (k + 1) p hp
      · cases hp

theorem canon_lt {ops : List Oper} : ∀ p ∈ canon E ops, p.1 < ops.length := fun p hp => canonFrom_lt _ _ p hp

theorem draw_ok (hE : EnvOk Y E) {L : Lv} {nt : Nat} (hng : L.ng = E.ng) (id : Nat) (ops : Array Oper) : CodeOk Y E L nt (.region id ops true) (cDraw E L nt ops.toList) := by
  intro rc ro cro ρ h w a tm df kn ke kr n hrc hr hg hro hf hk
  unfold cDraw at hk
  cases hdo : drawOk E ops.toList (ordOf E ops.toList) with
  | false =>
    rw [hdo] at hk
    exact fork_ok hE hng rc ro cro ρ h w a tm df kn ke kr n hrc hr hg hro hf hk
  | true =>
    rw [hdo] at hk
    dsimp only at hk
    cases hfl : flushOf L nt (ordDsts ops.toList (ordOf E ops.toList) []) 0 [] with
    | none => rw [hfl] at hk; cases hk
    | some fl =>
      rw [hfl] at hk
      dsimp only at hk
      have hC : Checks E nt ops (ordOf E ops.toList) := checks_of hdo fun d hd => flushOf_lt hfl d hd
      have hr' : Rel Y E ρ h { w with drawn := w.drawn + 1 } := hr.of_heap rfl
      refine wpIn_region_any hE.mixed ?_
      have hunl : ∀ i, i < ops.size → isL (Array.replicate ops.size false) i = false := by
        intro i hi
        simp [isL, hi]
      have hord : ∀ i ∈ ordOf E ops.toList, isL (Array.replicate ops.size false) i = false := by
        intro i hi
        obtain ⟨p, hp, rfl⟩ := List.mem_map.1 hi
        rcases Nat.lt_or_ge p.1 ops.size with h | h
        · exact hunl _ h
        · have := canon_lt p hp
          simp at this
          omega
      have hP : PInv Y E L nt rc tm ops (ordOf E ops.toList) (fun env h' => kn (flush fl env tm) df h') ρ h { w with drawn := w.drawn + 1 } a (Array.replicate ops.size false) a { w with drawn := w.drawn + 1 } [] (ordOf E ops.toList) ρ h [] := by
        refine ⟨rfl, (fun r hr => by cases hr), hk, hord, (fun r hr => by cases hr), (fun i j hi hj hl => by rw [hunl i hi] at hl; cases hl), Rho.le_refl _, ?_, Frm.refl _ _ _, Keeps.refl _, (fun b M h0 h1 => by rw [h0] at h1; cases h1), fun _ _ => rfl, (fun r hr => by cases hr), (fun r hr => by cases hr), (fun r hr => by cases hr), ?_, (fun post r pre he => by simp at he), hf.size, rfl⟩
        · refine hr'.sub (fun b o hb => ?_) (Nat.le_refl _)
          rw [H.get_hide] at hb
          split at hb
          · cases hb
          · exact hb
        · intro t
          exact ⟨(fun v hv => by cases hv), fun _ hl => hf.tmps t hl⟩
      obtain ⟨ev', todo', G', seen', hP', ht'⟩ := PInv.smalls hE _ _ _ _ hP
      refine draw_any hE hrc hC hng hg hr' ?_ ops.size _ _ _ _ _ _ _ _ hP' ht' (by simp) ?_
      · intro listed a' w' ev ρ' G seen hP hall
        have hU : unex listed ev = [] := by
          unfold unex
          rw [List.filter_eq_nil_iff.2 fun r hr => by simp [hall r hr]]
          rfl
        have hrel := hP.rel
        rw [hU] at hrel
        have hrel' : Rel Y E ρ' G w' := by
          refine hrel.sub (fun b o hb => ?_) (Nat.le_refl _)
          rw [H.get_hide]
          simpa using hb
        have hregs := hP.regs
        rw [List.filter_eq_self.2 fun r hr => hall r hr] at hregs
        have hds : dsR ev = ordDsts ops.toList (ordOf E ops.toList) [] := by
          rw [ordDsts_eq, hP.split]
          simp only [List.append_nil, List.map_reverse, List.reverse_reverse, List.map_map]
          unfold dsR
          refine List.map_congr_left fun r hr => ?_
          have := hP.opers r hr
          simp [this]
        have herel := hregs.erel
        rw [hds] at herel
        have hgo : Goes Y E ρ h w ρ' G w' := ⟨hP.le, hrel', ⟨hP.frm.os, hP.frm.tape, hP.frm.output, hP.frm.size, hP.frm.block⟩, hP.keeps, hP.made, hP.same⟩
        exact ⟨ρ', G, _, df, hgo, ⟨herel.flush hfl, hP.size, by rw [hP.defers]; exact hf.defs.mono hP.le⟩, hP.run⟩
      · unfold unl
        exact Nat.le_trans List.countP_le_length (by simp)

end
end Go.AE

namespace Go.AE

def noNum (l : List Func) : Bool := l.all fun f => !(f.name == "runtime.NumGoroutine")
def eqsOk (P : Program) (eqs : List (TypeId × List Nat)) : Bool := eqs.all fun p => decide (flatAt P 20 p.1 = some p.2) && !P.eqGuardType P.depth p.1

noncomputable def envOf (P : Program) (eqs : List (TypeId × List Nat)) (ng : Nat) (facts : List (SX × Int × Int)) : Env := { P := P, ft := T.ofList P.funcs.toList, tt := T.ofList P.types.toList, eqs := eqs, facts := facts, ng := ng, orc := [] }

theorem findEq_mem : ∀ {l : List (TypeId × List Nat)} {t : TypeId} {ks : List Nat}, findEq l t = some ks → (t, ks) ∈ l
  | [], _, _, h => by cases h
  | (u, l) :: r, t, ks, h => by
    simp only [findEq] at h
    cases hb : Nat.beq u t with
    | true =>
      rw [hb] at h
      cases h
      have := Nat.eq_of_beq_eq_true hb
      subst this
      simp
    | false =>
      rw [hb] at h
      exact List.mem_cons_of_mem _ (findEq_mem h)

theorem envOk_of {Y : Sy} {P : Program} {eqs : List (TypeId × List Nat)} {ng : Nat} {facts : List (SX × Int × Int)} (h1 : noNum P.funcs.toList = true) (h2 : eqsOk P eqs = true) (h3 : P.follows .mixedOrders = true) (h4 : Nat.blt 0 P.types.size = true) (h5 : ∀ e l h, (e, l, h) ∈ facts → l ≤ e.val Y ∧ e.val Y ≤ h) : EnvOk Y (envOf P eqs ng facts) := by
  refine ⟨fun f fn h => ?_, fun t i h => ?_, h3, fun t ks h => ?_, fun f fn h _ => ?_, (blt_iff _ _).1 h4, h5, fun _ h => by cases h⟩
  · have h' : (T.ofList P.funcs.toList).get f = some fn := h
    rw [T.get_ofList, Array.getElem?_toList] at h'
    exact h'
  · have h' : (T.ofList P.types.toList).get t = some i := h
    rw [T.get_ofList, Array.getElem?_toList] at h'
    have hlt : t < P.types.size := by
      rcases Nat.lt_or_ge t P.types.size with h | h
      · exact h
      · rw [Array.getElem?_eq_none h] at h'; cases h'
    show P.info? t = some i
    unfold Tables.info?
    rw [if_pos hlt]
    exact h'
  · have hm := findEq_mem (show findEq eqs t = some ks from h)
    unfold eqsOk at h2
    rw [List.all_eq_true] at h2
    have := h2 _ hm
    simp only [Bool.and_eq_true, decide_eq_true_eq, Bool.not_eq_true'] at this
    exact this
  · have h' : (T.ofList P.funcs.toList).get f = some fn := h
    rw [T.get_ofList] at h'
    unfold noNum at h1
    rw [List.all_eq_true] at h1
    have := h1 fn (List.mem_of_getElem? h')
    simpa using this

/-- the tables, and what is known of single operations -/
noncomputable def envO (E : Env) (fs : List (SX × Int × Int)) (os : List Orc) : Env := { E with facts := fs, orc := os }

/-- behind a call that has left all that was there -/
theorem post_of_below {H : Type} {enc : TypeId × Value → H} {P : Program} {f : Func} {s : ChangeSpec} {apart fresh handsOn again : Bool} {W W' : World} {args : Array Value} {v : Value} {ds gs : List (DataW H)} {before pa pv : List MemPlace}
    (hW : DataW.Whole enc P f.params.toList s.vars apart W args.toList ds gs before)
    (hres : ∀ (b : Nat) (sp : Nat → Bool) (hd : Bool), DataW.TrodAll enc P W' b sp hd f.resultTypes.toList (v.resultList f.resultTypes.size) (s.fn H (ds ++ gs)).results [])
    (hargs : ∀ sp : Nat → Bool, (∀ p ∈ before, sp p.block = true) → DataW.TrodAll enc P W' 0 sp true f.params.toList args.toList (s.fn H (ds ++ gs)).args pa)
    (hvars : ∀ sp : Nat → Bool, (∀ p ∈ before, sp p.block = true) → DataW.TrodVars enc P W' sp s.vars (s.fn H (ds ++ gs)).vars pv)
    (hps : before = pa ++ pv) (hb : RowKit.Below W.heap.size W W')
    (hok : ∀ (j : Nat) (t : TypeId) (r : Value), f.resultTypes[j]? = some t → (v.resultList f.resultTypes.size)[j]? = some r → Value.okWide P W' .any 0 t r) :
    s.post enc P f apart fresh handsOn again W args v W' := by
  have hold : ∀ p ∈ before, (fun b => decide (b < W.heap.size)) p.block = true := fun p hp => by simpa using hW.lt p hp
  have hlt : ∀ p ∈ before, p.block < W.heap.size := fun p hp => hW.lt p hp
  refine ⟨ds, gs, before, [], pa, pv, hW, hres _ _ _, hargs _ hold, hvars _ hold, World.keptBut_mono (fun p hp => ⟨hp, ?_⟩) (hb.frame (· ∈ before)), fun _ => ?_⟩
  · rw [hps, List.mem_append] at hp
    exact Or.inr hp
  · obtain ⟨_, _, _, _, _, hz, hn⟩ := hW
    refine ⟨hok, _, _, ([] ++ pa) ++ pv, ⟨[] ++ pa, pv, ChangeShapes.trodAll_append (hargs _ (fun _ _ => rfl)) (hres _ _ _), hvars _ (fun _ _ => rfl), rfl, ?_, ?_⟩, ?_⟩
    · intro b off hp
      have hmem : MemPlace.cell b off ∈ before := by rw [hps]; simpa using hp
      rw [hb.frozen (p := ⟨b, off, none⟩) (hlt _ hmem)]
      exact hz b off hmem
    · intro ha
      have := hn ha
      rw [hps] at this
      simpa using this
    · intro p hp _
      rw [hps]
      simpa using hp

end Go.AE

namespace Go.AE
noncomputable section

/-- two values of one cell without blocks -/
def sameC : AV → AV → Bool
  | .bool a, .bool b => eqB a b
  | .i64 a, .i64 b => eqI a b
  | .int k a, .int k' b => eqKind k k' && eqI a b
  | .str a, .str b => eqStr a b
  | .sint k e lo hi, .sint k' e' lo' hi' => eqKind k k' && (eqX e e' && (eqI lo lo' && eqI hi hi'))
  | .sstr i lo hi, .sstr j lo' hi' => Nat.beq i j && (Nat.beq lo lo' && Nat.beq hi hi')
  | .nilptr, .nilptr => true
  | .nilslice, .nilslice => true
  | .oslice i, .oslice j => Nat.beq i j
  | .opq i, .opq j => eqQ i j
  | _, _ => false

def sameCs : List AV → List AV → Bool
  | [], [] => true
  | a :: x, b :: y => sameC a b && sameCs x y
  | _, _ => false

def sameA : AV → AV → Bool
  | .agg l, .agg m => sameCs l m
  | x, y => sameC x y

def sameAs : List AV → List AV → Bool
  | [], [] => true
  | a :: x, b :: y => sameA a b && sameAs x y
  | _, _ => false

def sameV : AV → AV → Bool
  | .tuple l, .tuple m => sameAs l m
  | x, y => sameA x y

def sameVs : List AV → List AV → Bool
  | [], [] => true
  | a :: x, b :: y => sameV a b && sameVs x y
  | _, _ => false

theorem eqStr_true : ∀ {a b : List Nat}, eqStr a b = true → a = b
  | [], [], _ => rfl
  | a :: x, b :: y, h => by
    simp only [eqStr] at h
    cases hb : Nat.beq a b with
    | false => rw [hb] at h; cases h
    | true => rw [hb] at h; rw [Nat.eq_of_beq_eq_true hb, eqStr_true h]
  | [], _ :: _, h => by cases h
  | _ :: _, [], h => by cases h

section
variable {Y : Sy} {E : Env} {ρ : Rho} {h : H} {w : World}

theorem sameC_eq {a b : AV} (h : sameC a b = true) : a = b ∧ ∀ (ρ ρ' : Rho), conc Y ρ a = conc Y ρ' a := by
  unfold sameC at h
  split at h
  · rename_i a b
    cases a <;> cases b <;> first | exact ⟨rfl, fun _ _ => rfl⟩ | cases h
  · rw [eqI_iff] at h; subst h; exact ⟨rfl, fun _ _ => rfl⟩
  · simp only [Bool.and_eq_true] at h
    obtain ⟨h1, h2⟩ := h
    rw [eqI_iff] at h2
    rw [eqKind_eq h1, h2]
    exact ⟨rfl, fun _ _ => rfl⟩
  · rw [eqStr_true h]; exact ⟨rfl, fun _ _ => by simp only [conc]⟩
  · simp only [Bool.and_eq_true] at h
    obtain ⟨h1, h2, h3, h4⟩ := h
    rw [eqI_iff] at h3 h4
    rw [eqKind_eq h1, eqX_eq h2, h3, h4]
    exact ⟨rfl, fun _ _ => by simp only [conc]⟩
  · simp only [Bool.and_eq_true] at h
    obtain ⟨h1, h2, h3⟩ := h
    rw [Nat.eq_of_beq_eq_true h1, Nat.eq_of_beq_eq_true h2, Nat.eq_of_beq_eq_true h3]
    exact ⟨rfl, fun _ _ => by simp only [conc]⟩
  · exact ⟨rfl, fun _ _ => rfl⟩
  · exact ⟨rfl, fun _ _ => rfl⟩
  · rw [Nat.eq_of_beq_eq_true h]
    exact ⟨rfl, fun _ _ => by simp only [conc]⟩
  · rw [eqQ_eq h]
    exact ⟨rfl, fun _ _ => by simp only [conc]⟩
  · cases h

theorem sameCs_eq : ∀ {a b : List AV}, sameCs a b = true → a = b ∧ ∀ (ρ ρ' : Rho), concs Y ρ a = concs Y ρ' a
  | [], [], _ => ⟨rfl, fun _ _ => rfl⟩
  | a :: x, b :: y, h => by
    simp only [sameCs, Bool.and_eq_true] at h
    obtain ⟨h1, h2⟩ := sameC_eq (Y := Y) h.1
    obtain ⟨h3, h4⟩ := sameCs_eq h.2
    refine ⟨by rw [h1, h3], fun ρ ρ' => ?_⟩
    simp only [concs, h2 ρ ρ', h4 ρ ρ']
  | [], _ :: _, h => by cases h
  | _ :: _, [], h => by cases h

theorem sameA_eq {a b : AV} (h : sameA a b = true) : a = b ∧ ∀ (ρ ρ' : Rho), conc Y ρ a = conc Y ρ' a := by
  unfold sameA at h
  split at h
  · obtain ⟨h1, h2⟩ := sameCs_eq (Y := Y) h
    refine ⟨by rw [h1], fun ρ ρ' => ?_⟩
    simp only [conc, h2 ρ ρ']
  · exact sameC_eq h

theorem sameAs_eq : ∀ {a b : List AV}, sameAs a b = true → a = b ∧ ∀ (ρ ρ' : Rho), concs Y ρ a = concs Y ρ' a
  | [], [], _ => ⟨rfl, fun _ _ => rfl⟩
  | a :: x, b :: y, h => by
    simp only [sameAs, Bool.and_eq_true] at h
    obtain ⟨h1, h2⟩ := sameA_eq (Y := Y) h.1
    obtain ⟨h3, h4⟩ := sameAs_eq h.2
    refine ⟨by rw [h1, h3], fun ρ ρ' => ?_⟩
    simp only [concs, h2 ρ ρ', h4 ρ ρ']
  | [], _ :: _, h => by cases h
  | _ :: _, [], h => by cases h

theorem sameV_eq {a b : AV} (h : sameV a b = true) : a = b ∧ ∀ (ρ ρ' : Rho), conc Y ρ a = conc Y ρ' a := by
  unfold sameV at h
  split at h
  · obtain ⟨h1, h2⟩ := sameAs_eq (Y := Y) h
    refine ⟨by rw [h1], fun ρ ρ' => ?_⟩
    simp only [conc, h2 ρ ρ']
  · exact sameA_eq h

theorem sameVs_eq : ∀ {a b : List AV}, sameVs a b = true → a = b ∧ ∀ (ρ ρ' : Rho), concs Y ρ a = concs Y ρ' a
  | [], [], _ => ⟨rfl, fun _ _ => rfl⟩
  | a :: x, b :: y, h => by
    simp only [sameVs, Bool.and_eq_true] at h
    obtain ⟨h1, h2⟩ := sameV_eq (Y := Y) h.1
    obtain ⟨h3, h4⟩ := sameVs_eq h.2
    refine ⟨by rw [h1, h3], fun ρ ρ' => ?_⟩
    simp only [concs, h2 ρ ρ', h4 ρ ρ']
  | [], _ :: _, h => by cases h
  | _ :: _, [], h => by cases h

end

/-- a call whose outcome is known: it returns v and leaves all that was there -/
structure Known where
  f : FuncId
  args : List AV
  v : AV

def findK (f : FuncId) (args : List AV) : List Known → Option AV
  | [] => none
  | q :: r => (match Nat.beq q.f f with
    | true => (match sameVs args q.args with | true => some q.v | false => findK f args r)
    | false => findK f args r)

section
variable {Y : Sy} {E : Env} {ρ : Rho} {h : H} {w : World}

/-- what a call returns, having left all that was there -/
def Gives (Y : Sy) (E : Env) (f : FuncId) (args : List AV) (v : AV) : Prop :=
  ∀ (w : World) (cargs : List Value), concs Y (fun _ => none) args = some cargs → Calls E.P f cargs.toArray w fun e w' => ∃ cv, e = .returned cv ∧ conc Y (fun _ => none) v = some cv ∧ RowKit.Below w.heap.size w w'

def hasBody (E : Env) (f : FuncId) : Bool :=
  match E.ft.get f with
  | some fn => (match fn.body with | some _ => true | none => false)
  | none => false

def KnownOk (Y : Sy) (E : Env) (kn : List Known) : Prop := ∀ q ∈ kn, hasBody E q.f = true ∧ Gives Y E q.f q.args q.v

theorem KnownOk.nil : KnownOk Y E [] := fun q hq => by cases hq

theorem KnownOk.cons {q : Known} {kn : List Known} (hb : hasBody E q.f = true) (hg : Gives Y E q.f q.args q.v) (hk : KnownOk Y E kn) : KnownOk Y E (q :: kn) := by
  intro r hr
  rcases List.mem_cons.1 hr with rfl | hr
  · exact ⟨hb, hg⟩
  · exact hk r hr

theorem findK_mem {f : FuncId} {args : List AV} {v : AV} : ∀ {kn : List Known}, findK f args kn = some v → ∃ q ∈ kn, q.f = f ∧ sameVs args q.args = true ∧ q.v = v
  | [], h => by cases h
  | q :: r, h => by
    simp only [findK] at h
    cases hb : Nat.beq q.f f with
    | false =>
      rw [hb] at h
      obtain ⟨q', h1, h2⟩ := findK_mem h
      exact ⟨q', List.mem_cons_of_mem _ h1, h2⟩
    | true =>
      rw [hb] at h
      dsimp only at h
      cases hs : sameVs args q.args with
      | false =>
        rw [hs] at h
        obtain ⟨q', h1, h2⟩ := findK_mem h
        exact ⟨q', List.mem_cons_of_mem _ h1, h2⟩
      | true =>
        rw [hs] at h
        cases h
        exact ⟨q, by simp, Nat.eq_of_beq_eq_true hb, hs, rfl⟩

end
end
end Go.AE

namespace Go.AE

section
variable {H : Type} {enc : TypeId × Value → H} {P : Program} {W W' : World}

/-- all arguments read behind the call as they did before -/
theorem trodAll_stays (hl : laidOutB P = true) (hb : RowKit.Below W.heap.size W W') {sp : Nat → Bool} : ∀ {ts : List TypeId} {vs : List Value} {ds : List (DataW H)} {ps : List MemPlace}, (ts.all fun t => P.readableRec t && Nat.blt t P.types.size) = true →
    DataW.TrodAll enc P W 0 (fun _ => true) true ts vs ds ps → (∀ x ∈ ps, x.block < W.heap.size) → (∀ x ∈ ps, sp x.block = true) → DataW.TrodAll enc P W' 0 sp true ts vs ds ps
  | [], vs, ds, ps, _, h, _, _ => by
    obtain ⟨rfl, rfl, rfl⟩ := ChangeShapes.trodAll_nil h
    exact ChangeShapes.trodAll_mk0
  | t :: ts, vs, ds, ps, hr, h, hlt, hsp => by
    simp only [List.all_cons, Bool.and_eq_true] at hr
    obtain ⟨v, vs', d, ds', p, q, rfl, rfl, rfl, h1, h2⟩ := ChangeShapes.trodAll_cons h
    refine trodAll_cons_mk ?_ (trodAll_stays hl hb hr.2 h2 (fun x hx => hlt x (by simp [hx])) fun x hx => hsp x (by simp [hx]))
    exact WideElems.Trod_stays hl hr.1.1 ((blt_iff _ _).1 hr.1.2) h1 (fun x hx => hb.same (hlt x (by simp [hx]))) fun x hx => hsp x (by simp [hx])

end

section
variable {P : Program} {w : World} {r : Reach} {base : Nat}

end
end Go.AE

namespace Go.AE

section
variable {Y : Sy} {ρ : Rho}

end

/-- a call returns v and leaves all that was there -/
def Returns (P : Program) (f : FuncId) (args : List Value) (v : Value) : Prop := ∀ w, Calls P f args.toArray w fun e w' => e = .returned v ∧ RowKit.Below w.heap.size w w'

theorem Gives.returns {Y : Sy} {E : Env} {f : FuncId} {args : List AV} {cargs : List Value} {v : AV} {cv : Value} (h : Gives Y E f args v) (ha : concs Y (fun _ => none) args = some cargs) (hv : conc Y (fun _ => none) v = some cv) : Returns E.P f cargs cv := by
  intro w
  refine (h w cargs ha).mono fun e w' he => ?_
  obtain ⟨cv', rfl, h1, h2⟩ := he
  rw [hv] at h1
  cases h1
  exact ⟨rfl, h2⟩

end Go.AE

namespace Go.AE
noncomputable section

/-! ### Two values, two blocks -/
def eqFn : Fn → Fn → Bool
  | .func f, .func g => Nat.beq f g
  | .yield l, .yield m => Nat.beq l m
  | _, _ => false

def eqList {α : Type} (f : α → α → Bool) : List α → List α → Bool
  | [], [] => true
  | a :: x, b :: y => (match f a b with | true => eqList f x y | false => false)
  | _, _ => false

/-- 'ih': how their parts are told apart -/
def eqStep (ih : AV → AV → Bool) (x y : AV) : Bool :=
  match x, y with
  | .bool a, .bool b => eqB a b
  | .i64 a, .i64 b => eqI a b
  | .int k a, .int k' b => eqKind k k' && eqI a b
  | .str a, .str b => eqStr a b
  | .ptr a b, .ptr a' b' => Nat.beq a a' && Nat.beq b b'
  | .nilptr, .nilptr => true
  | .slice a b c d, .slice a' b' c' d' => Nat.beq a a' && (Nat.beq b b' && (Nat.beq c c' && Nat.beq d d'))
  | .gslice a b c d, .gslice a' b' c' d' => Nat.beq a a' && (Nat.beq b b' && (Nat.beq c c' && Nat.beq d d'))
  | .nilslice, .nilslice => true
  | .map a, .map b => Nat.beq a b
  | .nilmap, .nilmap => true
  | .func f a c, .func f' a' c' => eqFn f f' && (eqList ih a a' && eqList ih c c')
  | .nilfunc, .nilfunc => true
  | .iface t v, .iface t' v' => Nat.beq t t' && ih v v'
  | .niliface, .niliface => true
  | .agg l, .agg l' => eqList ih l l'
  | .tuple l, .tuple l' => eqList ih l l'
  | .sint k e lo hi, .sint k' e' lo' hi' => eqKind k k' && (eqX e e' && (eqI lo lo' && eqI hi hi'))
  | .sstr i lo hi, .sstr j lo' hi' => Nat.beq i j && (Nat.beq lo lo' && Nat.beq hi hi')
  | .eslice a b c d e, .eslice a' b' c' d' e' => Nat.beq a a' && (Nat.beq b b' && (Nat.beq c c' && (Nat.beq d d' && Nat.beq e e')))
  | .oslice i, .oslice j => Nat.beq i j
  | .opq i, .opq j => eqQ i j
  | .uslice a b c d e, .uslice a' b' c' d' e' => Nat.beq a a' && (Nat.beq b b' && (Nat.beq c c' && (Nat.beq d d' && Nat.beq e e')))
  | _, _ => false

/-- 'n': how deep it is looked at -/
def eqAV (n : Nat) : AV → AV → Bool := Nat.rec (motive := fun _ => AV → AV → Bool) (fun _ _ => false) (fun _ ih => eqStep ih) n

def eqOpt {α : Type} (f : α → α → Bool) : Option α → Option α → Bool
  | none, none => true
  | some a, some b => f a b
  | _, _ => false

def eqTV (t : T AV) : T AV → Bool :=
  T.rec (motive := fun _ => T AV → Bool) (fun u => match u with | .nil => true | .node _ _ _ => false)
    (fun _ v _ el er u =>
      match u with
      | .nil => false
      | .node l' v' r' => (match eqOpt (eqAV 8) v v' with | true => (match el l' with | true => er r' | false => false) | false => false)) t

def eqEnt (a b : AEnt) : Bool := eqAV 8 a.key b.key && (eqAV 8 a.val b.val && Nat.beq a.born b.born)

/-- rows and maps alone are told apart -/
def eqO : AObj → AObj → Bool
  | .cells c n gs, .cells c' n' gs' => Nat.beq n n' && (Nat.beq gs gs' && eqTV c c')
  | .map es cl, .map es' cl' => Nat.beq cl cl' && eqList eqEnt es es'
  | .dead, .dead => true
  | .held c n x, .held c' n' x' => Nat.beq n n' && (eqB x x' && eqTV c c')
  | _, _ => false

theorem eqFn_eq {a b : Fn} (h : eqFn a b = true) : a = b := by
  unfold eqFn at h
  split at h
  · rw [Nat.eq_of_beq_eq_true h]
  · rw [Nat.eq_of_beq_eq_true h]
  · cases h

theorem eqList_eq {α : Type} {f : α → α → Bool} (hf : ∀ a b, f a b = true → a = b) : ∀ {x y : List α}, eqList f x y = true → x = y
  | [], [], _ => rfl
  | a :: x, b :: y, h => by
    simp only [eqList] at h
    cases hab : f a b with
    | false => rw [hab] at h; cases h
    | true => rw [hab] at h; rw [hf a b hab, eqList_eq hf h]
  | [], _ :: _, h => by cases h
  | _ :: _, [], h => by cases h

theorem eqStep_eq {f : AV → AV → Bool} (ih : ∀ x y, f x y = true → x = y) {x y : AV} (h : eqStep f x y = true) : x = y := by
  unfold eqStep at h
  split at h
  · rename_i a b
    cases a <;> cases b <;> first | rfl | cases h
  · rw [eqI_iff] at h; rw [h]
  · simp only [Bool.and_eq_true] at h
    obtain ⟨h1, h2⟩ := h
    rw [eqI_iff] at h2
    rw [eqKind_eq h1, h2]
  · rw [eqStr_true h]
  · simp only [Bool.and_eq_true] at h
    rw [Nat.eq_of_beq_eq_true h.1, Nat.eq_of_beq_eq_true h.2]
  · rfl
  · simp only [Bool.and_eq_true] at h
    obtain ⟨h1, h2, h3, h4⟩ := h
    rw [Nat.eq_of_beq_eq_true h1, Nat.eq_of_beq_eq_true h2, Nat.eq_of_beq_eq_true h3, Nat.eq_of_beq_eq_true h4]
  · simp only [Bool.and_eq_true] at h
    obtain ⟨h1, h2, h3, h4⟩ := h
    rw [Nat.eq_of_beq_eq_true h1, Nat.eq_of_beq_eq_true h2, Nat.eq_of_beq_eq_true h3, Nat.eq_of_beq_eq_true h4]
  · rfl
  · rw [Nat.eq_of_beq_eq_true h]
  · rfl
  · simp only [Bool.and_eq_true] at h
    obtain ⟨h1, h2, h3⟩ := h
    rw [eqFn_eq h1, eqList_eq ih h2, eqList_eq ih h3]
  · rfl
  · simp only [Bool.and_eq_true] at h
    rw [Nat.eq_of_beq_eq_true h.1, ih _ _ h.2]
  · rfl
  · rw [eqList_eq ih h]
  · rw [eqList_eq ih h]
  · simp only [Bool.and_eq_true] at h
    obtain ⟨h1, h2, h3, h4⟩ := h
    rw [eqI_iff] at h3 h4
    rw [eqKind_eq h1, eqX_eq h2, h3, h4]
  · simp only [Bool.and_eq_true] at h
    obtain ⟨h1, h2, h3⟩ := h
    rw [Nat.eq_of_beq_eq_true h1, Nat.eq_of_beq_eq_true h2, Nat.eq_of_beq_eq_true h3]
  · simp only [Bool.and_eq_true] at h
    obtain ⟨h1, h2, h3, h4, h5⟩ := h
    rw [Nat.eq_of_beq_eq_true h1, Nat.eq_of_beq_eq_true h2, Nat.eq_of_beq_eq_true h3, Nat.eq_of_beq_eq_true h4, Nat.eq_of_beq_eq_true h5]
  · rw [Nat.eq_of_beq_eq_true h]
  · rw [eqQ_eq h]
  · simp only [Bool.and_eq_true] at h
    obtain ⟨h1, h2, h3, h4, h5⟩ := h
    rw [Nat.eq_of_beq_eq_true h1, Nat.eq_of_beq_eq_true h2, Nat.eq_of_beq_eq_true h3, Nat.eq_of_beq_eq_true h4, Nat.eq_of_beq_eq_true h5]
  · cases h

theorem eqAV_eq : ∀ (n : Nat) (x y : AV), eqAV n x y = true → x = y
  | 0, _, _, h => by cases h
  | n + 1, _, _, h => eqStep_eq (eqAV_eq n) h

theorem eqTV_eq : ∀ {t u : T AV}, eqTV t u = true → t = u := by
  intro t
  induction t with
  | nil =>
    intro u h
    cases u with
    | nil => rfl
    | node _ _ _ => cases h
  | node l v r hl hr =>
    intro u h
    cases u with
    | nil => cases h
    | node l' v' r' =>
      have e : eqTV (.node l v r) (.node l' v' r') = (match eqOpt (eqAV 8) v v' with | true => (match eqTV l l' with | true => eqTV r r' | false => false) | false => false) := rfl
      rw [e] at h
      cases h1 : eqOpt (eqAV 8) v v' with
      | false => rw [h1] at h; cases h
      | true =>
        rw [h1] at h
        dsimp only at h
        cases h2 : eqTV l l' with
        | false => rw [h2] at h; cases h
        | true =>
          rw [h2] at h
          have hv : v = v' := by
            unfold eqOpt at h1
            split at h1
            · rfl
            · rw [eqAV_eq 8 _ _ h1]
            · cases h1
          rw [hl h2, hr h, hv]

theorem eqEnt_eq {a b : AEnt} (h : eqEnt a b = true) : a = b := by
  unfold eqEnt at h
  simp only [Bool.and_eq_true] at h
  obtain ⟨h1, h2, h3⟩ := h
  cases a
  cases b
  simp only [AEnt.mk.injEq]
  exact ⟨eqAV_eq 8 _ _ h1, eqAV_eq 8 _ _ h2, Nat.eq_of_beq_eq_true h3⟩

theorem eqO_eq {a b : AObj} (h : eqO a b = true) : a = b := by
  unfold eqO at h
  split at h
  · simp only [Bool.and_eq_true] at h
    obtain ⟨h1, h2, h3⟩ := h
    rw [Nat.eq_of_beq_eq_true h1, Nat.eq_of_beq_eq_true h2, eqTV_eq h3]
  · simp only [Bool.and_eq_true] at h
    rw [Nat.eq_of_beq_eq_true h.1, eqList_eq (fun _ _ h => eqEnt_eq h) h.2]
  · rfl
  · rename_i x _ _ x'
    simp only [Bool.and_eq_true] at h
    obtain ⟨h1, h2, h3⟩ := h
    have e : x = x' := by cases x <;> cases x' <;> first | rfl | cases h2
    rw [Nat.eq_of_beq_eq_true h1, e, eqTV_eq h3]
  · cases h

/-! ### A call whose outcome is known -/
/-- 'old': what it finds; 'new': the blocks that it makes or turns; 'from', 'to': the next number before and behind it -/
structure Sum where
  f : FuncId
  args : List AV
  start : Nat
  old : List (Nat × AObj)
  v : AV
  new : List (Nat × AObj)
  stop : Nat
  /-- blocks that it leaves alone -/
  prot : List Nat := []

def putAll (l : List (Nat × AObj)) : T AObj → T AObj :=
  List.rec (motive := fun _ => T AObj → T AObj) (fun t => t) (fun p _ ih t => ih (putO t p.1 p.2)) l

/-- all of these blocks lie there -/
def subH (h : H) : List (Nat × AObj) → Bool
  | [] => true
  | (b, o) :: r =>
    match h.get b with
    | none => false
    | some o' => (match eqO o o' with | true => subH h r | false => false)

def memF (l : List (Nat × AObj)) (b : Nat) : Bool :=
  List.rec (motive := fun _ => Bool) false (fun p _ ih => Bool.rec (motive := fun _ => Bool) ih true (Nat.beq p.1 b)) l

def noneOf (l : List (Nat × AObj)) : List Nat → Bool
  | [] => true
  | b :: r => (match memF l b with | true => false | false => noneOf l r)

/-- what is held fast here is held fast there, or not known there -/
def heldOk (old : List (Nat × AObj)) (prot : List Nat) : List Nat → Bool
  | [] => true
  | b :: r => (match memF old b, memN prot b with | true, false => false | _, _ => heldOk old prot r)

/-- the blocks of 'l' that are not among 'm' -/
def less (m : List (Nat × AObj)) : List (Nat × AObj) → List (Nat × AObj)
  | [] => []
  | p :: r => (match memF m p.1 with | true => less m r | false => p :: less m r)

def Sum.apply (q : Sum) (args : List AV) (h : H) : Option (AV × H) :=
  match h with
  | ⟨t, n, m, p⟩ =>
    match Nat.ble n q.start, eqList (eqAV 8) q.args args with
    | true, true =>
      (match subH ⟨t, n, m, p⟩ q.old, noneOf q.new m, noneOf q.new p, heldOk q.old q.prot p with
       | true, true, true, true => some (q.v, ⟨putAll q.new t, q.stop, m, p⟩)
       | _, _, _, _ => none)
    | _, _ => none

def findS (f : FuncId) (args : List AV) (h : H) : List Sum → Option (AV × H)
  | [] => none
  | q :: r => (match Nat.beq q.f f with
    | true => (match q.apply args h with | some x => some x | none => findS f args h r)
    | false => findS f args h r)

/-- the heap before it -/
def Sum.before (q : Sum) : H := ⟨putAll q.old .nil, q.start, [], q.prot⟩
def Sum.behind (q : Sum) : H := ⟨putAll q.new (putAll q.old .nil), q.stop, [], q.prot⟩

theorem get_putAll {b : Nat} : ∀ (l : List (Nat × AObj)), (memF l b = true ∧ ∃ o, (b, o) ∈ l ∧ ∀ u, getO (putAll l u) b = some o) ∨ (memF l b = false ∧ ∀ u, getO (putAll l u) b = getO u b)
  | [] => .inr ⟨rfl, fun _ => rfl⟩
  | p :: r => by
    have e : ∀ u, putAll (p :: r) u = putAll r (putO u p.1 p.2) := fun _ => rfl
    have em : memF (p :: r) b = Bool.rec (motive := fun _ => Bool) (memF r b) true (Nat.beq p.1 b) := rfl
    rcases get_putAll (b := b) r with ⟨h1, o, ho, h2⟩ | ⟨h1, h2⟩
    · left
      refine ⟨by rw [em, h1]; cases Nat.beq p.1 b <;> rfl, o, by simp [ho], fun u => by rw [e, h2]⟩
    · cases hb : Nat.beq p.1 b with
      | true =>
        left
        have := Nat.eq_of_beq_eq_true hb
        subst this
        exact ⟨by rw [em, hb], p.2, by simp, fun u => by rw [e, h2, get_putO, if_pos rfl]⟩
      | false =>
        right
        have hne : p.1 ≠ b := Nat.ne_of_beq_eq_false hb
        exact ⟨by rw [em, hb]; exact h1, fun u => by rw [e, h2, get_putO, if_neg (fun e => hne e.symm)]⟩

theorem subH_mem {h : H} : ∀ {l : List (Nat × AObj)}, subH h l = true → ∀ b o, (b, o) ∈ l → h.get b = some o
  | [], _, b, o, hm => by cases hm
  | (c, p) :: r, hs, b, o, hm => by
    simp only [subH] at hs
    cases hg : h.get c with
    | none => rw [hg] at hs; cases hs
    | some o' =>
      rw [hg] at hs
      dsimp only at hs
      cases he : eqO p o' with
      | false => rw [he] at hs; cases hs
      | true =>
        rw [he] at hs
        rcases List.mem_cons.1 hm with h | h
        · cases h
          rw [hg, eqO_eq he]
        · exact subH_mem hs b o h

theorem noneOf_mem {l : List (Nat × AObj)} : ∀ {m : List Nat}, noneOf l m = true → ∀ b ∈ m, memF l b = false
  | [], _, b, hb => by cases hb
  | c :: m, h, b, hb => by
    simp only [noneOf] at h
    cases hc : memF l c with
    | true => rw [hc] at h; cases h
    | false =>
      rw [hc] at h
      rcases List.mem_cons.1 hb with rfl | hb
      · exact hc
      · exact noneOf_mem h b hb

theorem heldOk_mem {old : List (Nat × AObj)} {prot : List Nat} : ∀ {l : List Nat}, heldOk old prot l = true → ∀ b ∈ l, memF old b = true → memN prot b = true
  | [], _, b, hb => by cases hb
  | c :: l, h, b, hb => by
    intro hm
    simp only [heldOk] at h
    rcases List.mem_cons.1 hb with rfl | hb
    · rw [hm] at h
      cases hp : memN prot b with
      | true => rfl
      | false => rw [hp] at h; cases h
    · refine heldOk_mem (l := l) ?_ b hb hm
      cases h1 : memF old c <;> cases h2 : memN prot c <;> rw [h1, h2] at h <;> first | exact h | cases h

section
variable {Y : Sy} {E : Env} {ρ : Rho} {h : H} {w : World}

theorem H.get_bare (t : T AObj) (n : Nat) (p : List Nat) (b : Nat) : H.get ⟨t, n, [], p⟩ b = getO t b := by
  rw [H.get_eq]; rfl

/-- a call that goes on with a part of the heap goes on with the whole -/
theorem Goes.frame {q : Sum} {ρ' : Rho} {w' : World} (hr : Rel Y E ρ h w) (hn : h.next ≤ q.start) (hsub : subH h q.old = true) (hm : noneOf q.new h.mask = true) (hp : noneOf q.new h.prot = true) (hh : heldOk q.old q.prot h.prot = true)
    (hg : Goes Y E ρ q.before w ρ' q.behind w') : Goes Y E ρ h w ρ' ⟨putAll q.new h.t, q.stop, h.mask, h.prot⟩ w' := by
  have hin : ∀ b o, q.before.get b = some o → h.get b = some o := by
    intro b o hb
    unfold Sum.before at hb
    rw [H.get_bare] at hb
    rcases get_putAll (b := b) q.old with ⟨_, o', ho', h2⟩ | ⟨_, h2⟩
    · rw [h2] at hb
      cases hb
      exact subH_mem hsub b _ ho'
    · rw [h2] at hb
      cases hb
  have hbe : ∀ b, q.behind.get b = getO (putAll q.new (putAll q.old .nil)) b := fun b => by unfold Sum.behind; rw [H.get_bare]
  have hbf : ∀ b, q.before.get b = getO (putAll q.old .nil) b := fun b => by unfold Sum.before; rw [H.get_bare]
  -- a block of the whole heap behind it
  have key : ∀ b o, H.get ⟨putAll q.new h.t, q.stop, h.mask, h.prot⟩ b = some o → (memF q.new b = true ∧ q.behind.get b = some o) ∨ (memF q.new b = false ∧ h.get b = some o ∧ (∀ p, q.before.get b = some p → q.behind.get b = some o)) := by
    intro b o hb
    rw [H.get_eq] at hb
    split at hb
    · cases hb
    · rename_i hmk
      have hb' : getO (putAll q.new h.t) b = some o := hb
      rcases get_putAll (b := b) q.new with ⟨h1, o', ho', h2⟩ | ⟨h1, h2⟩
      · left
        rw [h2] at hb'
        cases hb'
        exact ⟨h1, by rw [hbe, h2]⟩
      · right
        rw [h2] at hb'
        have hgo : h.get b = some o := by rw [H.get_eq, if_neg hmk]; exact hb'
        refine ⟨h1, hgo, fun p hp' => ?_⟩
        have := hin b p hp'
        rw [hgo] at this
        cases this
        rw [hbe, h2, ← hbf]
        exact hp'
  have hnx : q.start ≤ q.stop := hg.keeps.next
  have hwr : ∀ b o, q.before.get b = some o → wr q.before b o = true → wr h b o = true := by
    intro b o hb hw
    refine wr_mk (wr_alive hw) ?_
    cases hpb : memN h.prot b with
    | false => rfl
    | true =>
      have hmem : memF q.old b = true := by
        rw [hbf] at hb
        rcases get_putAll (b := b) q.old with ⟨h1, _⟩ | ⟨_, h2⟩
        · exact h1
        · rw [h2] at hb; cases hb
      have h1 := heldOk_mem hh b ((memN_iff _ _).1 hpb) hmem
      have h2 : memN q.prot b = false := wr_prot hw
      rw [h1] at h2
      cases h2
  -- where a block that the call does not know lies
  have apart : ∀ b o L, h.get b = some o → o.alive = true → ρ b = some L → q.before.get b = none → ∀ c p M, q.before.get c = some p → p.alive = true → ρ c = some M → M.blk ≠ L.blk := by
    intro b o L hb ha hL hnone c p M hc hpa hM e
    have := hr.inj c b p o M L (hin c p hc) hb hpa ha hM hL e
    subst this
    rw [hnone] at hc
    cases hc
  have obj : ∀ b o, H.get ⟨putAll q.new h.t, q.stop, h.mask, h.prot⟩ b = some o → o.alive = true → ∃ L ob, ρ' b = some L ∧ w'.heap[L.blk]? = some ob ∧ ORel Y E ρ' L o ob := by
    intro b o hb ha
    rcases key b o hb with ⟨_, h1⟩ | ⟨_, h1, h2⟩
    · exact hg.rel.obj b o h1 ha
    · cases hbb : q.before.get b with
      | some p => exact hg.rel.obj b o (h2 p hbb) ha
      | none =>
        obtain ⟨L, ob, k1, k2, k3⟩ := hr.obj b o h1 ha
        refine ⟨L, ob, hg.le _ _ k1, ?_, k3.mono hg.le⟩
        rw [hg.frm.block L.blk (hr.bound b L k1) fun c p M hc hpa hM => apart b o L h1 ha k1 hbb c p M hc (wr_alive hpa) hM]
        exact k2
  -- a block that the call knows and one that it does not
  have cross : ∀ b o L, h.get b = some o → o.alive = true → ρ b = some L → q.before.get b = none → ∀ c p M, q.behind.get c = some p → p.alive = true → ρ' c = some M → L.blk = M.blk → b = c := by
    intro b o L hb ha hL hnone c p M hc hpa hM e
    cases hρ : ρ c with
    | some M₀ =>
      have h1 := hg.le _ _ hρ
      rw [hM] at h1
      cases h1
      have hlt : c < q.before.next := by
        rcases Nat.lt_or_ge c q.start with h2 | h2
        · exact h2
        · rw [hr.fresh c (Nat.le_trans hn h2)] at hρ; cases hρ
      obtain ⟨o₀, h2, h3⟩ := hg.keeps.old c p hlt hc hpa
      exact absurd e.symm (apart b o L hb ha hL hnone c o₀ M h2 h3 hρ)
    | none =>
      rcases hg.made c M hρ hM with h1 | ⟨d, o₁, M₁, k1, k2, k3, k4⟩
      · have := hr.bound b L hL
        omega
      · exact absurd (k4.trans e.symm) (apart b o L hb ha hL hnone d o₁ M₁ k1 (wr_alive k2) k3)
  refine ⟨hg.le, ⟨obj, ?_, hg.rel.fresh, hg.rel.bound⟩, ⟨hg.frm.os, hg.frm.tape, hg.frm.output, hg.frm.size, fun c hc hno => hg.frm.block c hc fun b o L hb ha hL => hno b o L (hin b o hb) (hwr b o hb ha) hL⟩, ⟨rfl, rfl, Nat.le_trans hn hnx, ?_, ?_⟩, ?_, fun b hb => hg.same b (Nat.lt_of_lt_of_le hb hn)⟩
  · intro b c o p L M hb hc ha hpa hL hM e
    have hL' : ∀ x o L, h.get x = some o → o.alive = true → ρ' x = some L → ρ x = some L := by
      intro x o L hx hxa hxL
      obtain ⟨L₀, _, k1, _⟩ := hr.obj x o hx hxa
      have := hg.le _ _ k1
      rw [hxL] at this
      cases this
      exact k1
    rcases key b o hb with ⟨_, h1⟩ | ⟨_, h1, h2⟩
    · rcases key c p hc with ⟨_, k1⟩ | ⟨_, k1, k2⟩
      · exact hg.rel.inj b c o p L M h1 k1 ha hpa hL hM e
      · cases hcc : q.before.get c with
        | some p' => exact hg.rel.inj b c o p L M h1 (k2 p' hcc) ha hpa hL hM e
        | none => exact (cross c p M k1 hpa (hL' c p M k1 hpa hM) hcc b o L h1 ha hL e.symm).symm
    · cases hbb : q.before.get b with
      | none =>
        rcases key c p hc with ⟨_, k1⟩ | ⟨_, k1, k2⟩
        · exact cross b o L h1 ha (hL' b o L h1 ha hL) hbb c p M k1 hpa hM e
        · exact hr.inj b c o p L M h1 k1 ha hpa (hL' b o L h1 ha hL) (hL' c p M k1 hpa hM) e
      | some o' =>
        rcases key c p hc with ⟨_, k1⟩ | ⟨_, k1, k2⟩
        · exact hg.rel.inj b c o p L M (h2 o' hbb) k1 ha hpa hL hM e
        · exact hr.inj b c o p L M h1 k1 ha hpa (hL' b o L h1 ha hL) (hL' c p M k1 hpa hM) e
  · intro b _ hmp
    have hnb : memF q.new b = false := by
      rcases hmp with h1 | h1
      · exact noneOf_mem hm b ((memN_iff _ _).1 h1)
      · exact noneOf_mem hp b ((memN_iff _ _).1 h1)
    show getO (putAll q.new h.t) b = getO h.t b
    rcases get_putAll (b := b) q.new with ⟨h1, _⟩ | ⟨_, h2⟩
    · rw [hnb] at h1; cases h1
    · exact h2 _
  · intro b o hlt hb ha
    rcases key b o hb with ⟨_, h1⟩ | ⟨_, h1, _⟩
    · obtain ⟨o₀, k1, k2⟩ := hg.keeps.old b o (Nat.lt_of_lt_of_le hlt hn) h1 ha
      exact ⟨o₀, hin b o₀ k1, k2⟩
    · exact ⟨o, h1, ha⟩
  · intro b L h0 h1
    rcases hg.made b L h0 h1 with k | ⟨c, o, M, k1, k2, k3, k4⟩
    · exact .inl k
    · exact .inr ⟨c, o, M, hin c o k1, hwr c o k1 k2, k3, k4⟩

/-- what a call that is known does -/
def SumOk (Y : Sy) (E : Env) (q : Sum) : Prop :=
  hasBody E q.f = true ∧ ∀ (ρ : Rho) (w : World) (cargs : List Value), Rel Y E ρ q.before w → Glob E ρ → concs Y ρ q.args = some cargs →
    Calls E.P q.f cargs.toArray w fun e w' => ∃ cv ρ', e = .returned cv ∧ Goes Y E ρ q.before w ρ' q.behind w' ∧ conc Y ρ' q.v = some cv

def SumsOk (Y : Sy) (E : Env) (ss : List Sum) : Prop := ∀ q ∈ ss, SumOk Y E q

theorem SumsOk.nil : SumsOk Y E [] := fun q hq => by cases hq

theorem SumsOk.cons {q : Sum} {ss : List Sum} (hq : SumOk Y E q) (hs : SumsOk Y E ss) : SumsOk Y E (q :: ss) := by
  intro r hr
  rcases List.mem_cons.1 hr with rfl | hr
  · exact hq
  · exact hs r hr

theorem SumsOk.append {s t : List Sum} (hs : SumsOk Y E s) (ht : SumsOk Y E t) : SumsOk Y E (s ++ t) := by
  intro r hr
  rcases List.mem_append.1 hr with hr | hr
  · exact hs r hr
  · exact ht r hr

theorem apply_eq {q : Sum} {args : List AV} {v : AV} {h' : H} (ha : q.apply args h = some (v, h')) :
    h.next ≤ q.start ∧ q.args = args ∧ subH h q.old = true ∧ noneOf q.new h.mask = true ∧ noneOf q.new h.prot = true ∧ heldOk q.old q.prot h.prot = true ∧ v = q.v ∧ h' = ⟨putAll q.new h.t, q.stop, h.mask, h.prot⟩ := by
  obtain ⟨t, n, m, p⟩ := h
  unfold Sum.apply at ha
  dsimp only at ha
  split at ha
  · rename_i h1 h2
    split at ha
    · rename_i h3 h4 h5 h6
      cases ha
      exact ⟨Nat.le_of_ble_eq_true h1, eqList_eq (eqAV_eq 8) h2, h3, h4, h5, h6, rfl, rfl⟩
    · cases ha
  · cases ha

theorem findS_mem {f : FuncId} {args : List AV} {x : AV × H} : ∀ {ss : List Sum}, findS f args h ss = some x → ∃ q ∈ ss, q.f = f ∧ q.apply args h = some x
  | [], hf => by cases hf
  | q :: r, hf => by
    simp only [findS] at hf
    cases hb : Nat.beq q.f f with
    | false =>
      rw [hb] at hf
      obtain ⟨q', h1, h2⟩ := findS_mem hf
      exact ⟨q', List.mem_cons_of_mem _ h1, h2⟩
    | true =>
      rw [hb] at hf
      dsimp only at hf
      cases ha : q.apply args h with
      | some y =>
        rw [ha] at hf
        cases hf
        exact ⟨q, by simp, Nat.eq_of_beq_eq_true hb, ha⟩
      | none =>
        rw [ha] at hf
        obtain ⟨q', h1, h2⟩ := findS_mem hf
        exact ⟨q', List.mem_cons_of_mem _ h1, h2⟩

end

section
variable {Y : Sy} {E : Env} {ρ : Rho} {h : H} {w : World}

theorem callFunc_body (hE : EnvOk Y E) {f : FuncId} (hb : hasBody E f = true) (cargs : List Value) : (callFunc f cargs.toArray).run E.P w = .ok (.enter f cargs.toArray) w := by
  unfold hasBody at hb
  cases hft : E.ft.get f with
  | none => rw [hft] at hb; cases hb
  | some fn =>
    rw [hft] at hb
    dsimp only at hb
    cases hbd : fn.body with
    | none => rw [hbd] at hb; cases hb
    | some c =>
      have hfP := hE.ft f fn hft
      have hnm := hE.named f fn hft (by rw [hbd]; rfl)
      have hnm' : ¬ fn.name = "runtime.NumGoroutine" := by simpa using hnm
      simp [callFunc, hfP, hnm', hbd]

end
end
end Go.AE

namespace Go.AE

section
variable {Y : Sy} {E : Env} {w : World}

/-- the program's own variables lie at the heap's start -/
def rhoG (ng : Nat) : Rho := fun b => if b < ng then some ⟨b, 0, 0⟩ else none

/-- what the variables hold -/
def LaidW (Y : Sy) (E : Env) (gl : List (Nat × AObj)) (w : World) : Prop :=
  E.ng ≤ w.heap.size ∧ ∀ b o, (b, o) ∈ gl → b < E.ng ∧ ∃ ob, w.heap[b]? = some ob ∧ ORel Y E (rhoG E.ng) ⟨b, 0, 0⟩ o ob

/-- the heap at the start -/
noncomputable def heapG (gl : List (Nat × AObj)) (n : Nat) : H := ⟨putAll gl .nil, n, [], gl.map fun p => p.1⟩

theorem heapG_get {gl : List (Nat × AObj)} {n b : Nat} {o : AObj} (h : (heapG gl n).get b = some o) : (b, o) ∈ gl := by
  unfold heapG at h
  rw [H.get_bare] at h
  rcases get_putAll (b := b) gl with ⟨_, o', ho', h2⟩ | ⟨_, h2⟩
  · rw [h2] at h
    cases h
    exact ho'
  · rw [h2] at h
    cases h

theorem rel_laid {gl : List (Nat × AObj)} {n : Nat} (hl : LaidW Y E gl w) (hn : E.ng ≤ n) : Rel Y E (rhoG E.ng) (heapG gl n) w := by
  refine ⟨fun b o hb _ => ?_, fun b c o p L M _ _ _ _ hL hM e => ?_, fun b hb => ?_, fun b L hL => ?_⟩
  · obtain ⟨h1, ob, h2, h3⟩ := hl.2 b o (heapG_get hb)
    exact ⟨⟨b, 0, 0⟩, ob, by simp [rhoG, h1], h2, h3⟩
  · unfold rhoG at hL hM
    split at hL <;> split at hM <;> first | cases hL | skip
    · cases hM
      exact e
    · cases hM
  · have hb' : n ≤ b := hb
    have : ¬ b < E.ng := by omega
    simp [rhoG, this]
  · unfold rhoG at hL
    split at hL
    · rename_i h
      cases hL
      have := hl.1
      show b < w.heap.size
      omega
    · cases hL

theorem glob_laid : Glob E (rhoG E.ng) := fun g hg => ⟨0, by simp [rhoG, hg]⟩

/-- what is known of numbers is nothing to a summary -/
theorem SumOk.facts {q : Sum} (fs : List (SX × Int × Int)) (h : SumOk Y E q) : SumOk Y { E with facts := fs } q := by
  refine ⟨h.1, fun ρ w cargs hr hg ha => ?_⟩
  refine (h.2 ρ w cargs ⟨hr.obj, hr.inj, hr.fresh, hr.bound⟩ hg ha).mono fun e w' hw => ?_
  obtain ⟨cv, ρ', h1, hgo, h2⟩ := hw
  exact ⟨cv, ρ', h1, ⟨hgo.le, ⟨hgo.rel.obj, hgo.rel.inj, hgo.rel.fresh, hgo.rel.bound⟩, hgo.frm, hgo.keeps, hgo.made, hgo.same⟩, h2⟩

theorem SumOk.envO {q : Sum} (fs : List (SX × Int × Int)) (os : List Orc) (h : SumOk Y E q) : SumOk Y (envO E fs os) q := by
  refine ⟨h.1, fun ρ w cargs hr hg ha => ?_⟩
  refine (h.2 ρ w cargs ⟨hr.obj, hr.inj, hr.fresh, hr.bound⟩ hg ha).mono fun e w' hw => ?_
  obtain ⟨cv, ρ', h1, hgo, h2⟩ := hw
  exact ⟨cv, ρ', h1, ⟨hgo.le, ⟨hgo.rel.obj, hgo.rel.inj, hgo.rel.fresh, hgo.rel.bound⟩, hgo.frm, hgo.keeps, hgo.made, hgo.same⟩, h2⟩

theorem SumsOk.envO {ss : List Sum} (fs : List (SX × Int × Int)) (os : List Orc) (h : SumsOk Y E ss) : SumsOk Y (envO E fs os) ss := fun q hq => (h q hq).envO fs os

theorem Gives.envO {f : FuncId} {args : List AV} {v : AV} (fs : List (SX × Int × Int)) (os : List Orc) (h : Gives Y E f args v) : Gives Y (envO E fs os) f args v := fun w cargs hc => h w cargs hc

theorem SumsOk.facts {ss : List Sum} (fs : List (SX × Int × Int)) (h : SumsOk Y E ss) : SumsOk Y { E with facts := fs } ss := fun q hq => (h q hq).facts fs

end
/-! Knowns by their function. -/
noncomputable def findG (f : FuncId) (args : List AV) : List (FuncId × List Known) → Option AV
  | [] => none
  | g :: r => (match Nat.beq g.1 f with | true => findK f args g.2 | false => findG f args r)

def flatG : List (FuncId × List Known) → List Known
  | [] => []
  | g :: r => g.2 ++ flatG r

theorem findG_mem {f : FuncId} {args : List AV} {v : AV} : ∀ {gs : List (FuncId × List Known)}, findG f args gs = some v → ∃ q ∈ flatG gs, q.f = f ∧ sameVs args q.args = true ∧ q.v = v
  | [], h => by cases h
  | g :: r, h => by
    simp only [findG] at h
    split at h
    · obtain ⟨q, h1, h2⟩ := findK_mem h
      exact ⟨q, List.mem_append_left _ h1, h2⟩
    · obtain ⟨q, h1, h2⟩ := findG_mem h
      exact ⟨q, List.mem_append_right _ h1, h2⟩

end Go.AE

namespace Go.AE
noncomputable section

/-- where a byte is, from place i on -/
def idxByte (c : Nat) : List Nat → Nat → Int
  | [], _ => .negSucc 0
  | b :: r, i => (match Nat.beq b c with | true => .ofNat i | false => idxByte c r (Nat.succ i))

def cntByte (c : Nat) : List Nat → Nat → Nat
  | [], n => n
  | b :: r, n => (match Nat.beq b c with | true => cntByte c r (Nat.succ n) | false => cntByte c r n)

def preS : List Nat → List Nat → Bool
  | [], _ => true
  | _ :: _, [] => false
  | a :: r, b :: l => (match Nat.beq a b with | true => preS r l | false => false)

/-- where a part is, from place i on -/
def idxPart (sub : List Nat) : List Nat → Nat → Int
  | [], i => (match sub with | [] => .ofNat i | _ => .negSucc 0)
  | b :: r, i => (match preS sub (b :: r) with | true => .ofNat i | false => idxPart sub r (Nat.succ i))

theorem ofNat_beq {a b : Nat} (ha : a < 256) (hb : b < 256) : (UInt8.ofNat a == UInt8.ofNat b) = Nat.beq a b := by
  cases h : Nat.beq a b with
  | true =>
    have := Nat.eq_of_beq_eq_true h
    subst this
    exact beq_self_eq_true _
  | false =>
    refine beq_eq_false_iff_ne.2 fun e => ?_
    have := ofNat_inj ha hb e
    subst this
    rw [Nat.beq_refl] at h
    cases h

theorem okB_cons {b : Nat} {r : List Nat} (h : okBytes (b :: r) = true) : b < 256 ∧ okBytes r = true := by
  unfold okBytes at *
  simp only [List.all_cons, Bool.and_eq_true, decide_eq_true_eq] at h
  exact h

theorem idxByte_eq {c : Nat} (hc : c < 256) : ∀ {l : List Nat}, okBytes l = true → ∀ i, idxByte c l i = (if Lib.indexByte (l.map UInt8.ofNat) (UInt8.ofNat c) = -1 then -1 else Lib.indexByte (l.map UInt8.ofNat) (UInt8.ofNat c) + i)
  | [], _, i => by simp [idxByte, Lib.indexByte]
  | b :: r, h, i => by
    obtain ⟨hb, hr⟩ := okB_cons h
    have ih := idxByte_eq hc hr (Nat.succ i)
    have hge := Lib.indexByte_ge (r.map UInt8.ofNat) (UInt8.ofNat c)
    simp only [idxByte, List.map_cons, Lib.indexByte, ofNat_beq hb hc]
    cases Nat.beq b c with
    | true => simp
    | false =>
      simp only [ih, beq_iff_eq, Bool.false_eq_true, if_false]
      by_cases e : Lib.indexByte (r.map UInt8.ofNat) (UInt8.ofNat c) = -1
      · simp [e]
      · have : ¬ Lib.indexByte (r.map UInt8.ofNat) (UInt8.ofNat c) + 1 = -1 := by omega
        simp only [e, this, if_false]
        omega

theorem cntByte_eq {c : Nat} (hc : c < 256) : ∀ {l : List Nat}, okBytes l = true → ∀ n, cntByte c l n = Lib.countByte (l.map UInt8.ofNat) (UInt8.ofNat c) + n
  | [], _, n => by simp [cntByte, Lib.countByte]
  | b :: r, h, n => by
    obtain ⟨hb, hr⟩ := okB_cons h
    have e : Lib.countByte ((b :: r).map UInt8.ofNat) (UInt8.ofNat c) = Lib.countByte (r.map UInt8.ofNat) (UInt8.ofNat c) + if UInt8.ofNat b == UInt8.ofNat c then 1 else 0 := by
      unfold Lib.countByte
      rw [List.map_cons, List.count_cons]
    rw [e, ofNat_beq hb hc]
    unfold cntByte
    cases Nat.beq b c with
    | true =>
      have ih := cntByte_eq hc hr (Nat.succ n)
      simp only [ih, if_true]
      omega
    | false =>
      have ih := cntByte_eq hc hr n
      simp only [ih, Bool.false_eq_true, if_false]
      omega

theorem preS_eq : ∀ {a l : List Nat}, okBytes a = true → okBytes l = true → preS a l = (a.map UInt8.ofNat).isPrefixOf (l.map UInt8.ofNat)
  | [], _, _, _ => rfl
  | _ :: _, [], _, _ => rfl
  | x :: a, y :: l, ha, hl => by
    obtain ⟨hx, ha'⟩ := okB_cons ha
    obtain ⟨hy, hl'⟩ := okB_cons hl
    simp only [preS, List.map_cons, List.isPrefixOf, ofNat_beq hx hy, preS_eq ha' hl']
    cases Nat.beq x y <;> rfl

theorem idxPart_eq {sub : List Nat} (hs : okBytes sub = true) : ∀ {l : List Nat}, okBytes l = true → ∀ i, idxPart sub l i = (if Lib.index (l.map UInt8.ofNat) (sub.map UInt8.ofNat) = -1 then -1 else Lib.index (l.map UInt8.ofNat) (sub.map UInt8.ofNat) + i)
  | [], _, i => by
    cases sub with
    | nil => simp [idxPart, Lib.index]
    | cons a s => simp [idxPart, Lib.index]
  | b :: r, h, i => by
    obtain ⟨_, hr⟩ := okB_cons h
    have ih := idxPart_eq hs hr (Nat.succ i)
    have hge := Lib.index_ge (r.map UInt8.ofNat) (sub.map UInt8.ofNat)
    have hp := preS_eq hs h
    simp only [idxPart, List.map_cons, Lib.index]
    rw [List.map_cons] at hp
    rw [← hp]
    cases preS sub (b :: r) with
    | true => simp
    | false =>
      simp only [ih, beq_iff_eq, Bool.false_eq_true, if_false]
      by_cases e : Lib.index (r.map UInt8.ofNat) (sub.map UInt8.ofNat) = -1
      · simp [e]
      · have : ¬ Lib.index (r.map UInt8.ofNat) (sub.map UInt8.ofNat) + 1 = -1 := by omega
        simp only [e, this, if_false]
        omega

/-! ### What is reckoned -/
/-- the place of one byte; how often one byte is there; the place of a part (the library reads a number from variable g) -/
inductive Pm where
  | idx1
  | idxB
  | cnt1
  | idx (g : Nat)

/-- some number lies in the variable -/
def someAt (h : H) (g : Nat) : Bool :=
  match h.get g with
  | some (.held c n _) => (match getV c 0 with
    | some (.sint .i64 _ _ _) => Nat.blt 0 n
    | _ => false)
  | _ => false

def prim (h : H) (p : Pm) (args : List AV) : Option AV :=
  match args with
  | [.str s, .str t] => (match p with
    | .idx1 => (match t with
      | [c] => (match okBytes s, Nat.blt c 256 with | true, true => some (.i64 (idxByte c s 0)) | _, _ => none)
      | _ => none)
    | .cnt1 => (match t with
      | [c] => (match okBytes s, Nat.blt c 256 with | true, true => some (.i64 (.ofNat (cntByte c s 0))) | _, _ => none)
      | _ => none)
    | .idx g => (match okBytes s, okBytes t with
      | true, true => (match Nat.blt s.length 100000, someAt h g with | true, true => some (.i64 (idxPart t s 0)) | _, _ => none)
      | _, _ => none)
    | .idxB => none)
  | [.str s, .int .u8 (.ofNat c)] => (match p with
    | .idxB => (match okBytes s, Nat.blt c 256 with | true, true => some (.i64 (idxByte c s 0)) | _, _ => none)
    | _ => none)
  | _ => none

def findP (f : FuncId) (args : List AV) (h : H) : List (FuncId × Pm) → Option AV
  | [] => none
  | q :: r => (match Nat.beq q.1 f with
    | true => (match prim h q.2 args with | some v => some v | none => findP f args h r)
    | false => findP f args h r)

def PmOk (P : Program) (f : FuncId) : Pm → Prop
  | .idx1 => ∀ (s : ByteArray) (c : UInt8) (w : World), Calls P f #[.string s, .string ⟨#[c]⟩] w fun e w' => e = .returned (.int .i64 (Lib.indexByte s.data.toList c)) ∧ w' = w
  | .cnt1 => ∀ (s : ByteArray) (c : UInt8) (w : World), Calls P f #[.string s, .string ⟨#[c]⟩] w fun e w' => e = .returned (.int .i64 (Lib.countByte s.data.toList c)) ∧ w' = w
  | .idxB => ∀ (s : ByteArray) (c : Int) (w : World), Calls P f #[.string s, .int .u8 c] w fun e w' => e = .returned (.int .i64 (Lib.indexByte s.data.toList c.toNat.toUInt8)) ∧ w' = w
  | .idx g => ∀ (s t : ByteArray) (m : Int) (w : World), s.size < 4294967281 → w.cell? ⟨g, 0, none⟩ = some (.int .i64 m) →
      Calls P f #[.string s, .string t] w fun e w' => e = .returned (.int .i64 (Lib.index s.data.toList t.data.toList)) ∧ w' = w

def PmG (E : Env) : Pm → Bool
  | .idx g => Nat.blt g E.ng
  | _ => true

def PrimsOk (E : Env) (ps : List (FuncId × Pm)) : Prop := ∀ q ∈ ps, hasBody E q.1 = true ∧ PmG E q.2 = true ∧ PmOk E.P q.1 q.2

theorem PrimsOk.nil {E : Env} : PrimsOk E [] := fun q hq => by cases hq
theorem PrimsOk.cons {E : Env} {f : FuncId} {p : Pm} {ps : List (FuncId × Pm)} (hb : hasBody E f = true) (hg : PmG E p = true) (hp : PmOk E.P f p) (h : PrimsOk E ps) : PrimsOk E ((f, p) :: ps) := fun q hq => by
  rcases List.mem_cons.1 hq with rfl | hq
  · exact ⟨hb, hg, hp⟩
  · exact h q hq

theorem findP_mem {f : FuncId} {args : List AV} {h : H} {v : AV} : ∀ {ps : List (FuncId × Pm)}, findP f args h ps = some v → ∃ p, (f, p) ∈ ps ∧ prim h p args = some v
  | [], e => by cases e
  | q :: r, e => by
    simp only [findP] at e
    split at e
    · rename_i hq
      have := Nat.eq_of_beq_eq_true hq
      subst this
      split at e
      · rename_i hp
        cases e
        exact ⟨q.2, List.mem_cons_self .., hp⟩
      · obtain ⟨p, h1, h2⟩ := findP_mem e
        exact ⟨p, List.mem_cons_of_mem _ h1, h2⟩
    · obtain ⟨p, h1, h2⟩ := findP_mem e
      exact ⟨p, List.mem_cons_of_mem _ h1, h2⟩

section
variable {Y : Sy} {E : Env} {ρ : Rho} {h : H} {w : World}

theorem conc_strP {b : List Nat} {c : Value} (e : conc Y ρ (.str b) = some c) : okBytes b = true ∧ c = .string (bytesV b) := by
  unfold conc at e
  split at e
  · rename_i hb; cases e; exact ⟨hb, rfl⟩
  · cases e

theorem idx_zero {n : Int} (_h : -1 ≤ n) : (if n = -1 then -1 else n + ((0 : Nat) : Int)) = n := by
  split <;> omega

/-- the variable's cell holds some number -/
theorem someAt_cell {g : Nat} (hr : Rel Y E ρ h w) (hg : Glob E ρ) (hng : Nat.blt g E.ng = true) (hs : someAt h g = true) : ∃ m, w.cell? ⟨g, 0, none⟩ = some (.int .i64 m) := by
  unfold someAt at hs
  split at hs
  · rename_i c n b hb
    split at hs
    · rename_i e l u hv
      obtain ⟨L, ob, hL, hblk, arr, elem, fz, rfl, _, _, hcells⟩ := hr.obj g _ hb rfl
      obtain ⟨cap, hgl⟩ := hg g (Nat.le_of_ble_eq_true hng)
      rw [hgl] at hL
      cases hL
      obtain ⟨_, _, cv, c1, c2⟩ := hcells 0 (.sint .i64 e l u) hv
      have hm : ∃ m, cv = .int .i64 m := by
        unfold conc at c1
        split at c1
        · cases c1; exact ⟨_, rfl⟩
        · cases c1
      obtain ⟨m, rfl⟩ := hm
      refine ⟨m, ?_⟩
      unfold World.cell?
      rw [hblk]
      simpa using c2
    · cases hs
  · cases hs

theorem prim_ok {f : FuncId} {p : Pm} {args : List AV} {v : AV} {cargs : List Value} (hp : PmOk E.P f p) (hpg : PmG E p = true) (hr : Rel Y E ρ h w) (hg : Glob E ρ) (ha : concs Y ρ args = some cargs) (hv : prim h p args = some v) :
    Calls E.P f cargs.toArray w fun e w' => ∃ cv, e = .returned cv ∧ conc Y ρ v = some cv ∧ w' = w := by
  unfold prim at hv
  split at hv
  · rename_i s t
    obtain ⟨c1, l1, e1, e2, rfl⟩ := concs_cons.1 ha
    obtain ⟨c2, l2, e3, e4, rfl⟩ := concs_cons.1 e2
    rw [concs_nil] at e4
    subst e4
    obtain ⟨o1, rfl⟩ := conc_strP e1
    obtain ⟨o2, rfl⟩ := conc_strP e3
    cases p with
    | idx1 =>
      dsimp only at hv
      split at hv
      · rename_i c
        split at hv
        · rename_i h1 h2
          cases hv
          have hc : c < 256 := (okB_cons o2).1
          refine (hp (bytesV s) (UInt8.ofNat c) w).mono fun e w' he => ⟨_, he.1, ?_, he.2⟩
          rw [bytesV_toList, idxByte_eq hc o1 0, idx_zero (Lib.indexByte_ge _ _)]
          rfl
        · cases hv
      · cases hv
    | cnt1 =>
      dsimp only at hv
      split at hv
      · rename_i c
        split at hv
        · rename_i h1 h2
          cases hv
          have hc : c < 256 := (okB_cons o2).1
          refine (hp (bytesV s) (UInt8.ofNat c) w).mono fun e w' he => ⟨_, he.1, ?_, he.2⟩
          rw [bytesV_toList, cntByte_eq hc o1 0]
          rfl
        · cases hv
      · cases hv
    | idx g =>
      dsimp only at hv
      split at hv
      · split at hv
        · rename_i h3 h4
          cases hv
          obtain ⟨m, hm⟩ := someAt_cell hr hg hpg h4
          have hsz : (bytesV s).size < 4294967281 := by
            have := Nat.le_of_ble_eq_true h3
            rw [bytesV_size]
            omega
          refine (hp (bytesV s) (bytesV t) m w hsz hm).mono fun e w' he => ⟨_, he.1, ?_, he.2⟩
          rw [bytesV_toList, bytesV_toList, idxPart_eq o2 o1 0, idx_zero (Lib.index_ge _ _)]
          rfl
        · cases hv
      · cases hv
    | idxB => cases hv
  · rename_i s c
    obtain ⟨c1, l1, e1, e2, rfl⟩ := concs_cons.1 ha
    obtain ⟨c2, l2, e3, e4, rfl⟩ := concs_cons.1 e2
    rw [concs_nil] at e4
    subst e4
    obtain ⟨o1, rfl⟩ := conc_strP e1
    have hc2 : c2 = .int .u8 (.ofNat c) := by
      unfold conc at e3
      cases e3
      rfl
    subst hc2
    cases p with
    | idxB =>
      dsimp only at hv
      split at hv
      · rename_i h1 h2
        cases hv
        have hc : c < 256 := Nat.le_of_ble_eq_true h2
        refine (hp (bytesV s) (.ofNat c) w).mono fun e w' he => ⟨_, he.1, ?_, he.2⟩
        rw [bytesV_toList, idxByte_eq hc o1 0]
        have e : (Int.ofNat c).toNat.toUInt8 = UInt8.ofNat c := rfl
        rw [e, idx_zero (Lib.indexByte_ge _ _)]
        rfl
      · cases hv
    | idx1 => cases hv
    | cnt1 => cases hv
    | idx g => cases hv
  · cases hv
end

section
variable {Y : Sy} {E : Env} {ρ : Rho} {h : H} {w : World}

end

section
variable {Y : Sy} {E : Env} {w : World}

/-- a call that is evaluated with no heap at hand -/
theorem laid_of_rec {R : Rec} (hR : RecOk Y E R) {gl : List (Nat × AObj)} {m : Nat} {f : FuncId} {args : List AV} {r : AV} (hm : E.ng ≤ m)
    (hk : R (.fn f) args (heapG gl m) (fun v _ => sameV v r) = true) {cargs : List Value} (hargs : concs Y (rhoG E.ng) args = some cargs) (hl : LaidW Y E gl w) :
    Calls E.P f cargs.toArray w fun e w' => ∃ cv, e = .returned cv ∧ conc Y (fun _ => none) r = some cv ∧ RowKit.Below w.heap.size w w' := by
  obtain ⟨_, h2⟩ := hR (.fn f) args (heapG gl m) _ (rhoG E.ng) w cargs (rel_laid hl hm) glob_laid hargs hk
  refine callsIn_wide.1 (CallsIn.mono (h2 0) fun e w' h => ?_)
  cases e with
  | panicked c => exact h.elim
  | outgrown => exact h.elim
  | returned v =>
    obtain ⟨ρ', h', av, hgo, hv, ht⟩ := h
    dsimp only at ht
    obtain ⟨rfl, hfree⟩ := sameV_eq (Y := Y) ht
    refine ⟨v, rfl, by rw [hfree _ ρ']; exact hv, hgo.frm.os, hgo.frm.tape, hgo.frm.output, hgo.frm.size, fun k hk' => hgo.frm.block k hk' fun b o L hb hw => ?_⟩
    exfalso
    have h1 := wr_prot hw
    have h2 : memN (heapG gl m).prot b = true := (memN_iff _ _).2 (List.mem_map.2 ⟨(b, o), heapG_get hb, rfl⟩)
    rw [h2] at h1
    cases h1

end
end
end Go.AE

namespace Go.AE
noncomputable section

/-- a call with these arguments, where these variables hold these cells, answers v -/
structure Qt where
  args : List AV
  gl : List (Nat × List AV × Bool)
  v : AV

def Qt.old (q : Qt) : List (Nat × AObj) := q.gl.map fun x => (x.1, .held (ofListV x.2.1) x.2.1.length x.2.2)

def closedGl (ng : Nat) : List (Nat × List AV × Bool) → Bool
  | [] => true
  | x :: r => (match Nat.blt x.1 ng, sameVs x.2.1 x.2.1 with | true, true => closedGl ng r | _, _ => false)

/-- what a Qt asks of the program's variables, once for all -/
def closedQs (ng : Nat) (qs : List (FuncId × List Qt)) : Bool := qs.all fun g => g.2.all fun q => closedGl ng q.gl

def findQ1 (args : List AV) (h : H) : List Qt → Option AV
  | [] => none
  | q :: r => (match sameVs args q.args with
    | true => (match subH h q.old with | true => some q.v | false => findQ1 args h r)
    | false => findQ1 args h r)

def findQ (f : FuncId) (args : List AV) (h : H) : List (FuncId × List Qt) → Option AV
  | [] => none
  | g :: r => (match Nat.beq g.1 f with | true => findQ1 args h g.2 | false => findQ f args h r)

def QtOk (Y : Sy) (E : Env) (f : FuncId) (q : Qt) : Prop :=
  hasBody E f = true ∧ ∀ (w : World) (cargs : List Value), concs Y (fun _ => none) q.args = some cargs → LaidW Y E q.old w →
    Calls E.P f cargs.toArray w fun e w' => ∃ cv, e = .returned cv ∧ conc Y (fun _ => none) q.v = some cv ∧ RowKit.Below w.heap.size w w'

def QtsOk (Y : Sy) (E : Env) (qs : List (FuncId × List Qt)) : Prop := ∀ g ∈ qs, ∀ q ∈ g.2, QtOk Y E g.1 q

section
variable {Y : Sy} {E : Env} {ρ : Rho} {h : H} {w : World}

theorem QtsOk.nil : QtsOk Y E [] := fun g hg => by cases hg
theorem QtsOk.cons {f : FuncId} {l : List Qt} {qs : List (FuncId × List Qt)} (hl : ∀ q ∈ l, QtOk Y E f q) (hs : QtsOk Y E qs) : QtsOk Y E ((f, l) :: qs) := fun g hg => by
  rcases List.mem_cons.1 hg with rfl | hg
  · exact hl
  · exact hs g hg

theorem findQ1_mem {args : List AV} {v : AV} : ∀ {l : List Qt}, findQ1 args h l = some v → ∃ q ∈ l, sameVs args q.args = true ∧ subH h q.old = true ∧ q.v = v
  | [], e => by cases e
  | q :: r, e => by
    simp only [findQ1] at e
    split at e
    · rename_i h1
      split at e
      · rename_i h2
        cases e
        exact ⟨q, List.mem_cons_self .., h1, h2, rfl⟩
      · obtain ⟨q', h2, h3⟩ := findQ1_mem e
        exact ⟨q', List.mem_cons_of_mem _ h2, h3⟩
    · obtain ⟨q', h2, h3⟩ := findQ1_mem e
      exact ⟨q', List.mem_cons_of_mem _ h2, h3⟩

theorem findQ_mem {f : FuncId} {args : List AV} {v : AV} : ∀ {qs : List (FuncId × List Qt)}, findQ f args h qs = some v → ∃ g ∈ qs, g.1 = f ∧ ∃ q ∈ g.2, sameVs args q.args = true ∧ subH h q.old = true ∧ q.v = v
  | [], e => by cases e
  | g :: r, e => by
    simp only [findQ] at e
    split at e
    · rename_i h1
      obtain ⟨q, h2⟩ := findQ1_mem e
      exact ⟨g, List.mem_cons_self .., Nat.eq_of_beq_eq_true h1, q, h2⟩
    · obtain ⟨g', h2, h3⟩ := findQ_mem e
      exact ⟨g', List.mem_cons_of_mem _ h2, h3⟩

theorem sameVs_get : ∀ {l : List AV}, sameVs l l = true → ∀ {i : Nat} {v : AV}, l[i]? = some v → ∀ ρ ρ' : Rho, conc Y ρ v = conc Y ρ' v
  | [], _, _, _, hv => by cases hv
  | a :: l, h, i, v, hv => by
    simp only [sameVs, Bool.and_eq_true] at h
    cases i with
    | zero =>
      cases hv
      exact (sameV_eq (Y := Y) h.1).2
    | succ i => exact sameVs_get h.2 (by simpa using hv)

theorem closedGl_mem {ng : Nat} : ∀ {gl : List (Nat × List AV × Bool)}, closedGl ng gl = true → ∀ x ∈ gl, x.1 < ng ∧ sameVs x.2.1 x.2.1 = true
  | [], _, _, hx => by cases hx
  | y :: r, h, x, hx => by
    simp only [closedGl] at h
    split at h
    · rename_i h1 h2
      rcases List.mem_cons.1 hx with rfl | hx
      · exact ⟨Nat.le_of_ble_eq_true h1, h2⟩
      · exact closedGl_mem h x hx
    · cases h

/-- the variables lie as they were -/
theorem laid_here {q : Qt} (hr : Rel Y E ρ h w) (hg : Glob E ρ) (hc : closedGl E.ng q.gl = true) (hs : subH h q.old = true) : LaidW Y E q.old w := by
  refine ⟨?_, fun b o hbo => ?_⟩
  · rcases Nat.eq_zero_or_pos E.ng with h0 | h0
    · omega
    · obtain ⟨c, hL⟩ := hg (E.ng - 1) (by omega)
      have := hr.bound _ _ hL
      simp only at this
      omega
  · have hget := subH_mem hs b o hbo
    obtain ⟨x, hx, e⟩ := List.mem_map.1 hbo
    obtain ⟨rfl, rfl⟩ := Prod.mk.inj e
    obtain ⟨hlt, hcl⟩ := closedGl_mem hc x hx
    obtain ⟨c, hL⟩ := hg x.1 hlt
    obtain ⟨L, ob, hL', hob, arr, elem, fz, rfl, h1, h2, h3⟩ := hr.obj _ _ hget rfl
    rw [hL] at hL'
    cases hL'
    refine ⟨hlt, _, hob, arr, elem, fz, rfl, h1, h2, fun i v hv => ?_⟩
    obtain ⟨k1, k2, cv, k3, k4⟩ := h3 i v hv
    refine ⟨k1, k2, cv, ?_, k4⟩
    rw [get_ofListV] at hv
    rw [sameVs_get hcl hv (rhoG E.ng) ρ]
    exact k3
end

/-- an evaluator that knows quiet calls too -/
def evSq (E : Env) (qs : List (FuncId × List Qt)) (ps : List (FuncId × Pm)) (gs : List (FuncId × List Known)) (ss : List Sum) (lf n : Nat) : Rec :=
  Nat.rec (motive := fun _ => Rec) (fun _ _ _ _ => false)
    (fun _ ih tgt => match tgt with
      | .fn f => fun args h k => (match findQ f args h qs with
        | some v => k v h
        | none => (match findP f args h ps with
          | some v => k v h
          | none => (match findG f args gs with
            | some v => k v h
            | none => (match findS f args h ss with
              | some x => k x.1 x.2
              | none => (cFun E lf f).run ih args h k))))
      | .yield l => fun args h k => yieldK E lf ih l args h k
      | .dfn f => fun args h k => (cFunD E lf f).run ih args h k) n

section
variable {Y : Sy} {E : Env} {ρ : Rho} {h : H} {w : World}

theorem evSq_ok (hE : EnvOk Y E) {qs : List (FuncId × List Qt)} (hcl : closedQs E.ng qs = true) (hqs : QtsOk Y E qs) {ps : List (FuncId × Pm)} (hps : PrimsOk E ps) {gs : List (FuncId × List Known)} (hkn : KnownOk Y E (flatG gs)) {ss : List Sum} (hss : SumsOk Y E ss) (lf : Nat) : ∀ n, RecOk Y E (evSq E qs ps gs ss lf n)
  | 0 => fun _ _ _ _ _ _ _ _ _ _ hk => by cases hk
  | n + 1 => fun tgt args h k ρ w cargs hr hg ha hk => by
    have ih := evSq_ok hE hcl hqs hps hkn hss lf n
    have hdraw : ∀ (L : Lv) nt, L.ng = E.ng → ∀ id ops, CodeOk Y E L nt (.region id ops true) (cDraw E L nt ops.toList) := fun _ _ hng id ops => draw_ok hE hng id ops
    cases tgt with
    | yield l => exact yield_ok hE hdraw ih hr hg ha hk
    | dfn f => exact funD_ok hE hdraw ih hr hg ha hk
    | fn f =>
      have hk' : (match findQ f args h qs with
        | some v => k v h
        | none => (match findP f args h ps with
          | some v => k v h
          | none => (match findG f args gs with
            | some v => k v h
            | none => (match findS f args h ss with
              | some x => k x.1 x.2
              | none => (cFun E lf f).run (evSq E qs ps gs ss lf n) args h k)))) = true := hk
      cases hqf : findQ f args h qs with
      | some v =>
        rw [hqf] at hk'
        dsimp only at hk'
        obtain ⟨g, hgm, rfl, q, hqm, hs, hsub, rfl⟩ := findQ_mem hqf
        obtain ⟨hbody, hq⟩ := hqs g hgm q hqm
        obtain ⟨he, hfree⟩ := sameVs_eq (Y := Y) hs
        have ha0 : concs Y (fun _ => none) q.args = some cargs := by rw [← he, hfree _ ρ]; exact ha
        have hcq : closedGl E.ng q.gl = true := List.all_eq_true.1 (List.all_eq_true.1 hcl g hgm) q hqm
        refine ⟨callFunc_body hE hbody cargs, fun m => callsIn_wide.2 (Calls.mono (hq w cargs ha0 (laid_here hr hg hcq hsub)) fun e w' hew => ?_)⟩
        obtain ⟨cv, rfl, hcv, hbel⟩ := hew
        exact ⟨ρ, h, q.v, Goes.of_below hr hbel, conc_mono (fun _ _ h => by cases h) hcv, hk'⟩
      | none =>
      rw [hqf] at hk'
      dsimp only at hk'
      cases hpf : findP f args h ps with
      | some v =>
        rw [hpf] at hk'
        dsimp only at hk'
        obtain ⟨p, hp, hv⟩ := findP_mem hpf
        obtain ⟨hbody, hpg, hpo⟩ := hps _ hp
        refine ⟨callFunc_body hE hbody cargs, fun m => callsIn_wide.2 (Calls.mono (prim_ok hpo hpg hr hg ha hv) fun e w' hew => ?_)⟩
        obtain ⟨cv, rfl, hcv, rfl⟩ := hew
        exact ⟨ρ, h, v, Goes.of_below hr (RowKit.Below.refl _ w'), hcv, hk'⟩
      | none =>
        rw [hpf] at hk'
        dsimp only at hk'
        cases hf : findG f args gs with
        | none =>
          rw [hf] at hk'
          dsimp only at hk'
          cases hs : findS f args h ss with
          | none => rw [hs] at hk'; exact fun_ok hE hdraw ih hr hg ha hk'
          | some x =>
            rw [hs] at hk'
            dsimp only at hk'
            obtain ⟨q, hq, rfl, hap⟩ := findS_mem hs
            obtain ⟨v, h'⟩ := x
            obtain ⟨h1, rfl, h3, h4, h5, h6, rfl, rfl⟩ := apply_eq hap
            obtain ⟨hbody, hsum⟩ := hss q hq
            refine ⟨callFunc_body hE hbody cargs, fun m => callsIn_wide.2 ?_⟩
            have hrb : Rel Y E ρ q.before w := hr.sub (fun b o hb => by
              unfold Sum.before at hb
              rw [H.get_bare] at hb
              rcases get_putAll (b := b) q.old with ⟨_, o', ho', h2⟩ | ⟨_, h2⟩
              · rw [h2] at hb
                cases hb
                exact subH_mem h3 b _ ho'
              · rw [h2] at hb
                cases hb) h1
            refine Calls.mono (hsum ρ w cargs hrb hg ha) fun e w' hew => ?_
            obtain ⟨cv, ρ', rfl, hgo, hcv⟩ := hew
            exact ⟨ρ', _, q.v, Goes.frame hr h1 h3 h4 h5 h6 hgo, hcv, hk'⟩
        | some v =>
          rw [hf] at hk'
          dsimp only at hk'
          obtain ⟨q, hq, rfl, hs, rfl⟩ := findG_mem hf
          obtain ⟨hbody, hgive⟩ := hkn q hq
          obtain ⟨he, hfree⟩ := sameVs_eq (Y := Y) hs
          have ha0 : concs Y (fun _ => none) q.args = some cargs := by rw [← he, hfree _ ρ]; exact ha
          refine ⟨callFunc_body hE hbody cargs, fun m => callsIn_wide.2 (Calls.mono (hgive w cargs ha0) fun e w' hew => ?_)⟩
          obtain ⟨cv, rfl, hcv, hbel⟩ := hew
          exact ⟨ρ, h, q.v, Goes.of_below hr hbel, conc_mono (fun _ _ h => by cases h) hcv, hk'⟩

/-- a quiet call, by a run -/
theorem qt_of_rec {R : Rec} (hR : RecOk Y E R) {f : FuncId} {q : Qt} (hb : hasBody E f = true)
    (hk : R (.fn f) q.args (heapG q.old E.ng) (fun v _ => sameV v q.v) = true) : QtOk Y E f q :=
  ⟨hb, fun _ _ hc hl => laid_of_rec hR (Nat.le_refl _) hk (concs_mono (fun _ _ h => by cases h) hc) hl⟩
end
end
end Go.AE
