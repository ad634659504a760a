/-
  Regions that draw: the steps of the invariant.
-/
import Derived.Test.YtmebfcdgbjkcfaaGreatDoorAeDr3
namespace Go.AE

section
variable {Y : Sy} {E : Env}

theorem bigAt_false {ops : List Oper} {i : Nat} (h : bigAt E ops i = false) : ∃ o, ops[i]? = some o ∧ isBig (cOp E o.op) = false := by
  unfold bigAt at h
  split at h
  · rename_i o ho; exact ⟨o, ho, h⟩
  · cases h

theorem cDraws_cons {bs : T Nat} {L : Lv} {ops : List Oper} {i : Nat} {l : List Nat} {ds : List (Option Tmp)} {rc : Rec} {tm : T AV} {env : List AV} {h : H} {made seen : List Done} {k : List AV → H → Bool} {o : Oper} (ho : ops[i]? = some o) :
    (cDraws E bs L ops (i :: l) ds).run rc tm env h made seen k = (cDraw1 E bs L ops ds i o).run rc tm env h made seen fun v h' made' seen' => (cDraws E bs L ops l (o.dst :: ds)).run rc tm (v :: env) h' made' seen' k := by
  unfold cDraws
  dsimp only
  rw [ho]

theorem H.get_congr {h h' : H} {b : Nat} (hm : h'.mask = h.mask) (ht : getO h'.t b = getO h.t b) : h'.get b = h.get b := by
  rw [H.get_eq, H.get_eq, hm, ht]

theorem H.get_raw {h : H} {b : Nat} {o : AObj} (hg : h.get b = some o) : getO h.t b = some o := by
  rw [H.get_eq] at hg
  split at hg
  · cases hg
  · exact hg

theorem H.get_seen {h : H} {b : Nat} {o : AObj} (hg : h.get b = some o) : memN h.mask b = false := by
  rw [H.get_eq] at hg
  split at hg
  · cases hg
  · rename_i hm; simpa using hm

theorem Fact.move (hE : EnvOk Y E) {L : Lv} {tm : T AV} {ops : List Oper} {pre : List Rc} {r : Rc} {G G' : H} {seen seen' : List Done} (hf : Fact E L tm ops pre r G seen) (hn : G.next ≤ G'.next) (hs : ∀ d ∈ seen, d ∈ seen')
    (h1 : ∀ b, (⟨r.i, b⟩ : Done) ∈ seen → b < G.next → G'.get b = G.get b) (h2 : ∀ b, r.blk = some b → b < G.next → getO G'.t b = getO G.t b) : Fact E L tm ops pre r G' seen' := by
  rcases hf with hf | ⟨hg, S, hS, hf⟩
  · exact .inl hf
  · refine .inr ⟨hg, S, hS, ?_⟩
    cases S with
    | val v => exact hf
    | read bl f =>
      obtain ⟨g1, g2, g3⟩ := hf
      refine ⟨?_, g2, fun b hb => ⟨Nat.lt_of_lt_of_le (g3 b hb).1 hn, hs _ (g3 b hb).2⟩⟩
      rw [Small.local_ hE hS G G' fun b hb => h1 b (g3 b hb).2 (g3 b hb).1]
      exact g1
    | new o mk =>
      obtain ⟨b, g1, g2, g3, g4⟩ := hf
      exact ⟨b, g1, g2, by rw [h2 b g2 g4]; exact g3, Nat.lt_of_lt_of_le g4 hn⟩

section
variable {L : Lv} {nt : Nat} {rc : Rec} {tm : T AV} {arr : Array Oper} {ord : List Nat} {k : List AV → H → Bool} {ρ₀ : Rho} {h₀ : H} {w₀ : World} {a₀ : Act} {listed : Array Bool} {a : Act} {w : World} {ev : List Rc} {todo : List Nat} {ρ : Rho} {G : H} {seen : List Done}

/-- an operation is evaluated, but not run -/
theorem PInv.push (hE : EnvOk Y E) {i : Nat} (hP : PInv Y E L nt rc tm arr ord k ρ₀ h₀ w₀ a₀ listed a w ev (i :: todo) ρ G seen) {o : Oper} {v : AV} {blk : Option Nat} {G' : H} {seen' : List Done} (ho : arr[i]? = some o) (hsm : bigAt E arr.toList i = false)
    (hrun : (cDraws E (befs arr.toList) L arr.toList todo (dsR (⟨i, o, v, blk⟩ :: ev))).run rc tm (envR (⟨i, o, v, blk⟩ :: ev)) G' (madeOf (⟨i, o, v, blk⟩ :: ev)) seen' k = true)
    (hn : G.next ≤ G'.next) (hm : G'.mask = G.mask) (hp : G'.prot = G.prot) (hblk : ∀ b, blk = some b → b = G.next ∧ b < G'.next) (hget : ∀ b, blk ≠ some b → getO G'.t b = getO G.t b) (hseen : ∀ d ∈ seen, d ∈ seen')
    (hfact : Fact E L tm arr.toList ev ⟨i, o, v, blk⟩ G' seen') :
    PInv Y E L nt rc tm arr ord k ρ₀ h₀ w₀ a₀ listed a w (⟨i, o, v, blk⟩ :: ev) todo ρ G' seen' := by
  have hil : isL listed i = false := hP.unl i (by simp)
  have hold : ∀ b, b < G.next → getO G'.t b = getO G.t b := fun b hb => hget b fun e => by have := (hblk b e).1; omega
  have h0n := hP.keeps.next
  refine ⟨?_, ?_, hrun, fun j hj => hP.unl j (by simp [hj]), ?_, hP.closed, hP.le, ?_, hP.frm, ⟨hm.trans hP.keeps.mask, hp.trans hP.keeps.prot, Nat.le_trans h0n hn, ?_, ?_⟩, hP.made, hP.same, ?_, ?_, ?_, ?_, ?_, hP.size, hP.defers⟩
  · rw [hP.split]; simp
  · intro r hr
    rcases List.mem_cons.1 hr with rfl | hr
    · exact ho
    · exact hP.opers r hr
  · intro r hr hb
    rcases List.mem_cons.1 hr with rfl | hr
    · rw [hsm] at hb; cases hb
    · exact hP.bigs r hr hb
  · refine hP.rel.sub (fun b o' hb => ?_) hn
    rw [H.get_hide] at hb ⊢
    split at hb
    · cases hb
    · rename_i hU
      have h1 : blk ≠ some b := fun e => hU (mem_unex.2 ⟨_, List.mem_cons_self, hil, e⟩)
      have h2 : b ∉ unex listed ev := fun hm => by
        obtain ⟨r, hr, h3, h4⟩ := mem_unex.1 hm
        exact hU (mem_unex.2 ⟨r, by simp [hr], h3, h4⟩)
      rw [if_neg h2, ← H.get_congr hm (hget b h1)]
      exact hb
  · intro b hb hmp
    rw [hold b (by omega)]
    exact hP.keeps.raw b hb hmp
  · intro b o' hb hg ha
    rw [H.get_congr hm (hold b (by omega))] at hg
    exact hP.keeps.old b o' hb hg ha
  · intro r hr hl b hb
    rcases List.mem_cons.1 hr with rfl | hr
    · have := (hblk b hb).1
      exact hP.rel.fresh b (by show G.next ≤ b; omega)
    · exact hP.nob r hr hl b hb
  · intro r hr b hb
    rcases List.mem_cons.1 hr with rfl | hr
    · have := hblk b hb; omega
    · have := hP.blkLt r hr b hb; omega
  · intro r hr r' hr' b hb hb'
    rcases List.mem_cons.1 hr with rfl | hr
    · rcases List.mem_cons.1 hr' with rfl | hr'
      · rfl
      · have h1 := (hblk b hb).1
        have h2 := (hP.blkLt r' hr' b hb').2
        omega
    · rcases List.mem_cons.1 hr' with rfl | hr'
      · have h1 := (hblk b hb').1
        have h2 := (hP.blkLt r hr b hb).2
        omega
      · exact hP.uniq r hr r' hr' b hb hb'
  · have e : (⟨i, o, v, blk⟩ :: ev : List Rc).filter (fun r => isL listed r.i) = ev.filter fun r => isL listed r.i := by
      rw [List.filter_cons_of_neg]
      simp [hil]
    rw [e]
    exact hP.regs
  · intro post r pre he hl
    cases post with
    | nil =>
      simp only [List.nil_append, List.cons.injEq] at he
      obtain ⟨rfl, rfl⟩ := he
      exact hfact
    | cons r' post =>
      simp only [List.cons_append, List.cons.injEq] at he
      obtain ⟨_, he⟩ := he
      refine (hP.facts post r pre he hl).move hE hn hseen (fun b _ hb => H.get_congr hm (hold b hb)) fun b _ hb => hold b hb

theorem PInv.small (hE : EnvOk Y E) {i : Nat} (hP : PInv Y E L nt rc tm arr ord k ρ₀ h₀ w₀ a₀ listed a w ev (i :: todo) ρ G seen) (hsm : bigAt E arr.toList i = false) :
    ∃ r G' seen', PInv Y E L nt rc tm arr ord k ρ₀ h₀ w₀ a₀ listed a w (r :: ev) todo ρ G' seen' := by
  obtain ⟨o, ho, hb⟩ := bigAt_false hsm
  have ho' : arr[i]? = some o := by rw [← Array.getElem?_toList]; exact ho
  have hrun := hP.run
  rw [cDraws_cons ho] at hrun
  rcases cDraw1_eq hrun with ⟨hg, hk⟩ | ⟨hg, hk⟩
  · obtain ⟨S, hS, hres⟩ := drawK_small hb hk
    cases S with
    | val v =>
      exact ⟨⟨i, o, v, none⟩, G, seen, hP.push hE ho' hsm hres (Nat.le_refl _) rfl rfl (fun b hb => by cases hb) (fun _ _ => rfl) (fun _ h => h) (.inr ⟨hg, _, hS, rfl, rfl⟩)⟩
    | read bl f =>
      obtain ⟨v, h1, h2, h3⟩ := hres
      exact ⟨⟨i, o, v, none⟩, G, doneAt i bl seen, hP.push hE ho' hsm h3 (Nat.le_refl _) rfl rfl (fun b hb => by cases hb) (fun _ _ => rfl) (fun d hd => mem_doneAt.2 (.inr hd))
        (.inr ⟨hg, _, hS, h1, rfl, fun b hb => ⟨h2 b hb, mem_doneAt.2 (.inl ⟨rfl, hb⟩)⟩⟩)⟩
    | new ob mk =>
      refine ⟨⟨i, o, mk G.next, some G.next⟩, (G.new ob).2, seen, hP.push hE ho' hsm hres ?_ ?_ ?_ ?_ ?_ (fun _ h => h) (.inr ⟨hg, _, hS, G.next, rfl, rfl, ?_, ?_⟩)⟩
      · rw [H.new_eq]; exact Nat.le_succ _
      · rw [H.new_eq]
      · rw [H.new_eq]
      · intro b hb; cases hb; rw [H.new_eq]; exact ⟨rfl, Nat.lt_succ_self _⟩
      · intro b hb
        rw [H.new_eq]
        show getO (putO G.t G.next ob) b = _
        rw [get_putO, if_neg]
        intro e; subst e; exact hb rfl
      · rw [H.new_eq]
        show getO (putO G.t G.next ob) G.next = _
        rw [get_putO, if_pos rfl]
      · rw [H.new_eq]; exact Nat.lt_succ_self _
  · exact ⟨⟨i, o, undefA, none⟩, G, seen, hP.push hE ho' hsm hk (Nat.le_refl _) rfl rfl (fun b hb => by cases hb) (fun _ _ => rfl) (fun _ h => h) (.inl ⟨hg, rfl, rfl⟩)⟩

theorem PInv.smalls (hE : EnvOk Y E) : ∀ (todo : List Nat) (ev : List Rc) (G : H) (seen : List Done), PInv Y E L nt rc tm arr ord k ρ₀ h₀ w₀ a₀ listed a w ev todo ρ G seen →
    ∃ ev' todo' G' seen', PInv Y E L nt rc tm arr ord k ρ₀ h₀ w₀ a₀ listed a w ev' todo' ρ G' seen' ∧ (todo' = [] ∨ ∃ i r, todo' = i :: r ∧ bigAt E arr.toList i = true)
  | [], ev, G, seen, hP => ⟨ev, [], G, seen, hP, .inl rfl⟩
  | i :: todo, ev, G, seen, hP => by
    cases hb : bigAt E arr.toList i with
    | true => exact ⟨ev, i :: todo, G, seen, hP, .inr ⟨i, todo, rfl, hb⟩⟩
    | false =>
      obtain ⟨r, G', seen', hP'⟩ := hP.small hE hb
      exact PInv.smalls hE todo (r :: ev) G' seen' hP'

end
end
end Go.AE
