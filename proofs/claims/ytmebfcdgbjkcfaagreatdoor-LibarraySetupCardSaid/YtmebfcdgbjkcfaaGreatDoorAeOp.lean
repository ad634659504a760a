/-
  Every operation is of its class.
-/
import Derived.Test.YtmebfcdgbjkcfaaGreatDoorAeSem
namespace Go.AE

section
variable {Y : Sy} {E : Env} {ρ : Rho} {h : H} {w : World}

theorem valK_eq {r : Option (AV × H)} {k : KV} (hk : valK r k = true) : ∃ v h', r = some (v, h') ∧ k v h' = true := by
  unfold valK at hk
  split at hk
  · exact ⟨_, _, rfl, hk⟩
  · cases hk

theorem builtin_ok (hE : EnvOk Y E) (o : Oper) {c : Call} {b : Builtin} (ho : o.op = .call c) (hb : c.callee = .builtin b) : KOk Y E o (cBuiltin E b c.argTypes.toList c.args.toList) := by
  have hex : ∀ (ev : Operand → Value) (w : World), (execOp ev o).run E.P w = (builtin b c.argTypes o.type (c.args.map fun | .const _ => true | _ => false) (c.args.map ev)).run E.P w := by
    intro ev w
    simp only [execOp, ho, resolve, hb, Sem.run_bind, Sem.run_pure, Result.andThen_ok, invoke]
    rfl
  cases b with
  | append =>
    intro rc k ρ ev w h l hrc hr hg hl hk
    obtain ⟨v, h', e, hk⟩ := valK_eq hk
    have ha := append_ok hE hr o.type e hl
    rw [hex]
    have e1 : c.args.map ev = (c.args.toList.map ev).toArray := by apply Array.ext'; simp
    rw [e1]
    have := Acts.big ha hk
    simpa [builtin] using this
  | copy =>
    intro rc k ρ ev w h l hrc hr hg hl hk
    obtain ⟨v, h', e, hk⟩ := valK_eq hk
    have ha := copy_ok hE hr o.type e hl
    rw [hex]
    have e1 : c.args.map ev = (c.args.toList.map ev).toArray := by apply Array.ext'; simp
    rw [e1]
    have := Acts.big ha hk
    simpa [builtin] using this
  | len =>
    simp only [cBuiltin]
    cases ht : c.argTypes.toList with
    | nil => trivial
    | cons t ts =>
      cases hx : c.args.toList with
      | nil => trivial
      | cons x xs =>
        refine ⟨fun a h h' hs => lenA_same hs, fun ρ ev w h a v hr ha hv => ?_⟩
        rw [hex]
        have e1 : c.argTypes[0]? = some t := by rw [← Array.getElem?_toList, ht]; rfl
        have e2 : (c.args.map ev)[0]? = some (ev x) := by rw [← Array.getElem?_toList, Array.toList_map, hx]; rfl
        exact (len_ok hE hr hv ha c.argTypes (c.args.map ev) e1 e2 o.type).next
  | cap =>
    simp only [cBuiltin]
    cases ht : c.argTypes.toList with
    | nil => trivial
    | cons t ts =>
      cases hx : c.args.toList with
      | nil => trivial
      | cons x xs =>
        intro ρ ev w a v ha hv
        rw [hex]
        have e1 : c.argTypes[0]? = some t := by rw [← Array.getElem?_toList, ht]; rfl
        have e2 : (c.args.map ev)[0]? = some (ev x) := by rw [← Array.getElem?_toList, Array.toList_map, hx]; rfl
        exact (cap_ok hE hv ha e1 e2).next
  | delete =>
    simp only [cBuiltin]
    cases ht : c.argTypes.toList with
    | nil => trivial
    | cons t ts =>
      intro rc k ρ ev w h l hrc hr hg hl hk
      have e1 : c.argTypes[0]? = some t := by rw [← Array.getElem?_toList, ht]; rfl
      dsimp only at hk
      split at hk
      · rename_i m key
        obtain ⟨h', hd, hk⟩ := optK_eq.1 hk
        obtain ⟨cm, cr, g1, g2, e2⟩ := concs_cons.1 hl
        obtain ⟨ck, cr', g3, g4, rfl⟩ := concs_cons.1 g2
        rw [concs_nil] at g4
        subst g4
        have e3 : c.args.map ev = #[cm, ck] := by apply Array.ext'; rw [Array.toList_map]; exact e2
        obtain ⟨w', k1, k2⟩ := delete_ok (ty := o.type) hE hr e1 hd g1 g3
        rw [hex, e3]
        simp only [builtin]
        rw [run_v k1]
        exact ⟨ρ, h', undefA, k2, rfl, hk⟩
      · cases hk
  | clear =>
    simp only [cBuiltin]
    cases ht : c.argTypes.toList with
    | nil => trivial
    | cons t ts =>
      intro rc k ρ ev w h l hrc hr hg hl hk
      have e1 : c.argTypes[0]? = some t := by rw [← Array.getElem?_toList, ht]; rfl
      dsimp only at hk
      split at hk
      · rename_i x
        obtain ⟨h', hd, hk⟩ := optK_eq.1 hk
        obtain ⟨cx, cr, g1, g2, e2⟩ := concs_cons.1 hl
        rw [concs_nil] at g2
        subst g2
        have e3 : c.args.map ev = #[cx] := by apply Array.ext'; rw [Array.toList_map]; exact e2
        obtain ⟨w', k1, k2⟩ := clear_ok (ty := o.type) hE hr e1 hd g1
        rw [hex, e3]
        simp only [builtin]
        rw [run_v k1]
        exact ⟨ρ, h', undefA, k2, rfl, hk⟩
      · cases hk
  | max =>
    intro ρ ev w l v hl hv
    rw [hex]
    have e1 : c.args.map ev = (c.args.toList.map ev).toArray := by apply Array.ext'; simp
    rw [e1]
    exact (maxO_ok hE hv hl).next
  | min =>
    intro ρ ev w l v hl hv
    rw [hex]
    have e1 : c.args.map ev = (c.args.toList.map ev).toArray := by apply Array.ext'; simp
    rw [e1]
    exact (minO_ok hE hv hl).next
  | _ => trivial

theorem call_ok (hE : EnvOk Y E) (o : Oper) {c : Call} (ho : o.op = .call c) : KOk Y E o (cCall E c) := by
  unfold cCall
  split
  · rename_i b hb
    exact builtin_ok hE o ho hb
  · rename_i f hb
    intro rc k ρ ev w h l hrc hr hg hl hk
    cases l with
    | nil => cases hk
    | cons fv args =>
      obtain ⟨h1, h2⟩ := concs_pop hl
      have := callV_ok hE hrc hr hg h1 h2 hk
      have e1 : c.args.map ev = (c.args.toList.map ev).toArray := by apply Array.ext'; simp
      simp only [execOp, ho, resolve, hb, e1]
      exact this
  · rename_i r name hb
    intro rc k ρ ev w h l hrc hr hg hl hk
    have := methodV_ok hE hrc hr hg hl hk #[]
    have e1 : c.args.map ev = (c.args.toList.map ev).toArray := by apply Array.ext'; simp
    have e2 : #[ev r] ++ (c.args.toList.map ev).toArray = (ev r :: c.args.toList.map ev).toArray := by simp
    simp only [execOp, ho, resolve, hb, e1, e2, Sem.run_bind, Sem.run_pure, Result.andThen_ok]
    exact this

theorem nilCheckE_ok (hE : EnvOk Y E) {x v : AV} {cx : Value} (h : nilCheckE E x = some v) (hx : conc Y ρ x = some cx) (o : Oper) (ρe : Operand → Value) (y : Operand) (ho : o.op = .nilCheck y) (hy : ρe y = cx) :
    ∃ cv, (execOp ρe o).run E.P w = .ok (.value cv) w ∧ conc Y ρ v = some cv := by
  unfold nilCheckE at h
  cases hn : nilCheckA x with
  | some r =>
    rw [hn] at h
    cases h
    exact nilCheck_ok hn hx o ρe y ho hy
  | none =>
    rw [hn] at h
    dsimp only at h
    split at h
    · rename_i name t u rest cap
      split at h
      · rename_i p hp
        cases h
        obtain ⟨f, v'⟩ := p
        have hx' := hx
        simp only [conc] at hx
        split at hx
        · rename_i fn' a' c' h1 h2 h3
          cases h1
          have e := Option.some.inj hx
          obtain ⟨c0, cr, k1, k2, rfl⟩ := concs_cons.1 h2
          obtain ⟨cu, k3, rfl⟩ := conc_iface k1
          obtain ⟨cv', _, g2, _⟩ := recv_ok (w := w) hE k3 hp
          refine ⟨cx, ?_, hx'⟩
          have e0 : (Value.iface t cu :: cr).toArray[0]? = some (.iface t cu) := by simp
          simp only [execOp, ho, hy, ← e, e0, Sem.run_bind, run_program, Result.andThen_ok, g2]
          simp
        · cases hx
      · cases h
    · cases h

theorem defer_ok (o : Oper) {c : Call} (ho : o.op = .defer c) : KOk Y E o (match c.callee with | .value f => .df (f :: c.args.toList) deferV | _ => .bad) := by
  cases hc : c.callee with
  | value f =>
    refine ⟨⟨c, ho⟩, fun ρ ev w l v hl hv => ?_⟩
    unfold deferV at hv
    split at hv
    · rename_i fn first cap args
      cases hv
      obtain ⟨h1, h2⟩ := concs_pop hl
      simp only [conc] at h1
      split at h1
      · rename_i fn' cfirst ccap e1 e2 e3
        have e := Option.some.inj h1
        have ea : c.args.map ev = (c.args.toList.map ev).toArray := by apply Array.ext'; simp
        refine ⟨fn, fn', first ++ args, cap, cfirst ++ c.args.toList.map ev, ccap, rfl, e1, concs_append.2 ⟨_, _, e2, h2, rfl⟩, e3, ?_⟩
        simp only [execOp, ho, resolve, hc, ← e, Deferred.ofValue, ea, Sem.run_bind, Sem.run_pure, Result.andThen_ok]
        simp
      · cases h1
    · cases hv
  | builtin b => trivial
  | invoke r name => trivial

theorem cOp_ok (hE : EnvOk Y E) (o : Oper) : KOk Y E o (cOp E o.op) := by
  unfold cOp
  cases ho : o.op with
  | move x => intro ρ ev w a v ha hv; cases hv; exact ⟨ev x, by simp [execOp, ho], ha⟩
  | assign x => intro ρ ev w a v ha hv; cases hv; exact ⟨ev x, by simp [execOp, ho], ha⟩
  | pick c a b =>
    intro ρ ev w l v hl hv
    unfold pick3 at hv
    split at hv
    · obtain ⟨h1, h'⟩ := concs_pop hl
      obtain ⟨h2, h3⟩ := concs_pair h'
      obtain ⟨cv, k1, k2⟩ := pick_ok (E := E) (w := w) hv h1 h2 h3
      refine ⟨cv, ?_, k2⟩
      have := run_v (f := Next.value) k1
      simpa [execOp, ho] using this
    · cases hv
  | alloc elem =>
    intro ρ ev w l p hl hp
    rw [bnd_eq] at hp
    obtain ⟨z, hz, hp⟩ := hp
    cases hp
    exact ⟨_, by simp only [execOp, ho], alloc_ok hE hz⟩
  | box elem x =>
    intro ρ ev w a ob ha hob
    rw [bnd_eq] at hob
    obtain ⟨vs, hvs, hob⟩ := hob
    cases hob
    exact ⟨Instr.box elem (ev x), by simp only [execOp, ho], box_ok ha hvs⟩
  | build t ps =>
    intro ρ ev w l v hl hv
    have hpr := parts_rel ps.toList l hl
    have := (build_ok (w := w) hE hpr hv).next
    have e1 : (ps.toList.map fun p => (p.1, ev p.2)).toArray = ps.map fun p => (p.1, ev p.2) := by apply Array.ext'; simp
    rw [e1] at this
    simpa only [execOp, ho] using this
  | buildSlice t n ps =>
    intro ρ ev w l p hl hp
    rw [bnd_eq] at hp
    obtain ⟨ob, hob, hp⟩ := hp
    cases hp
    have hpr := parts_rel ps.toList l hl
    have := buildSlice_ok (w := w) hE hpr hob
    have e1 : (ps.toList.map fun p => (p.1, ev p.2)).toArray = ps.map fun p => (p.1, ev p.2) := by apply Array.ext'; simp
    rw [e1] at this
    exact ⟨_, by simp only [execOp, ho], this⟩
  | load t a => exact ⟨fun a h h' hs => loadP_same hs, fun ρ ev w h a v hr ha hv => by simp only [execOp, ho]; exact (load_ok hE hr hv ha).next⟩
  | store t a x =>
    intro ρ ev w h h' a b hr ha hb hs
    obtain ⟨w', k1, k2⟩ := store_ok hE hr hs ha hb
    exact ⟨w', by simp only [execOp, ho]; exact run_u k1, k2⟩
  | nilCheck x => intro ρ ev w a v ha hv; exact nilCheckE_ok hE hv ha o ev x ho rfl
  | binOp op t x y p => intro ρ ev w a b v ha hb hv; simp only [execOp, ho]; exact (bin_ok hE hv ha hb).next
  | unOp op t x => intro ρ ev w a v ha hv; simp only [execOp, ho]; exact (unOp_ok hv ha).next
  | convert s d x => intro ρ ev w a v ha hv; simp only [execOp, ho]; exact (convert_ok hE hv ha).next
  | makeInterface t x => intro ρ ev w a v ha hv; simp only [execOp, ho]; exact (makeIface_ok hE hv ha).next
  | makeFunc fn a c =>
    dsimp only
    split
    · trivial
    · rename_i hny
      intro ρ ev w l v hl hv
      cases hv
      obtain ⟨la, lc, h1, h2⟩ : ∃ la lc, la = (l.take a.size) ∧ lc = l.drop a.size := ⟨_, _, rfl, rfl⟩
      have h3 := concs_take hl a.size
      have h4 := concs_drop hl a.size
      rw [List.map_append] at h3 h4
      rw [List.take_left' (by simp)] at h3
      rw [List.drop_left' (by simp)] at h4
      have hfn : concFn ρ fn = some fn := by cases fn <;> first | rfl | exact absurd rfl (hny _)
      refine ⟨.func fn (a.map ev) (c.map ev), by simp [execOp, ho, Instr.makeFunc], ?_⟩
      have e1 : a.map ev = (a.toList.map ev).toArray := by apply Array.ext'; simp
      have e2 : c.map ev = (c.toList.map ev).toArray := by apply Array.ext'; simp
      rw [e1, e2]
      simp only [conc, hfn, h3, h4]
  | makeMap t r =>
    dsimp only
    cases r with
    | none => intro ρ ev w l p hl hp; cases hp; exact ⟨_, by simp only [execOp, ho]; rfl, makeMap_ok⟩
    | some n =>
      intro ρ ev w l p hl hp
      cases l with
      | nil => cases hp
      | cons a l =>
        obtain ⟨h1, h2⟩ := concs_pop hl
        cases l with
        | cons _ _ => obtain ⟨_, _, _, _, e⟩ := concs_cons.1 h2; cases e
        | nil => exact ⟨_, by simp only [execOp, ho]; rfl, makeMapV_ok hE hp h1⟩
  | makeSlice t x y =>
    intro ρ ev w l p hl hp
    dsimp only at hp
    split at hp
    · rename_i a b
      rw [bnd_eq] at hp
      obtain ⟨r, hr, hp⟩ := hp
      cases hp
      obtain ⟨h1, h2⟩ := concs_pair hl
      obtain ⟨ob, n, m⟩ := r
      exact ⟨_, by simp only [execOp, ho], makeSlice_ok hE h1 h2 hr⟩
    · cases hp
  | slice t x lo hi mx =>
    have pop : ∀ (ρ : Rho) (ev : Operand → Value) (xv : AV) (l : List AV), concs Y ρ (xv :: l) = some ((x :: (optL lo ++ (optL hi ++ optL mx))).map ev) →
        concs Y ρ (xv :: l) = some (ev x :: ((optL lo).map ev ++ ((optL hi).map ev ++ ((optL mx).map ev ++ [])))) := fun ρ ev xv l hl => by simpa using hl
    refine ⟨fun l h h' hs => ?_, fun ρ l cs hl b hb => ?_, fun ρ ev w h l v hr hl hv => ?_⟩
    · unfold sliceR
      cases hv : sliceV E t lo hi mx l with
      | some v => rfl
      | none =>
        dsimp only
        cases l with
        | nil => rfl
        | cons xv l =>
          unfold roomV
          dsimp only
          refine roomA_same fun b o n p e => hs b ?_
          subst e
          unfold sliceB
          rw [hv]
          simp
    · unfold sliceB at hb
      split at hb
      · cases hb
      · split at hb
        · rename_i b' o len pre l'
          simp at hb
          subst hb
          obtain ⟨c1, c2, k1, _, _⟩ := concs_cons.1 hl
          obtain ⟨L, hL, _⟩ := conc_gslice k1
          exact ⟨L, hL⟩
        · cases hb
    · unfold sliceR at hv
      split at hv
      · rename_i v' hv'
        cases hv
        unfold sliceV at hv'
        split at hv'
        · rename_i xv l
          obtain ⟨h0, h1⟩ := concs_pop (pop ρ ev xv l hl)
          obtain ⟨g1, h2⟩ := takeO_ok h1
          obtain ⟨g2, h3⟩ := takeO_ok h2
          obtain ⟨g3, h4⟩ := takeO_ok h3
          simp only [execOp, ho]
          exact (slice_ok hE hv' h0 g1 g2 g3).next
        · cases hv'
      · cases l with
        | nil => cases hv
        | cons xv l =>
          unfold roomV at hv
          dsimp only at hv
          obtain ⟨h0, h1⟩ := concs_pop (pop ρ ev xv l hl)
          obtain ⟨g1, h2⟩ := takeO_ok h1
          obtain ⟨g2, h3⟩ := takeO_ok h2
          obtain ⟨g3, h4⟩ := takeO_ok h3
          simp only [execOp, ho]
          exact (room_ok hE hr hv h0 g1 g2 g3).next
  | fieldAddr s x f => intro ρ ev w a v ha hv; simp only [execOp, ho]; exact (fieldAddr_ok hE hv ha).next
  | field t x f => intro ρ ev w a v ha hv; simp only [execOp, ho]; exact (field_ok hE hv ha).next
  | indexAddr t x i => intro ρ ev w a b v ha hb hv; simp only [execOp, ho]; exact (indexAddr_ok hE hv ha hb).next
  | index t x i => intro ρ ev w a b v ha hb hv; simp only [execOp, ho]; exact (index_ok hE hv ha hb).next
  | lookup t m k ok => exact ⟨fun a b h h' hs => lookupA_same hs, fun ρ ev w h a b v hr ha hb hv => by simp only [execOp, ho]; exact (lookup_ok hE hr hv ha hb).next⟩
  | mapUpdate t m k v =>
    intro rc kk ρ ev w h l hrc hr hg hl hk
    unfold mapUpdateV at hk
    split at hk
    · rename_i am ak av
      rw [optK_eq] at hk
      obtain ⟨h', hu, hk⟩ := hk
      obtain ⟨h1, hl'⟩ := concs_pop hl
      obtain ⟨h2, h3⟩ := concs_pair hl'
      obtain ⟨w', k1, k2⟩ := mapUpdate_ok hE hr hu h1 h2 h3
      simp only [execOp, ho]
      rw [run_u k1]
      exact ⟨ρ, h', undefA, k2, rfl, hk⟩
    · cases hk
  | insert t m k v =>
    intro rc kk ρ ev w h l hrc hr hg hl hk
    unfold mapUpdateV at hk
    split at hk
    · rename_i am ak av
      rw [optK_eq] at hk
      obtain ⟨h', hu, hk⟩ := hk
      obtain ⟨h1, hl'⟩ := concs_pop hl
      obtain ⟨h2, h3⟩ := concs_pair hl'
      obtain ⟨w', k1, k2⟩ := mapUpdate_ok hE hr hu h1 h2 h3
      simp only [execOp, ho]
      rw [run_u k1]
      exact ⟨ρ, h', undefA, k2, rfl, hk⟩
    · cases hk
  | range t x =>
    intro rc k ρ ev w h l hrc hr hg hl hk
    dsimp only at hk
    split at hk
    · rename_i a
      obtain ⟨h1, _⟩ := concs_pop hl
      obtain ⟨v, h', e, hk⟩ := valK_eq hk
      simp only [execOp, ho]
      exact Acts.big (range_ok hE hr e h1) hk
    · cases hk
  | next it isS =>
    intro rc k ρ ev w h l hrc hr hg hl hk
    dsimp only at hk
    split at hk
    · rename_i a
      obtain ⟨h1, _⟩ := concs_pop hl
      unfold nextV at hk
      split at hk
      · rename_i v h' e
        simp only [execOp, ho]
        exact Acts.big (next_ok hr e h1) hk
      · split at hk
        · rename_i o' ho'
          cases isS with
          | true => cases ho'
          | false =>
            obtain ⟨x, hx, hact⟩ := nextMany_ok (w := w) hr o.type ho' h1
            simp only [execOp, ho]
            exact Acts.big hact (allK_mem hk hx)
        · cases hk
    · cases hk
  | entry it =>
    intro rc k ρ ev w h l hrc hr hg hl hk
    dsimp only at hk
    split at hk
    · rename_i a
      obtain ⟨h1, _⟩ := concs_pop hl
      obtain ⟨v, e, hk⟩ := optK_eq.1 hk
      simp only [execOp, ho]
      obtain ⟨cv, k1, k2⟩ := (entry_ok (w := w) hr e h1).next
      rw [k1]
      exact ⟨ρ, h, v, Goes.refl hr, k2, hk⟩
    · cases hk
  | typeAssert x t a ok => intro ρ ev w b v ha hv; simp only [execOp, ho]; exact (typeAssert_ok hE hv ha).next
  | extract x i => intro ρ ev w a v ha hv; simp only [execOp, ho]; exact (extract_ok hv ha).next
  | call c => exact call_ok hE o ho
  | defer c => exact defer_ok o ho
  | _ => trivial

end
end Go.AE
