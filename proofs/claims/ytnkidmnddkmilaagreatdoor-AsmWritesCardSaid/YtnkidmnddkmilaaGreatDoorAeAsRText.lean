/-
  The reference's Text.
-/
import Derived.Test.YtnkidmnddkmilaaGreatDoorAeAsROne
namespace Go.Proofs.YtnkidmnddkmilaaGreatDoor
open Go.RowKit
set_option maxRecDepth 100000

theorem rright_all (xs : List CodeV) (B : Nat) (v : Value) (w0 : World) (hB : B ≤ w0.heap.size) (hv : Img w0 B v xs) (k : Nat) (hk : k < xs.length) :
    ∀ W, Hid (Below w0.heap.size w0 W) → Calls Tryz.prog 21 #[.agg #[.string xs[k].c.name, .int .i64 xs[k].c.kind, .int .i64 xs[k].c.len, .int .i64 xs[k].c.regs, xs[k].vi, xs[k].vp, xs[k].vk, xs[k].vg]] W fun e w' => e = .returned (.bool (rightB xs[k].c)) ∧ Hid (Below W.heap.size W w') := fun W h =>
  (rright_ret xs[k].c B _ _ _ _ (hv.few _ (List.getElem_mem hk)) (hv.nums _ (List.getElem_mem hk)) W (Nat.le_trans hB h.out.size) ((hv.codes _ (List.getElem_mem hk)).below (h.out.mono hB))).mono fun e w' he => ⟨he.1, Lib.hid he.2⟩

theorem rone_all (xs : List CodeV) (B : Nat) (v : Value) (w0 : World) (hG : G w0) (hB : B ≤ w0.heap.size) (hv : Img w0 B v xs) (k : Nat) (hk : k < xs.length) (hr : rightB xs[k].c = true) :
    ∀ W, Hid (Below w0.heap.size w0 W) → Calls Tryz.prog 22 #[.agg #[.string xs[k].c.name, .int .i64 xs[k].c.kind, .int .i64 xs[k].c.len, .int .i64 xs[k].c.regs, xs[k].vi, xs[k].vp, xs[k].vk, xs[k].vg]] W fun e w' => e = .returned (.string (bs (codeT xs[k].c))) ∧ Hid (Below W.heap.size W w') := fun W h => by
  have hfe := hv.few _ (List.getElem_mem hk)
  have hnu := hv.nums _ (List.getElem_mem hk)
  have hco := (hv.codes _ (List.getElem_mem hk)).below (h.out.mono hB)
  generalize xs[k] = x at *
  obtain ⟨c, vi, vp, vk, vg⟩ := x
  simp only at hfe hnu hco hr ⊢
  obtain ⟨ai, ci, rfl⟩ := hco.ins.slice
  obtain ⟨ap, cp, rfl⟩ := hco.pool.slice
  obtain ⟨ak, ck, rfl⟩ := hco.keys.slice
  obtain ⟨ag, cg, rfl⟩ := hco.guards.slice
  simp only [List.length_map] at hco ⊢
  exact (rone_ret c B ai ci ap cp ak ck ag cg hfe hnu hr W (hG.below h.out hG.size) (Nat.le_trans hB h.out.size) hco).mono fun e w' he => ⟨he.1, Lib.hid he.2⟩

/-- an element of an image, as the walk reads it -/
theorem Img.elem {w : World} {B : Nat} {a : Option Addr} {n cap : Nat} {xs : List CodeV} (h : Img w B (.slice a n cap) xs) (k : Nat) (hk : k < xs.length) :
    ∃ bk o, a = some ⟨bk, o, none⟩ ∧ bk < B ∧ (∃ ai ci ap cp ak ck ag cg, xs[k].vi = .slice ai xs[k].c.ins.length ci ∧ xs[k].vp = .slice ap xs[k].c.pool.length cp ∧ xs[k].vk = .slice ak xs[k].c.keys.length ck ∧ xs[k].vg = .slice ag xs[k].c.guards.length cg) ∧ ∀ W, Below B w W →
      W.cell? ⟨bk, o + k * 8, none⟩ = some (.string xs[k].c.name) ∧ W.cell? ⟨bk, o + k * 8 + 1, none⟩ = some (.int .i64 xs[k].c.kind) ∧ W.cell? ⟨bk, o + k * 8 + 2, none⟩ = some (.int .i64 xs[k].c.len) ∧ W.cell? ⟨bk, o + k * 8 + 3, none⟩ = some (.int .i64 xs[k].c.regs) ∧
      W.cell? ⟨bk, o + k * 8 + 4, none⟩ = some xs[k].vi ∧ W.cell? ⟨bk, o + k * 8 + 5, none⟩ = some xs[k].vp ∧ W.cell? ⟨bk, o + k * 8 + 6, none⟩ = some xs[k].vk ∧ W.cell? ⟨bk, o + k * 8 + 7, none⟩ = some xs[k].vg := by
  have hx := List.getElem?_eq_getElem hk
  obtain ⟨_, bk, o, ea, hbk, hcc⟩ := h.sl.at (k := k) (x := codeC xs[k]) (by rw [List.getElem?_map, hx]; rfl)
  have hco := h.codes _ (List.getElem_mem hk)
  refine ⟨bk, o, ea, hbk, ?_, fun W hW => ?_⟩
  · obtain ⟨ai, ci, e1⟩ := hco.ins.slice
    obtain ⟨ap, cp, e2⟩ := hco.pool.slice
    obtain ⟨ak, ck, e3⟩ := hco.keys.slice
    obtain ⟨ag, cg, e4⟩ := hco.guards.slice
    rw [List.length_map] at e1 e2 e3 e4
    exact ⟨ai, ci, ap, cp, ak, ck, ag, cg, e1, e2, e3, e4⟩
  · have q : ∀ j y, (codeC xs[k])[j]? = some y → W.cell? ⟨bk, o + k * 8 + j, none⟩ = some y := fun j y hj => by
      rw [hW.cell (p := ⟨bk, o + k * 8 + j, none⟩) hbk]; exact hcc j y hj
    exact ⟨q 0 _ rfl, q 1 _ rfl, q 2 _ rfl, q 3 _ rfl, q 4 _ rfl, q 5 _ rfl, q 6 _ rfl, q 7 _ rfl⟩

set_option maxHeartbeats 4000000 in
theorem rText_ret (xs : List CodeV) (B : Nat) (v : Value) (hl : xs.length ≤ 1499) (w : World) (hG : G w) (hB : B ≤ w.heap.size) (hv : Img w B v xs) :
    Calls Tryz.prog 7 #[.agg #[v]] w fun e w' => e = .returned (textV xs) ∧ Below w.heap.size w w' := by
  obtain ⟨a, cap, rfl⟩ := hv.sl.slice
  have HV := Lib.hid hv
  clear hv
  rw [List.length_map]
  have HB0 : Hid (Below w.heap.size w (w.alloc (.cells #[.slice a xs.length cap] 24))) := Lib.hid ((Below.refl _ _).alloc (Nat.le_refl _) _)
  have box0 : (w.alloc (.cells #[.slice a xs.length cap] 24)).heap[w.heap.size]? = some (.cells #[.slice a xs.length cap] 24 (0, 0)) := heap_alloc_new w _
  go_enter Tryz.func7, Tryz.ntmps7
  go_wp2
  go_loopw [4] (fun i W => ∃ k : Nat, k ≤ xs.length ∧ i = .int .i64 k ∧ Hid (∀ j (h : j < xs.length), j < k → rightB xs[j].c = true) ∧ Hid (Below w.heap.size w W) ∧ W.cell? ⟨w.heap.size, 0, none⟩ = some (.slice a xs.length cap) ∧ w.heap.size < W.heap.size) (fun i _ => xs.length - (intOf i).toNat)
  case atStart => exact ⟨0, Nat.zero_le _, rfl, Lib.hid (fun j h h' => absurd h' (Nat.not_lt_zero _)), HB0, by rw [Lib.cell_of_heap box0]; rfl, by simp⟩
  case round =>
    obtain ⟨k, hk, rfl, hall, hbl, hbox, hwl⟩ := hrel
    clear HB0 box0
    by_cases hlt : k < xs.length
    · obtain ⟨bk, o, ea, hbk, hsl, hcell⟩ := HV.out.elem k hlt
      obtain ⟨q0, q1, q2, q3, q4, q5, q6, q7⟩ := hcell wr (hbl.out.mono hB)
      have HRR := Lib.hid (rright_all xs B _ w hB HV.out k hlt)
      subst ea
      clear hcell
      have HN : Hid (rightB xs[k].c = true → ∀ j (h : j < xs.length), j < k + 1 → rightB xs[j].c = true) := Lib.hid (fun hr j h h' => by
        by_cases e : j = k
        · subst e; exact hr
        · exact hall.out j h (by omega))
      have HF : Hid (rightB xs[k].c = false → textV xs = .tuple #[.string ⟨#[]⟩, .int .i64 7]) := Lib.hid (fun hr => textV_no _ (List.getElem_mem hlt) hr)
      obtain ⟨ai, ci, ap, cp, ak, ck, ag, cg, e1, e2, e3, e4⟩ := hsl
      rw [e1] at q4 HRR
      rw [e2] at q5 HRR
      rw [e3] at q6 HRR
      rw [e4] at q7 HRR
      clear e1 e2 e3 e4
      generalize xs[k] = x at *
      cases hr : rightB x.c with
      | false =>
        have HE := Lib.hid (HF.out hr)
        rw [hr] at HRR
        clear HN HF hr
        go_wp2_with (go_at_call 21; refine (HRR.out _ hbl).mono ?_; rintro e w1 ⟨rfl, hb1⟩)
        go_ret2
        exact ⟨congrArg Ending.returned HE.out.symm, hbl.out.trans (hb1.out.mono hbl.out.size)⟩
      | true =>
        have HN2 := Lib.hid (HN.out hr)
        rw [hr] at HRR
        clear HN HF hr
        go_wp2_with (go_at_call 21; refine (HRR.out _ hbl).mono ?_; rintro e w1 ⟨rfl, hb1⟩)
        go_roundw
        case rel => exact ⟨k + 1, by omega, by go_num, HN2, Lib.hid (hbl.out.trans (hb1.out.mono hbl.out.size)), by rw [hb1.out.cell (p := ⟨w.heap.size, 0, none⟩) hwl]; exact hbox, Nat.lt_of_lt_of_le hwl hb1.out.size⟩
        case measure => simp [intOf]; omega
    · have HALL : Hid (∀ j (h : j < xs.length), rightB xs[j].c = true) := Lib.hid fun j h => hall.out j h (by omega)
      have HE : Hid (textV xs = .tuple #[.string (bs (txt xs)), .int .i64 0]) := Lib.hid (textV_yes HALL.out)
      clear hall
      go_wp2_with fail
      obtain ⟨wo, hwo⟩ : ∃ wo : World, wo = wr := ⟨_, rfl⟩
      have hbx := hbox
      have hwl2 := hwl
      have hbl2 := hbl
      clear hbox hwl hbl
      subst hwo
      go_loopw [5, 6] (fun s i W => ∃ m : Nat, m ≤ xs.length ∧ i = .int .i64 m ∧ Hid (s = .string (bs (txt (xs.take m)))) ∧ Hid (Below w.heap.size w W) ∧ W.cell? ⟨w.heap.size, 0, none⟩ = some (.slice a xs.length cap) ∧ w.heap.size < W.heap.size) (fun _ i _ => xs.length - (intOf i).toNat)
      case atStart => exact ⟨0, Nat.zero_le _, rfl, Lib.hid rfl, hbl2, hbx, hwl2⟩
      case round =>
        obtain ⟨m, hm, rfl, hs, hbl, hbox, hwl⟩ := hrel
        obtain rfl := hs.out
        clear hs hbx hwl2 hbl2
        have HL := Lib.hid (txt_len xs hl HV.out.few HV.out.nums m)
        by_cases hlt : m < xs.length
        · obtain ⟨bk, o, ea, hbk, hsl, hcell⟩ := HV.out.elem m hlt
          obtain ⟨q0, q1, q2, q3, q4, q5, q6, q7⟩ := hcell wr (hbl.out.mono hB)
          have HRR := Lib.hid (rone_all xs B _ w hG hB HV.out m hlt (HALL.out m hlt))
          have HCL := Lib.hid (code_len xs[m].c (HV.out.few _ (List.getElem_mem hlt)) (HV.out.nums _ (List.getElem_mem hlt)))
          subst ea
          clear hcell
          have HT : Hid (txt (xs.take (m + 1)) = txt (xs.take m) ++ codeT xs[m].c) := Lib.hid (take_flat _ xs m hlt)
          obtain ⟨ai, ci, ap, cp, ak, ck, ag, cg, e1, e2, e3, e4⟩ := hsl
          rw [e1] at q4 HRR
          rw [e2] at q5 HRR
          rw [e3] at q6 HRR
          rw [e4] at q7 HRR
          clear e1 e2 e3 e4
          generalize xs[m] = x at *
          generalize txt (xs.take m) = L at *
          have l0 : ¬ (9223372036854775807 < (bs L).size + (bs (codeT x.c)).size) := by have h1 := HL.out; have h2 := HCL.out; rw [bs_size, bs_size]; omega
          go_wp2_with (go_at_call 22; refine (HRR.out _ hbl).mono ?_; rintro e w1 ⟨rfl, hb1⟩)
          go_roundw
          case rel => exact ⟨m + 1, by omega, by go_num, Lib.hid (by rw [HT.out, ← bs_append]), Lib.hid (hbl.out.trans (hb1.out.mono hbl.out.size)), by rw [hb1.out.cell (p := ⟨w.heap.size, 0, none⟩) hwl]; exact hbox, Nat.lt_of_lt_of_le hwl hb1.out.size⟩
          case measure => simp [intOf]; omega
        · have hme : m = xs.length := by omega
          have HTA : Hid (txt (xs.take m) = txt xs) := Lib.hid (by rw [hme, List.take_length])
          rw [HTA.out]
          clear hme HTA HL
          generalize txt xs = L at *
          go_wp2_with fail
          go_ret2
          exact ⟨congrArg Ending.returned HE.out.symm, hbl.out⟩

end Go.Proofs.YtnkidmnddkmilaaGreatDoor
