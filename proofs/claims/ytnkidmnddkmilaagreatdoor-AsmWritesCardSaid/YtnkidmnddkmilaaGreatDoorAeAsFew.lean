/-
  Which images are few: the walk.
-/
import Derived.Test.YtnkidmnddkmilaaGreatDoorAeAsFewD
namespace Go.Proofs.YtnkidmnddkmilaaGreatDoor
open Go.RowKit
set_option maxRecDepth 100000

set_option maxHeartbeats 8000000 in
theorem few_ret (xs : List CodeV) (B : Nat) (v : Value) (w : World) (hB : B ≤ w.heap.size) (hv : Img0 w B v xs) :
    Calls Tryz.prog 4 #[.agg #[v]] w fun e w' => ∃ r : Bool, e = .returned (.bool r) ∧ (r = true → xs.length ≤ 1499 ∧ ∀ x ∈ xs, Few x.c) ∧ Below w.heap.size w w' := by
  obtain ⟨a, cap, rfl⟩ := hv.sl.slice
  have hlen := hv.len
  have HV := Lib.hid hv
  clear hv
  rw [List.length_map]
  have HB0 : Hid (Below w.heap.size w (w.alloc (.cells #[.slice a xs.length cap] 24))) := Lib.hid ((Below.refl _ _).alloc (Nat.le_refl _) _)
  have box0 : (w.alloc (.cells #[.slice a xs.length cap] 24)).heap[w.heap.size]? = some (.cells #[.slice a xs.length cap] 24 (0, 0)) := heap_alloc_new w _
  go_enter Tryz.func4, Tryz.ntmps4
  go_wp2
  go_loopw [3, 4] (fun n i W => ∃ k nn : Nat, k ≤ xs.length ∧ i = .int .i64 k ∧ n = .int .i64 nn ∧ nn ≤ 1000000000000000 ∧ Hid (Cnt xs k nn) ∧ Hid (Below w.heap.size w W) ∧ W.cell? ⟨w.heap.size, 0, none⟩ = some (.slice a xs.length cap) ∧ w.heap.size < W.heap.size) (fun _ i _ => xs.length - (intOf i).toNat)
  case atStart => exact ⟨0, xs.length, Nat.zero_le _, rfl, rfl, by omega, Lib.hid ⟨Nat.le_refl _, fun _ j _ hj => absurd hj (Nat.not_lt_zero _)⟩, HB0, by rw [Lib.cell_of_heap box0]; rfl, by simp⟩
  case round =>
    obtain ⟨k, nn, hk, rfl, rfl, hnn, hcnt, hbl, hbox, hwl⟩ := hrel
    clear HB0 box0
    by_cases hlt : k < xs.length
    · by_cases hln : nn < 1500
      · obtain ⟨bk, o, ea, hbk, hsl, hcell⟩ := HV.out.elem k hlt
        obtain ⟨q0, q1, q2, q3, q4, q5, q6, q7⟩ := hcell wr (hbl.out.mono hB)
        have hco := (HV.out.codes _ (List.getElem_mem hlt)).below (hbl.out.mono hB)
        have hsm := HV.out.small _ (List.getElem_mem hlt)
        subst ea
        clear hcell
        have HST : Hid (∀ n', nn ≤ n' → (n' < 1500 → Few xs[k].c) → Cnt xs (k + 1) n') := Lib.hid fun n' h1 h2 => hcnt.out.step hlt h1 h2
        obtain ⟨ai, ci, ap, cp, ak, ck, ag, cg, e1, e2, e3, e4⟩ := hsl
        rw [e1] at q4 hco
        rw [e2] at q5 hco
        rw [e3] at q6 hco
        rw [e4] at q7 hco
        clear e1 e2 e3 e4
        generalize xs[k].c = c at *
        have hN := hsm.name
        have hI := hsm.ins
        have hP := hsm.pool
        have hK := hsm.keys
        have hGu := hsm.guards
        have hbox2 : (wr.alloc (.cells #[.string c.name, .int .i64 c.kind, .int .i64 c.len, .int .i64 c.regs, .slice ai c.ins.length ci, .slice ap c.pool.length cp, .slice ak c.keys.length ck, .slice ag c.guards.length cg] 36)).cell? ⟨w.heap.size, 0, none⟩ = some (.slice (some ⟨bk, o, none⟩) xs.length cap) := (cell_old wr _ hwl 0).trans hbox
        have HBB : Hid (Below w.heap.size w (wr.alloc (.cells #[.string c.name, .int .i64 c.kind, .int .i64 c.len, .int .i64 c.regs, .slice ai c.ins.length ci, .slice ap c.pool.length cp, .slice ak c.keys.length ck, .slice ag c.guards.length cg] 36))) := Lib.hid (hbl.out.alloc hbl.out.size _)
        have hwl2 : w.heap.size < (wr.alloc (.cells #[.string c.name, .int .i64 c.kind, .int .i64 c.len, .int .i64 c.regs, .slice ai c.ins.length ci, .slice ap c.pool.length cp, .slice ak c.keys.length ck, .slice ag c.guards.length cg] 36)).heap.size := by simp; omega
        have HCO := Lib.hid (hco.below ((Below.refl wr.heap.size wr).alloc (Nat.le_refl _) (.cells #[.string c.name, .int .i64 c.kind, .int .i64 c.len, .int .i64 c.regs, .slice ai c.ins.length ci, .slice ap c.pool.length cp, .slice ak c.keys.length ck, .slice ag c.guards.length cg] 36) |>.mono (Nat.le_trans hB hbl.out.size)))
        clear hco
        have HNM : Hid (∀ v ∈ c.pool, v.s.size ≤ 140737488351232) := Lib.hid hsm.vs
        have HKS : Hid (∀ v ∈ c.keys, v.s.size ≤ 140737488351232) := Lib.hid hsm.ks
        clear hsm hcnt
        go_wp2_with fail
        go_loop [3, 6] (fun n i => ∃ m n2 : Nat, m ≤ c.pool.length ∧ i = .int .i64 m ∧ n = .int .i64 n2 ∧ n2 ≤ 1000000000000000 ∧ Hid (Cnt2 c nn m n2)) (fun _ i => c.pool.length - (intOf i).toNat)
        case atStart => exact ⟨0, nn + (c.name.size + c.ins.length + c.pool.length + c.keys.length + c.guards.length), Nat.zero_le _, rfl, by go_num, by omega, Lib.hid ⟨Nat.le_refl _, fun _ j _ hj => absurd hj (Nat.not_lt_zero _)⟩⟩
        case round =>
          obtain ⟨m, n2, hm, rfl, rfl, hn2, hc2⟩ := hrel
          by_cases hml : m < c.pool.length
          · by_cases hnl : n2 < 1500
            · obtain ⟨hxx, pb, po, ea, hpb, hcc⟩ := HCO.out.pool.at (k := m) (x := valC c.pool[m]) (by rw [List.getElem?_map, List.getElem?_eq_getElem hml]; rfl)
              clear hxx
              subst ea
              have hs := HNM.out _ (List.getElem_mem hml)
              have HN : Hid (Cnt2 c nn (m + 1) (n2 + c.pool[m].s.size)) := Lib.hid (hc2.out.step hml)
              generalize c.pool[m] = x at *
              have p2 : (wr.alloc (.cells #[.string c.name, .int .i64 c.kind, .int .i64 c.len, .int .i64 c.regs, .slice ai c.ins.length ci, .slice (some ⟨pb, po, none⟩) c.pool.length cp, .slice ak c.keys.length ck, .slice ag c.guards.length cg] 36)).cell? ⟨pb, po + m * 3 + 2, none⟩ = some (.string x.s) := hcc 2 _ rfl
              clear hcc
              go_wp2_with fail
              go_round
              case rel => exact ⟨m + 1, n2 + x.s.size, by omega, by go_num, by go_num, by omega, HN⟩
              case measure => simp [intOf]; omega
            · have HX := Lib.hid (hc2.out.exit (Or.inr hnl))
              go_wp2_with fail
              obtain ⟨n1, rfl⟩ : ∃ n1 : Nat, n1 = n2 := ⟨_, rfl⟩
              have hn1 := hn2
              clear hc2 hml hm hn2
              go_loop [3, 7] (fun n i => ∃ m n2 : Nat, m ≤ c.keys.length ∧ i = .int .i64 m ∧ n = .int .i64 n2 ∧ n2 ≤ 1000000000000000 ∧ Hid (Cnt3 c nn m n2)) (fun _ i => c.keys.length - (intOf i).toNat)
              case atStart => exact ⟨0, n1, Nat.zero_le _, rfl, rfl, hn1, HX⟩
              case round =>
                obtain ⟨m, n2, hm, rfl, rfl, hn2, hc2⟩ := hrel
                by_cases hml : m < c.keys.length
                · by_cases hnl : n2 < 1500
                  · obtain ⟨hxx, pb, po, ea, hpb, hcc⟩ := HCO.out.keys.at (k := m) (x := keyC c.keys[m]) (by rw [List.getElem?_map, List.getElem?_eq_getElem hml]; rfl)
                    clear hxx
                    subst ea
                    have hs := HKS.out _ (List.getElem_mem hml)
                    have HN : Hid (Cnt3 c nn (m + 1) (n2 + c.keys[m].s.size)) := Lib.hid (hc2.out.step hml)
                    generalize c.keys[m] = x at *
                    have p2 : (wr.alloc (.cells #[.string c.name, .int .i64 c.kind, .int .i64 c.len, .int .i64 c.regs, .slice ai c.ins.length ci, .slice ap c.pool.length cp, .slice (some ⟨pb, po, none⟩) c.keys.length ck, .slice ag c.guards.length cg] 36)).cell? ⟨pb, po + m * 3 + 2, none⟩ = some (.string x.s) := hcc 2 _ rfl
                    clear hcc
                    go_wp2_with fail
                    go_round
                    case rel => exact ⟨m + 1, n2 + x.s.size, by omega, by go_num, by go_num, by omega, HN⟩
                    case measure => simp [intOf]; omega
                  · have HX := Lib.hid (hc2.out.exit (Or.inr hnl))
                    go_wp2_with fail
                    obtain ⟨n3, rfl⟩ : ∃ n3 : Nat, n3 = n2 := ⟨_, rfl⟩
                    have HE := HX.out
                    go_roundw
                    case rel => exact ⟨k + 1, n3, by omega, by go_num, rfl, by omega, Lib.hid (HST.out n3 HE.1 HE.2), HBB, hbox2, hwl2⟩
                    case measure => simp [intOf]; omega
                · have HX := Lib.hid (hc2.out.exit (Or.inl hml))
                  go_wp2_with fail
                  obtain ⟨n3, rfl⟩ : ∃ n3 : Nat, n3 = n2 := ⟨_, rfl⟩
                  have HE := HX.out
                  go_roundw
                  case rel => exact ⟨k + 1, n3, by omega, by go_num, rfl, by omega, Lib.hid (HST.out n3 HE.1 HE.2), HBB, hbox2, hwl2⟩
                  case measure => simp [intOf]; omega
          · have HX := Lib.hid (hc2.out.exit (Or.inl hml))
            go_wp2_with fail
            obtain ⟨n1, rfl⟩ : ∃ n1 : Nat, n1 = n2 := ⟨_, rfl⟩
            have hn1 := hn2
            clear hc2 hml hm hn2
            go_loop [3, 7] (fun n i => ∃ m n2 : Nat, m ≤ c.keys.length ∧ i = .int .i64 m ∧ n = .int .i64 n2 ∧ n2 ≤ 1000000000000000 ∧ Hid (Cnt3 c nn m n2)) (fun _ i => c.keys.length - (intOf i).toNat)
            case atStart => exact ⟨0, n1, Nat.zero_le _, rfl, rfl, hn1, HX⟩
            case round =>
              obtain ⟨m, n2, hm, rfl, rfl, hn2, hc2⟩ := hrel
              by_cases hml : m < c.keys.length
              · by_cases hnl : n2 < 1500
                · obtain ⟨hxx, pb, po, ea, hpb, hcc⟩ := HCO.out.keys.at (k := m) (x := keyC c.keys[m]) (by rw [List.getElem?_map, List.getElem?_eq_getElem hml]; rfl)
                  clear hxx
                  subst ea
                  have hs := HKS.out _ (List.getElem_mem hml)
                  have HN : Hid (Cnt3 c nn (m + 1) (n2 + c.keys[m].s.size)) := Lib.hid (hc2.out.step hml)
                  generalize c.keys[m] = x at *
                  have p2 : (wr.alloc (.cells #[.string c.name, .int .i64 c.kind, .int .i64 c.len, .int .i64 c.regs, .slice ai c.ins.length ci, .slice ap c.pool.length cp, .slice (some ⟨pb, po, none⟩) c.keys.length ck, .slice ag c.guards.length cg] 36)).cell? ⟨pb, po + m * 3 + 2, none⟩ = some (.string x.s) := hcc 2 _ rfl
                  clear hcc
                  go_wp2_with fail
                  go_round
                  case rel => exact ⟨m + 1, n2 + x.s.size, by omega, by go_num, by go_num, by omega, HN⟩
                  case measure => simp [intOf]; omega
                · have HX := Lib.hid (hc2.out.exit (Or.inr hnl))
                  go_wp2_with fail
                  obtain ⟨n3, rfl⟩ : ∃ n3 : Nat, n3 = n2 := ⟨_, rfl⟩
                  have HE := HX.out
                  go_roundw
                  case rel => exact ⟨k + 1, n3, by omega, by go_num, rfl, by omega, Lib.hid (HST.out n3 HE.1 HE.2), HBB, hbox2, hwl2⟩
                  case measure => simp [intOf]; omega
              · have HX := Lib.hid (hc2.out.exit (Or.inl hml))
                go_wp2_with fail
                obtain ⟨n3, rfl⟩ : ∃ n3 : Nat, n3 = n2 := ⟨_, rfl⟩
                have HE := HX.out
                go_roundw
                case rel => exact ⟨k + 1, n3, by omega, by go_num, rfl, by omega, Lib.hid (HST.out n3 HE.1 HE.2), HBB, hbox2, hwl2⟩
                case measure => simp [intOf]; omega
      · have hrr : decide (nn < 1500) = true → xs.length ≤ 1499 ∧ ∀ x ∈ xs, Few x.c := fun hd => by
          have hd := of_decide_eq_true hd
          obtain ⟨h1, h2⟩ := hcnt.out
          refine ⟨by omega, fun x hx => ?_⟩
          obtain ⟨j, hj, rfl⟩ := List.getElem_of_mem hx
          exact h2 hd j hj (by omega)
        have hout := Lib.hid hrr
        clear hrr
        go_wp2_with fail
        go_ret
        refine ⟨decide (nn < 1500), by go_num, hout.out, hbl.out⟩
    · have hrr : decide (nn < 1500) = true → xs.length ≤ 1499 ∧ ∀ x ∈ xs, Few x.c := fun hd => by
        have hd := of_decide_eq_true hd
        obtain ⟨h1, h2⟩ := hcnt.out
        refine ⟨by omega, fun x hx => ?_⟩
        obtain ⟨j, hj, rfl⟩ := List.getElem_of_mem hx
        exact h2 hd j hj (by omega)
      have hout := Lib.hid hrr
      clear hrr
      go_wp2_with fail
      go_ret
      refine ⟨decide (nn < 1500), by go_num, hout.out, hbl.out⟩

end Go.Proofs.YtnkidmnddkmilaaGreatDoor
