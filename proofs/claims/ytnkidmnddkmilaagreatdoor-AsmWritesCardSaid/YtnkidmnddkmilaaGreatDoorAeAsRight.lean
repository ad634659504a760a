/-
  Which codes are right: the program.
-/
import Derived.Test.YtnkidmnddkmilaaGreatDoorAeAsClos
namespace Go.Proofs.YtnkidmnddkmilaaGreatDoor
open Go.RowKit
set_option maxRecDepth 100000

def inB (n lo hi : Int) : Bool := decide (lo ≤ n ∧ n ≤ hi)

theorem in_ret (n lo hi : Int) (w : World) : Calls Tryz.prog 29 #[.int .i64 n, .int .i64 lo, .int .i64 hi] w fun e w' => e = .returned (.bool (inB n lo hi)) ∧ w = w' := by
  by_cases h : lo ≤ n
  · go_enter Tryz.func29, Tryz.ntmps29
    go_wp2
    go_ret
    refine ⟨ret_bool ?_, rfl⟩
    unfold inB
    refine dec_of ?_
    simp [h]
  · have h' : decide (lo ≤ n) = false := by simpa using h
    have h2 : n < lo := by omega
    have HP := Lib.hid h
    clear h
    go_enter Tryz.func29, Tryz.ntmps29
    go_wp2
    go_ret
    refine ⟨ret_bool ?_, rfl⟩
    unfold inB
    refine dec_of ?_
    have := HP.out
    simp
    omega

/-- a code's head is right -/
def headB (c : CodeL) : Bool := inB c.kind 0 255 && (inB c.len 0 1024 && inB c.regs 0 4096)
/-- a code is right -/
def rightB (c : CodeL) : Bool := headB c && ((c.pool.all fun v => valB v.k v.n v.s) && ((c.keys.all fun v => keyB v.k v.n v.s) && ((c.ins.all fun x => insB c x) && (c.guards.all fun x => guB c x))))

set_option maxHeartbeats 4000000 in
theorem right_no (s : ByteArray) (k l r : Int) (vi vp vk vg : Value) (b1 b2 b3 : Bool) (hb : (b1 && (b2 && b3)) = false)
    (h1 : ∀ w, Calls Tryz.prog 29 #[.int .i64 k, .int .i64 0, .int .i64 255] w fun e w' => e = .returned (.bool b1) ∧ w = w')
    (h2 : ∀ w, Calls Tryz.prog 29 #[.int .i64 l, .int .i64 0, .int .i64 1024] w fun e w' => e = .returned (.bool b2) ∧ w = w')
    (h3 : ∀ w, Calls Tryz.prog 29 #[.int .i64 r, .int .i64 0, .int .i64 4096] w fun e w' => e = .returned (.bool b3) ∧ w = w') (w : World) :
    Calls Tryz.prog 14 #[.agg #[.string s, .int .i64 k, .int .i64 l, .int .i64 r, vi, vp, vk, vg]] w fun e w' => e = .returned (.bool false) ∧ Below w.heap.size w w' := by
  have hb0 : Below w.heap.size w (w.alloc (.cells #[.string s, .int .i64 k, .int .i64 l, .int .i64 r, vi, vp, vk, vg] 36)) := (Below.refl _ _).alloc (Nat.le_refl _) _
  have H1 := Lib.hid h1
  have H2 := Lib.hid h2
  have H3 := Lib.hid h3
  clear h1 h2 h3
  cases b1
  · go_enter Tryz.func14, Tryz.ntmps14
    go_wp2_with (go_at_call 29; ((with_reducible refine (H1.out _).mono ?_); rintro e w' ⟨rfl, rfl⟩))
    go_ret
    exact ⟨rfl, hb0⟩
  · cases b2
    · go_enter Tryz.func14, Tryz.ntmps14
      go_wp2_with (go_at_call 29; (first | ((with_reducible refine (H1.out _).mono ?_); rintro e w' ⟨rfl, rfl⟩) | ((with_reducible refine (H2.out _).mono ?_); rintro e w' ⟨rfl, rfl⟩)))
      go_ret
      exact ⟨rfl, hb0⟩
    · cases b3
      · go_enter Tryz.func14, Tryz.ntmps14
        go_wp2_with (go_at_call 29; (first | ((with_reducible refine (H1.out _).mono ?_); rintro e w' ⟨rfl, rfl⟩) | ((with_reducible refine (H2.out _).mono ?_); rintro e w' ⟨rfl, rfl⟩) | ((with_reducible refine (H3.out _).mono ?_); rintro e w' ⟨rfl, rfl⟩)))
        go_ret
        exact ⟨rfl, hb0⟩
      · cases hb

set_option maxHeartbeats 4000000 in
theorem right_yes (s : ByteArray) (k l r : Int) (ai : Option Addr) (li ci : Nat) (ap : Option Addr) (lp cp : Nat) (ak : Option Addr) (lk ck : Nat) (vg : Value) (a1 a2 a3 a4 : Bool) (hs : s.size ≤ 1499) (hlp : lp ≤ 1499) (hlk : lk ≤ 1499) (w : World)
    (h1 : ∀ w, Calls Tryz.prog 29 #[.int .i64 k, .int .i64 0, .int .i64 255] w fun e w' => e = .returned (.bool true) ∧ w = w')
    (h2 : ∀ w, Calls Tryz.prog 29 #[.int .i64 l, .int .i64 0, .int .i64 1024] w fun e w' => e = .returned (.bool true) ∧ w = w')
    (h3 : ∀ w, Calls Tryz.prog 29 #[.int .i64 r, .int .i64 0, .int .i64 4096] w fun e w' => e = .returned (.bool true) ∧ w = w')
    (e1 : ∀ W, Below (w.heap.size + 1) (w.alloc (.cells #[.string s, .int .i64 k, .int .i64 l, .int .i64 r, .slice ai li ci, .slice ap lp cp, .slice ak lk ck, vg] 36)) W → Calls Tryz.prog 30 #[.slice ap lp cp, .func (.func 31) #[] #[]] W fun e w' => e = .returned (.bool a1) ∧ Below W.heap.size W w')
    (e2 : ∀ W, Below (w.heap.size + 1) (w.alloc (.cells #[.string s, .int .i64 k, .int .i64 l, .int .i64 r, .slice ai li ci, .slice ap lp cp, .slice ak lk ck, vg] 36)) W → Calls Tryz.prog 32 #[.slice ak lk ck, .func (.func 33) #[] #[]] W fun e w' => e = .returned (.bool a2) ∧ Below W.heap.size W w')
    (e3 : ∀ W, Below (w.heap.size + 1) (w.alloc (.cells #[.string s, .int .i64 k, .int .i64 l, .int .i64 r, .slice ai li ci, .slice ap lp cp, .slice ak lk ck, vg] 36)) W → Calls Tryz.prog 34 #[.slice ai li ci, .func (.func 35) #[] #[.pointer (some ⟨w.heap.size, 0, none⟩)]] W fun e w' => e = .returned (.bool a3) ∧ Below W.heap.size W w')
    (e4 : ∀ W, Below (w.heap.size + 1) (w.alloc (.cells #[.string s, .int .i64 k, .int .i64 l, .int .i64 r, .slice ai li ci, .slice ap lp cp, .slice ak lk ck, vg] 36)) W → Calls Tryz.prog 37 #[vg, .func (.func 38) #[] #[.pointer (some ⟨w.heap.size, 0, none⟩)]] W fun e w' => e = .returned (.bool a4) ∧ Below W.heap.size W w') :
    Calls Tryz.prog 14 #[.agg #[.string s, .int .i64 k, .int .i64 l, .int .i64 r, .slice ai li ci, .slice ap lp cp, .slice ak lk ck, vg]] w fun e w' => e = .returned (.bool (a1 && (a2 && (a3 && a4)))) ∧ Below w.heap.size w w' := by
  have hb0 : Below w.heap.size w (w.alloc (.cells #[.string s, .int .i64 k, .int .i64 l, .int .i64 r, .slice ai li ci, .slice ap lp cp, .slice ak lk ck, vg] 36)) := (Below.refl _ _).alloc (Nat.le_refl _) _
  have hr0 : Below (w.heap.size + 1) (w.alloc (.cells #[.string s, .int .i64 k, .int .i64 l, .int .i64 r, .slice ai li ci, .slice ap lp cp, .slice ak lk ck, vg] 36)) (w.alloc (.cells #[.string s, .int .i64 k, .int .i64 l, .int .i64 r, .slice ai li ci, .slice ap lp cp, .slice ak lk ck, vg] 36)) := Below.refl _ _
  have hz0 : w.heap.size + 1 ≤ (w.alloc (.cells #[.string s, .int .i64 k, .int .i64 l, .int .i64 r, .slice ai li ci, .slice ap lp cp, .slice ak lk ck, vg] 36)).heap.size := by simp
  have HB0 := Lib.hid hb0
  have HR0 := Lib.hid hr0
  have HZ0 := Lib.hid hz0
  have H1 := Lib.hid h1
  have H2 := Lib.hid h2
  have H3 := Lib.hid h3
  have E1 := Lib.hid e1
  have E2 := Lib.hid e2
  have E3 := Lib.hid e3
  have E4 := Lib.hid e4
  clear h1 h2 h3 e1 e2 e3 e4 hb0 hr0 hz0
  have hs' : (s.size : Int) ≤ 65536 := by omega
  have hlp' : (lp : Int) ≤ 65536 := by omega
  have hlk' : (lk : Int) ≤ 65536 := by omega
  cases a1
  · go_enter Tryz.func14, Tryz.ntmps14
    go_wp2_with (first
      | (go_at_call 29; (first | ((with_reducible refine (H1.out _).mono ?_); rintro e w' ⟨rfl, rfl⟩) | ((with_reducible refine (H2.out _).mono ?_); rintro e w' ⟨rfl, rfl⟩) | ((with_reducible refine (H3.out _).mono ?_); rintro e w' ⟨rfl, rfl⟩)))
      | (go_at_call 30; ((with_reducible refine (E1.out _ HR0.out).mono ?_); rintro e w1 ⟨rfl, hb1⟩; have HZ1 := Lib.hid (Nat.le_trans HZ0.out hb1.size); have HR1 := Lib.hid (HR0.out.trans (hb1.mono HZ0.out)); have hz1 : w.heap.size < w1.heap.size := HZ1.out; obtain ⟨hc1, hf1⟩ := bcell hb1; clear hb1)))
    go_ret
    exact ⟨rfl, HB0.out.trans (HR1.out.mono (Nat.le_succ _))⟩
  · cases a2
    · go_enter Tryz.func14, Tryz.ntmps14
      go_wp2_with (first
        | (go_at_call 29; (first | ((with_reducible refine (H1.out _).mono ?_); rintro e w' ⟨rfl, rfl⟩) | ((with_reducible refine (H2.out _).mono ?_); rintro e w' ⟨rfl, rfl⟩) | ((with_reducible refine (H3.out _).mono ?_); rintro e w' ⟨rfl, rfl⟩)))
        | (go_at_call 30; ((with_reducible refine (E1.out _ HR0.out).mono ?_); rintro e w1 ⟨rfl, hb1⟩; have HZ1 := Lib.hid (Nat.le_trans HZ0.out hb1.size); have HR1 := Lib.hid (HR0.out.trans (hb1.mono HZ0.out)); have hz1 : w.heap.size < w1.heap.size := HZ1.out; obtain ⟨hc1, hf1⟩ := bcell hb1; clear hb1)))
      go_wp2_with (go_at_call 32; ((with_reducible refine (E2.out _ HR1.out).mono ?_); rintro e w2 ⟨rfl, hb2⟩; have HZ2 := Lib.hid (Nat.le_trans HZ1.out hb2.size); have HR2 := Lib.hid (HR1.out.trans (hb2.mono HZ1.out)); have hz2 : w.heap.size < w2.heap.size := HZ2.out; obtain ⟨hc2, hf2⟩ := bcell hb2; clear hb2))
      go_ret
      exact ⟨rfl, HB0.out.trans (HR2.out.mono (Nat.le_succ _))⟩
    · cases a3
      · go_enter Tryz.func14, Tryz.ntmps14
        go_wp2_with (first
          | (go_at_call 29; (first | ((with_reducible refine (H1.out _).mono ?_); rintro e w' ⟨rfl, rfl⟩) | ((with_reducible refine (H2.out _).mono ?_); rintro e w' ⟨rfl, rfl⟩) | ((with_reducible refine (H3.out _).mono ?_); rintro e w' ⟨rfl, rfl⟩)))
          | (go_at_call 30; ((with_reducible refine (E1.out _ HR0.out).mono ?_); rintro e w1 ⟨rfl, hb1⟩; have HZ1 := Lib.hid (Nat.le_trans HZ0.out hb1.size); have HR1 := Lib.hid (HR0.out.trans (hb1.mono HZ0.out)); have hz1 : w.heap.size < w1.heap.size := HZ1.out; obtain ⟨hc1, hf1⟩ := bcell hb1; clear hb1)))
        go_wp2_with (go_at_call 32; ((with_reducible refine (E2.out _ HR1.out).mono ?_); rintro e w2 ⟨rfl, hb2⟩; have HZ2 := Lib.hid (Nat.le_trans HZ1.out hb2.size); have HR2 := Lib.hid (HR1.out.trans (hb2.mono HZ1.out)); have hz2 : w.heap.size < w2.heap.size := HZ2.out; obtain ⟨hc2, hf2⟩ := bcell hb2; clear hb2))
        go_wp2_with (go_at_call 34; ((with_reducible refine (E3.out _ HR2.out).mono ?_); rintro e w3 ⟨rfl, hb3⟩; have HZ3 := Lib.hid (Nat.le_trans HZ2.out hb3.size); have HR3 := Lib.hid (HR2.out.trans (hb3.mono HZ2.out)); have hz3 : w.heap.size < w3.heap.size := HZ3.out; obtain ⟨hc3, hf3⟩ := bcell hb3; clear hb3))
        go_ret
        exact ⟨rfl, HB0.out.trans (HR3.out.mono (Nat.le_succ _))⟩
      · cases a4
        · go_enter Tryz.func14, Tryz.ntmps14
          go_wp2_with (first
            | (go_at_call 29; (first | ((with_reducible refine (H1.out _).mono ?_); rintro e w' ⟨rfl, rfl⟩) | ((with_reducible refine (H2.out _).mono ?_); rintro e w' ⟨rfl, rfl⟩) | ((with_reducible refine (H3.out _).mono ?_); rintro e w' ⟨rfl, rfl⟩)))
            | (go_at_call 30; ((with_reducible refine (E1.out _ HR0.out).mono ?_); rintro e w1 ⟨rfl, hb1⟩; have HZ1 := Lib.hid (Nat.le_trans HZ0.out hb1.size); have HR1 := Lib.hid (HR0.out.trans (hb1.mono HZ0.out)); have hz1 : w.heap.size < w1.heap.size := HZ1.out; obtain ⟨hc1, hf1⟩ := bcell hb1; clear hb1)))
          go_wp2_with (go_at_call 32; ((with_reducible refine (E2.out _ HR1.out).mono ?_); rintro e w2 ⟨rfl, hb2⟩; have HZ2 := Lib.hid (Nat.le_trans HZ1.out hb2.size); have HR2 := Lib.hid (HR1.out.trans (hb2.mono HZ1.out)); have hz2 : w.heap.size < w2.heap.size := HZ2.out; obtain ⟨hc2, hf2⟩ := bcell hb2; clear hb2))
          go_wp2_with (go_at_call 34; ((with_reducible refine (E3.out _ HR2.out).mono ?_); rintro e w3 ⟨rfl, hb3⟩; have HZ3 := Lib.hid (Nat.le_trans HZ2.out hb3.size); have HR3 := Lib.hid (HR2.out.trans (hb3.mono HZ2.out)); have hz3 : w.heap.size < w3.heap.size := HZ3.out; obtain ⟨hc3, hf3⟩ := bcell hb3; clear hb3))
          go_wp2_with (go_at_call 37; ((with_reducible refine (E4.out _ HR3.out).mono ?_); rintro e w4 ⟨rfl, hb4⟩; have HZ4 := Lib.hid (Nat.le_trans HZ3.out hb4.size); have HR4 := Lib.hid (HR3.out.trans (hb4.mono HZ3.out)); have hz4 : w.heap.size < w4.heap.size := HZ4.out; obtain ⟨hc4, hf4⟩ := bcell hb4; clear hb4))
          go_ret
          exact ⟨rfl, HB0.out.trans (HR4.out.mono (Nat.le_succ _))⟩
        · go_enter Tryz.func14, Tryz.ntmps14
          go_wp2_with (first
            | (go_at_call 29; (first | ((with_reducible refine (H1.out _).mono ?_); rintro e w' ⟨rfl, rfl⟩) | ((with_reducible refine (H2.out _).mono ?_); rintro e w' ⟨rfl, rfl⟩) | ((with_reducible refine (H3.out _).mono ?_); rintro e w' ⟨rfl, rfl⟩)))
            | (go_at_call 30; ((with_reducible refine (E1.out _ HR0.out).mono ?_); rintro e w1 ⟨rfl, hb1⟩; have HZ1 := Lib.hid (Nat.le_trans HZ0.out hb1.size); have HR1 := Lib.hid (HR0.out.trans (hb1.mono HZ0.out)); have hz1 : w.heap.size < w1.heap.size := HZ1.out; obtain ⟨hc1, hf1⟩ := bcell hb1; clear hb1)))
          go_wp2_with (go_at_call 32; ((with_reducible refine (E2.out _ HR1.out).mono ?_); rintro e w2 ⟨rfl, hb2⟩; have HZ2 := Lib.hid (Nat.le_trans HZ1.out hb2.size); have HR2 := Lib.hid (HR1.out.trans (hb2.mono HZ1.out)); have hz2 : w.heap.size < w2.heap.size := HZ2.out; obtain ⟨hc2, hf2⟩ := bcell hb2; clear hb2))
          go_wp2_with (go_at_call 34; ((with_reducible refine (E3.out _ HR2.out).mono ?_); rintro e w3 ⟨rfl, hb3⟩; have HZ3 := Lib.hid (Nat.le_trans HZ2.out hb3.size); have HR3 := Lib.hid (HR2.out.trans (hb3.mono HZ2.out)); have hz3 : w.heap.size < w3.heap.size := HZ3.out; obtain ⟨hc3, hf3⟩ := bcell hb3; clear hb3))
          go_wp2_with (go_at_call 37; ((with_reducible refine (E4.out _ HR3.out).mono ?_); rintro e w4 ⟨rfl, hb4⟩; have HZ4 := Lib.hid (Nat.le_trans HZ3.out hb4.size); have HR4 := Lib.hid (HR3.out.trans (hb4.mono HZ3.out)); have hz4 : w.heap.size < w4.heap.size := HZ4.out; obtain ⟨hc4, hf4⟩ := bcell hb4; clear hb4))
          go_ret
          exact ⟨rfl, HB0.out.trans (HR4.out.mono (Nat.le_succ _))⟩

theorem right_ret (c : CodeL) (B : Nat) (vi vp vk vg : Value) (hw : Few c) (hn : Nums c) (w : World) (hB : B ≤ w.heap.size) (hc : CodeAt w B c vi vp vk vg) :
    Calls Tryz.prog 14 #[.agg #[.string c.name, .int .i64 c.kind, .int .i64 c.len, .int .i64 c.regs, vi, vp, vk, vg]] w fun e w' => e = .returned (.bool (rightB c)) ∧ Below w.heap.size w w' := by
  have h1 := in_ret c.kind 0 255
  have h2 := in_ret c.len 0 1024
  have h3 := in_ret c.regs 0 4096
  cases hh : headB c with
  | false =>
    have e : rightB c = false := by unfold rightB; rw [hh]; rfl
    rw [e]
    exact right_no _ _ _ _ _ _ _ _ _ _ _ hh h1 h2 h3 w
  | true =>
    have hh' := hh
    unfold headB at hh'
    rw [Bool.and_eq_true, Bool.and_eq_true] at hh'
    obtain ⟨t1, t2, t3⟩ := hh'
    rw [t1] at h1
    rw [t2] at h2
    rw [t3] at h3
    have hr : 0 ≤ c.regs ∧ c.regs ≤ 4096 := by unfold inB at t3; simpa using t3
    have e : rightB c = ((c.pool.all fun v => valB v.k v.n v.s) && ((c.keys.all fun v => keyB v.k v.n v.s) && ((c.ins.all fun x => insB c x) && (c.guards.all fun x => guB c x)))) := by unfold rightB; rw [hh]; rfl
    rw [e]
    have hb0 : ∀ ob, Below w.heap.size w (w.alloc ob) := fun ob => (Below.refl _ _).alloc (Nat.le_refl _) _
    have hbW : ∀ ob W, Below (w.heap.size + 1) (w.alloc ob) W → Below w.heap.size w W := fun ob W h => (hb0 ob).trans (h.mono (by omega))
    obtain ⟨ai, ci, rfl⟩ := hc.ins.slice
    obtain ⟨ap, cp, rfl⟩ := hc.pool.slice
    obtain ⟨ak, ck, rfl⟩ := hc.keys.slice
    have i2 := hw.pool
    have i3 := hw.keys
    have hbox : ∀ W, Below (w.heap.size + 1) (w.alloc (.cells #[.string c.name, .int .i64 c.kind, .int .i64 c.len, .int .i64 c.regs, .slice ai (c.ins.map insC).length ci, .slice ap (c.pool.map valC).length cp, .slice ak (c.keys.map keyC).length ck, vg] 36)) W → Box W w.heap.size c (.slice ai (c.ins.map insC).length ci) (.slice ap (c.pool.map valC).length cp) (.slice ak (c.keys.map keyC).length ck) vg := fun W hW => by
      have q : ∀ o, W.cell? ⟨w.heap.size, o, none⟩ = (#[.string c.name, .int .i64 c.kind, .int .i64 c.len, .int .i64 c.regs, .slice ai (c.ins.map insC).length ci, .slice ap (c.pool.map valC).length cp, .slice ak (c.keys.map keyC).length ck, vg] : Array Value)[o]? := fun o => by
        rw [hW.cell (p := ⟨w.heap.size, o, none⟩) (by show w.heap.size < _; omega), Lib.cell_of_heap (heap_alloc_new w _)]
      exact ⟨q 0, q 1, q 2, q 3, q 4, q 5, q 6, q 7⟩
    refine right_yes c.name c.kind c.len c.regs ai _ ci ap _ cp ak _ ck vg _ _ _ _ hw.name (by rw [List.length_map]; exact i2) (by rw [List.length_map]; exact i3) w h1 h2 h3 (fun W hW => ?_) (fun W hW => ?_) (fun W hW => ?_) (fun W hW => ?_)
    · exact evV_ret c B _ _ _ _ hw W (Nat.le_trans hB (hbW _ W hW).size) (hc.below ((hbW _ W hW).mono hB))
    · exact evK_ret c B _ _ _ _ hw W (Nat.le_trans hB (hbW _ W hW).size) (hc.below ((hbW _ W hW).mono hB))
    · exact evI_ret _ c B _ _ _ _ hw hn hr.1 hr.2 W (Nat.le_trans hB (hbW _ W hW).size) (hc.below ((hbW _ W hW).mono hB)) (hbox W hW)
    · exact evG_ret _ c B _ _ _ _ hw hn hr.1 hr.2 W (Nat.le_trans hB (hbW _ W hW).size) (hc.below ((hbW _ W hW).mono hB)) (hbox W hW)

end Go.Proofs.YtnkidmnddkmilaaGreatDoor
