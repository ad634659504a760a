/-
  Which codes are right: the program.
  Which codes are right: the reference.
  Which codes are right: the reference's answer is the program's.
  The text of a code and of an image; what a builder's walk keeps.
  asm.Text.
-/
import Derived.Test.YtfngechoipngmaaGreatDoorAeTxt6
import Derived.Test.YtfngechoipngmaaGreatDoorAeTxt4
namespace Go.Proofs.YtfngechoipngmaaGreatDoor
open Go.RowKit
set_option maxRecDepth 100000

def inB (n lo hi : Int) : Bool := decide (lo ≤ n ∧ n ≤ hi)

theorem in_ret (n lo hi : Int) (w : World) : Calls Tryz.prog 30 #[.int .i64 n, .int .i64 lo, .int .i64 hi] w fun e w' => e = .returned (.bool (inB n lo hi)) ∧ w = w' := by
  by_cases h : lo ≤ n
  · go_enter Tryz.func30, Tryz.ntmps30
    go_wp2
    go_ret
    refine ⟨ret_bool ?_, rfl⟩
    unfold inB
    refine dec_of ?_
    simp [h]
  · have h' : decide (lo ≤ n) = false := by simpa using h
    have h2 : n < lo := by omega
    have HP := Lib.hid h
    clear h
    go_enter Tryz.func30, Tryz.ntmps30
    go_wp2
    go_ret
    refine ⟨ret_bool ?_, rfl⟩
    unfold inB
    refine dec_of ?_
    have := HP.out
    simp
    omega

/-- a code's head is right -/
def headB (c : CodeL) : Bool := inB c.kind 0 255 && (inB c.len 0 1024 && inB c.regs 0 4096)
/-- a code is right -/
def rightB (c : CodeL) : Bool := headB c && ((c.pool.all fun v => valB v.k v.n v.s) && ((c.keys.all fun v => keyB v.k v.n v.s) && ((c.ins.all fun x => insB c x) && (c.guards.all fun x => guB c x))))

set_option maxHeartbeats 4000000 in
theorem right_no (s : ByteArray) (k l r : Int) (vi vp vk vg : Value) (b1 b2 b3 : Bool) (hb : (b1 && (b2 && b3)) = false)
    (h1 : ∀ w, Calls Tryz.prog 30 #[.int .i64 k, .int .i64 0, .int .i64 255] w fun e w' => e = .returned (.bool b1) ∧ w = w')
    (h2 : ∀ w, Calls Tryz.prog 30 #[.int .i64 l, .int .i64 0, .int .i64 1024] w fun e w' => e = .returned (.bool b2) ∧ w = w')
    (h3 : ∀ w, Calls Tryz.prog 30 #[.int .i64 r, .int .i64 0, .int .i64 4096] w fun e w' => e = .returned (.bool b3) ∧ w = w') (w : World) :
    Calls Tryz.prog 15 #[.agg #[.string s, .int .i64 k, .int .i64 l, .int .i64 r, vi, vp, vk, vg]] w fun e w' => e = .returned (.bool false) ∧ Below w.heap.size w w' := by
  have hb0 : Below w.heap.size w (w.alloc (.cells #[.string s, .int .i64 k, .int .i64 l, .int .i64 r, vi, vp, vk, vg] 36)) := (Below.refl _ _).alloc (Nat.le_refl _) _
  have H1 := Lib.hid h1
  have H2 := Lib.hid h2
  have H3 := Lib.hid h3
  clear h1 h2 h3
  cases b1
  · go_enter Tryz.func15, Tryz.ntmps15
    go_wp2_with (go_at_call 30; ((with_reducible refine (H1.out _).mono ?_); rintro e w' ⟨rfl, rfl⟩))
    go_ret
    exact ⟨rfl, hb0⟩
  · cases b2
    · go_enter Tryz.func15, Tryz.ntmps15
      go_wp2_with (go_at_call 30; (first | ((with_reducible refine (H1.out _).mono ?_); rintro e w' ⟨rfl, rfl⟩) | ((with_reducible refine (H2.out _).mono ?_); rintro e w' ⟨rfl, rfl⟩)))
      go_ret
      exact ⟨rfl, hb0⟩
    · cases b3
      · go_enter Tryz.func15, Tryz.ntmps15
        go_wp2_with (go_at_call 30; (first | ((with_reducible refine (H1.out _).mono ?_); rintro e w' ⟨rfl, rfl⟩) | ((with_reducible refine (H2.out _).mono ?_); rintro e w' ⟨rfl, rfl⟩) | ((with_reducible refine (H3.out _).mono ?_); rintro e w' ⟨rfl, rfl⟩)))
        go_ret
        exact ⟨rfl, hb0⟩
      · cases hb

set_option maxHeartbeats 4000000 in
theorem right_yes (s : ByteArray) (k l r : Int) (ai : Option Addr) (li ci : Nat) (ap : Option Addr) (lp cp : Nat) (ak : Option Addr) (lk ck : Nat) (vg : Value) (a1 a2 a3 a4 : Bool) (hs : s.size ≤ 65536) (hlp : lp ≤ 65536) (hlk : lk ≤ 65536) (w : World)
    (h1 : ∀ w, Calls Tryz.prog 30 #[.int .i64 k, .int .i64 0, .int .i64 255] w fun e w' => e = .returned (.bool true) ∧ w = w')
    (h2 : ∀ w, Calls Tryz.prog 30 #[.int .i64 l, .int .i64 0, .int .i64 1024] w fun e w' => e = .returned (.bool true) ∧ w = w')
    (h3 : ∀ w, Calls Tryz.prog 30 #[.int .i64 r, .int .i64 0, .int .i64 4096] w fun e w' => e = .returned (.bool true) ∧ w = w')
    (e1 : ∀ W, Below (w.heap.size + 1) (w.alloc (.cells #[.string s, .int .i64 k, .int .i64 l, .int .i64 r, .slice ai li ci, .slice ap lp cp, .slice ak lk ck, vg] 36)) W → Calls Tryz.prog 31 #[.slice ap lp cp, .func (.func 32) #[] #[]] W fun e w' => e = .returned (.bool a1) ∧ Below W.heap.size W w')
    (e2 : ∀ W, Below (w.heap.size + 1) (w.alloc (.cells #[.string s, .int .i64 k, .int .i64 l, .int .i64 r, .slice ai li ci, .slice ap lp cp, .slice ak lk ck, vg] 36)) W → Calls Tryz.prog 33 #[.slice ak lk ck, .func (.func 34) #[] #[]] W fun e w' => e = .returned (.bool a2) ∧ Below W.heap.size W w')
    (e3 : ∀ W, Below (w.heap.size + 1) (w.alloc (.cells #[.string s, .int .i64 k, .int .i64 l, .int .i64 r, .slice ai li ci, .slice ap lp cp, .slice ak lk ck, vg] 36)) W → Calls Tryz.prog 35 #[.slice ai li ci, .func (.func 36) #[] #[.pointer (some ⟨w.heap.size, 0, none⟩)]] W fun e w' => e = .returned (.bool a3) ∧ Below W.heap.size W w')
    (e4 : ∀ W, Below (w.heap.size + 1) (w.alloc (.cells #[.string s, .int .i64 k, .int .i64 l, .int .i64 r, .slice ai li ci, .slice ap lp cp, .slice ak lk ck, vg] 36)) W → Calls Tryz.prog 38 #[vg, .func (.func 39) #[] #[.pointer (some ⟨w.heap.size, 0, none⟩)]] W fun e w' => e = .returned (.bool a4) ∧ Below W.heap.size W w') :
    Calls Tryz.prog 15 #[.agg #[.string s, .int .i64 k, .int .i64 l, .int .i64 r, .slice ai li ci, .slice ap lp cp, .slice ak lk ck, vg]] w fun e w' => e = .returned (.bool (a1 && (a2 && (a3 && a4)))) ∧ Below w.heap.size w w' := by
  have hb0 : Below w.heap.size w (w.alloc (.cells #[.string s, .int .i64 k, .int .i64 l, .int .i64 r, .slice ai li ci, .slice ap lp cp, .slice ak lk ck, vg] 36)) := (Below.refl _ _).alloc (Nat.le_refl _) _
  have hr0 : Below (w.heap.size + 1) (w.alloc (.cells #[.string s, .int .i64 k, .int .i64 l, .int .i64 r, .slice ai li ci, .slice ap lp cp, .slice ak lk ck, vg] 36)) (w.alloc (.cells #[.string s, .int .i64 k, .int .i64 l, .int .i64 r, .slice ai li ci, .slice ap lp cp, .slice ak lk ck, vg] 36)) := Below.refl _ _
  have hz0 : w.heap.size + 1 ≤ (w.alloc (.cells #[.string s, .int .i64 k, .int .i64 l, .int .i64 r, .slice ai li ci, .slice ap lp cp, .slice ak lk ck, vg] 36)).heap.size := by simp
  have HB0 := Lib.hid hb0
  have HR0 := Lib.hid hr0
  have HZ0 := Lib.hid hz0
  have H1 := Lib.hid h1
  have H2 := Lib.hid h2
  have H3 := Lib.hid h3
  have E1 := Lib.hid e1
  have E2 := Lib.hid e2
  have E3 := Lib.hid e3
  have E4 := Lib.hid e4
  clear h1 h2 h3 e1 e2 e3 e4 hb0 hr0 hz0
  have hs' : (s.size : Int) ≤ 65536 := by omega
  have hlp' : (lp : Int) ≤ 65536 := by omega
  have hlk' : (lk : Int) ≤ 65536 := by omega
  cases a1
  · go_enter Tryz.func15, Tryz.ntmps15
    go_wp2_with (first
      | (go_at_call 30; (first | ((with_reducible refine (H1.out _).mono ?_); rintro e w' ⟨rfl, rfl⟩) | ((with_reducible refine (H2.out _).mono ?_); rintro e w' ⟨rfl, rfl⟩) | ((with_reducible refine (H3.out _).mono ?_); rintro e w' ⟨rfl, rfl⟩)))
      | (go_at_call 31; ((with_reducible refine (E1.out _ HR0.out).mono ?_); rintro e w1 ⟨rfl, hb1⟩; have HZ1 := Lib.hid (Nat.le_trans HZ0.out hb1.size); have HR1 := Lib.hid (HR0.out.trans (hb1.mono HZ0.out)); have hz1 : w.heap.size < w1.heap.size := HZ1.out; obtain ⟨hc1, hf1⟩ := bcell hb1; clear hb1)))
    go_ret
    exact ⟨rfl, HB0.out.trans (HR1.out.mono (Nat.le_succ _))⟩
  · cases a2
    · go_enter Tryz.func15, Tryz.ntmps15
      go_wp2_with (first
        | (go_at_call 30; (first | ((with_reducible refine (H1.out _).mono ?_); rintro e w' ⟨rfl, rfl⟩) | ((with_reducible refine (H2.out _).mono ?_); rintro e w' ⟨rfl, rfl⟩) | ((with_reducible refine (H3.out _).mono ?_); rintro e w' ⟨rfl, rfl⟩)))
        | (go_at_call 31; ((with_reducible refine (E1.out _ HR0.out).mono ?_); rintro e w1 ⟨rfl, hb1⟩; have HZ1 := Lib.hid (Nat.le_trans HZ0.out hb1.size); have HR1 := Lib.hid (HR0.out.trans (hb1.mono HZ0.out)); have hz1 : w.heap.size < w1.heap.size := HZ1.out; obtain ⟨hc1, hf1⟩ := bcell hb1; clear hb1)))
      go_wp2_with (go_at_call 33; ((with_reducible refine (E2.out _ HR1.out).mono ?_); rintro e w2 ⟨rfl, hb2⟩; have HZ2 := Lib.hid (Nat.le_trans HZ1.out hb2.size); have HR2 := Lib.hid (HR1.out.trans (hb2.mono HZ1.out)); have hz2 : w.heap.size < w2.heap.size := HZ2.out; obtain ⟨hc2, hf2⟩ := bcell hb2; clear hb2))
      go_ret
      exact ⟨rfl, HB0.out.trans (HR2.out.mono (Nat.le_succ _))⟩
    · cases a3
      · go_enter Tryz.func15, Tryz.ntmps15
        go_wp2_with (first
          | (go_at_call 30; (first | ((with_reducible refine (H1.out _).mono ?_); rintro e w' ⟨rfl, rfl⟩) | ((with_reducible refine (H2.out _).mono ?_); rintro e w' ⟨rfl, rfl⟩) | ((with_reducible refine (H3.out _).mono ?_); rintro e w' ⟨rfl, rfl⟩)))
          | (go_at_call 31; ((with_reducible refine (E1.out _ HR0.out).mono ?_); rintro e w1 ⟨rfl, hb1⟩; have HZ1 := Lib.hid (Nat.le_trans HZ0.out hb1.size); have HR1 := Lib.hid (HR0.out.trans (hb1.mono HZ0.out)); have hz1 : w.heap.size < w1.heap.size := HZ1.out; obtain ⟨hc1, hf1⟩ := bcell hb1; clear hb1)))
        go_wp2_with (go_at_call 33; ((with_reducible refine (E2.out _ HR1.out).mono ?_); rintro e w2 ⟨rfl, hb2⟩; have HZ2 := Lib.hid (Nat.le_trans HZ1.out hb2.size); have HR2 := Lib.hid (HR1.out.trans (hb2.mono HZ1.out)); have hz2 : w.heap.size < w2.heap.size := HZ2.out; obtain ⟨hc2, hf2⟩ := bcell hb2; clear hb2))
        go_wp2_with (go_at_call 35; ((with_reducible refine (E3.out _ HR2.out).mono ?_); rintro e w3 ⟨rfl, hb3⟩; have HZ3 := Lib.hid (Nat.le_trans HZ2.out hb3.size); have HR3 := Lib.hid (HR2.out.trans (hb3.mono HZ2.out)); have hz3 : w.heap.size < w3.heap.size := HZ3.out; obtain ⟨hc3, hf3⟩ := bcell hb3; clear hb3))
        go_ret
        exact ⟨rfl, HB0.out.trans (HR3.out.mono (Nat.le_succ _))⟩
      · cases a4
        · go_enter Tryz.func15, Tryz.ntmps15
          go_wp2_with (first
            | (go_at_call 30; (first | ((with_reducible refine (H1.out _).mono ?_); rintro e w' ⟨rfl, rfl⟩) | ((with_reducible refine (H2.out _).mono ?_); rintro e w' ⟨rfl, rfl⟩) | ((with_reducible refine (H3.out _).mono ?_); rintro e w' ⟨rfl, rfl⟩)))
            | (go_at_call 31; ((with_reducible refine (E1.out _ HR0.out).mono ?_); rintro e w1 ⟨rfl, hb1⟩; have HZ1 := Lib.hid (Nat.le_trans HZ0.out hb1.size); have HR1 := Lib.hid (HR0.out.trans (hb1.mono HZ0.out)); have hz1 : w.heap.size < w1.heap.size := HZ1.out; obtain ⟨hc1, hf1⟩ := bcell hb1; clear hb1)))
          go_wp2_with (go_at_call 33; ((with_reducible refine (E2.out _ HR1.out).mono ?_); rintro e w2 ⟨rfl, hb2⟩; have HZ2 := Lib.hid (Nat.le_trans HZ1.out hb2.size); have HR2 := Lib.hid (HR1.out.trans (hb2.mono HZ1.out)); have hz2 : w.heap.size < w2.heap.size := HZ2.out; obtain ⟨hc2, hf2⟩ := bcell hb2; clear hb2))
          go_wp2_with (go_at_call 35; ((with_reducible refine (E3.out _ HR2.out).mono ?_); rintro e w3 ⟨rfl, hb3⟩; have HZ3 := Lib.hid (Nat.le_trans HZ2.out hb3.size); have HR3 := Lib.hid (HR2.out.trans (hb3.mono HZ2.out)); have hz3 : w.heap.size < w3.heap.size := HZ3.out; obtain ⟨hc3, hf3⟩ := bcell hb3; clear hb3))
          go_wp2_with (go_at_call 38; ((with_reducible refine (E4.out _ HR3.out).mono ?_); rintro e w4 ⟨rfl, hb4⟩; have HZ4 := Lib.hid (Nat.le_trans HZ3.out hb4.size); have HR4 := Lib.hid (HR3.out.trans (hb4.mono HZ3.out)); have hz4 : w.heap.size < w4.heap.size := HZ4.out; obtain ⟨hc4, hf4⟩ := bcell hb4; clear hb4))
          go_ret
          exact ⟨rfl, HB0.out.trans (HR4.out.mono (Nat.le_succ _))⟩
        · go_enter Tryz.func15, Tryz.ntmps15
          go_wp2_with (first
            | (go_at_call 30; (first | ((with_reducible refine (H1.out _).mono ?_); rintro e w' ⟨rfl, rfl⟩) | ((with_reducible refine (H2.out _).mono ?_); rintro e w' ⟨rfl, rfl⟩) | ((with_reducible refine (H3.out _).mono ?_); rintro e w' ⟨rfl, rfl⟩)))
            | (go_at_call 31; ((with_reducible refine (E1.out _ HR0.out).mono ?_); rintro e w1 ⟨rfl, hb1⟩; have HZ1 := Lib.hid (Nat.le_trans HZ0.out hb1.size); have HR1 := Lib.hid (HR0.out.trans (hb1.mono HZ0.out)); have hz1 : w.heap.size < w1.heap.size := HZ1.out; obtain ⟨hc1, hf1⟩ := bcell hb1; clear hb1)))
          go_wp2_with (go_at_call 33; ((with_reducible refine (E2.out _ HR1.out).mono ?_); rintro e w2 ⟨rfl, hb2⟩; have HZ2 := Lib.hid (Nat.le_trans HZ1.out hb2.size); have HR2 := Lib.hid (HR1.out.trans (hb2.mono HZ1.out)); have hz2 : w.heap.size < w2.heap.size := HZ2.out; obtain ⟨hc2, hf2⟩ := bcell hb2; clear hb2))
          go_wp2_with (go_at_call 35; ((with_reducible refine (E3.out _ HR2.out).mono ?_); rintro e w3 ⟨rfl, hb3⟩; have HZ3 := Lib.hid (Nat.le_trans HZ2.out hb3.size); have HR3 := Lib.hid (HR2.out.trans (hb3.mono HZ2.out)); have hz3 : w.heap.size < w3.heap.size := HZ3.out; obtain ⟨hc3, hf3⟩ := bcell hb3; clear hb3))
          go_wp2_with (go_at_call 38; ((with_reducible refine (E4.out _ HR3.out).mono ?_); rintro e w4 ⟨rfl, hb4⟩; have HZ4 := Lib.hid (Nat.le_trans HZ3.out hb4.size); have HR4 := Lib.hid (HR3.out.trans (hb4.mono HZ3.out)); have hz4 : w.heap.size < w4.heap.size := HZ4.out; obtain ⟨hc4, hf4⟩ := bcell hb4; clear hb4))
          go_ret
          exact ⟨rfl, HB0.out.trans (HR4.out.mono (Nat.le_succ _))⟩

theorem right_ret (c : CodeL) (B : Nat) (vi vp vk vg : Value) (hw : Few c) (hn : Nums c) (w : World) (hB : B ≤ w.heap.size) (hc : CodeAt w B c vi vp vk vg) :
    Calls Tryz.prog 15 #[.agg #[.string c.name, .int .i64 c.kind, .int .i64 c.len, .int .i64 c.regs, vi, vp, vk, vg]] w fun e w' => e = .returned (.bool (rightB c)) ∧ Below w.heap.size w w' := by
  have h1 := in_ret c.kind 0 255
  have h2 := in_ret c.len 0 1024
  have h3 := in_ret c.regs 0 4096
  cases hh : headB c with
  | false =>
    have e : rightB c = false := by unfold rightB; rw [hh]; rfl
    rw [e]
    exact right_no _ _ _ _ _ _ _ _ _ _ _ hh h1 h2 h3 w
  | true =>
    have hh' := hh
    unfold headB at hh'
    rw [Bool.and_eq_true, Bool.and_eq_true] at hh'
    obtain ⟨t1, t2, t3⟩ := hh'
    rw [t1] at h1
    rw [t2] at h2
    rw [t3] at h3
    have hr : 0 ≤ c.regs ∧ c.regs ≤ 4096 := by unfold inB at t3; simpa using t3
    have e : rightB c = ((c.pool.all fun v => valB v.k v.n v.s) && ((c.keys.all fun v => keyB v.k v.n v.s) && ((c.ins.all fun x => insB c x) && (c.guards.all fun x => guB c x)))) := by unfold rightB; rw [hh]; rfl
    rw [e]
    have hb0 : ∀ ob, Below w.heap.size w (w.alloc ob) := fun ob => (Below.refl _ _).alloc (Nat.le_refl _) _
    have hbW : ∀ ob W, Below (w.heap.size + 1) (w.alloc ob) W → Below w.heap.size w W := fun ob W h => (hb0 ob).trans (h.mono (by omega))
    obtain ⟨ai, ci, rfl⟩ := hc.ins.slice
    obtain ⟨ap, cp, rfl⟩ := hc.pool.slice
    obtain ⟨ak, ck, rfl⟩ := hc.keys.slice
    have i2 := hw.pool
    have i3 := hw.keys
    have hbox : ∀ W, Below (w.heap.size + 1) (w.alloc (.cells #[.string c.name, .int .i64 c.kind, .int .i64 c.len, .int .i64 c.regs, .slice ai (c.ins.map insC).length ci, .slice ap (c.pool.map valC).length cp, .slice ak (c.keys.map keyC).length ck, vg] 36)) W → Box W w.heap.size c (.slice ai (c.ins.map insC).length ci) (.slice ap (c.pool.map valC).length cp) (.slice ak (c.keys.map keyC).length ck) vg := fun W hW => by
      have q : ∀ o, W.cell? ⟨w.heap.size, o, none⟩ = (#[.string c.name, .int .i64 c.kind, .int .i64 c.len, .int .i64 c.regs, .slice ai (c.ins.map insC).length ci, .slice ap (c.pool.map valC).length cp, .slice ak (c.keys.map keyC).length ck, vg] : Array Value)[o]? := fun o => by
        rw [hW.cell (p := ⟨w.heap.size, o, none⟩) (by show w.heap.size < _; omega), Lib.cell_of_heap (heap_alloc_new w _)]
      exact ⟨q 0, q 1, q 2, q 3, q 4, q 5, q 6, q 7⟩
    refine right_yes c.name c.kind c.len c.regs ai _ ci ap _ cp ak _ ck vg _ _ _ _ hw.name (by rw [List.length_map]; exact i2) (by rw [List.length_map]; exact i3) w h1 h2 h3 (fun W hW => ?_) (fun W hW => ?_) (fun W hW => ?_) (fun W hW => ?_)
    · exact evV_ret c B _ _ _ _ hw W (Nat.le_trans hB (hbW _ W hW).size) (hc.below ((hbW _ W hW).mono hB))
    · exact evK_ret c B _ _ _ _ hw W (Nat.le_trans hB (hbW _ W hW).size) (hc.below ((hbW _ W hW).mono hB))
    · exact evI_ret _ c B _ _ _ _ hw hn hr.1 hr.2 W (Nat.le_trans hB (hbW _ W hW).size) (hc.below ((hbW _ W hW).mono hB)) (hbox W hW)
    · exact evG_ret _ c B _ _ _ _ hw hn hr.1 hr.2 W (Nat.le_trans hB (hbW _ W hW).size) (hc.below ((hbW _ W hW).mono hB)) (hbox W hW)

end Go.Proofs.YtfngechoipngmaaGreatDoor

namespace Go.Proofs.YtfngechoipngmaaGreatDoor
open Go.RowKit
set_option maxRecDepth 100000

end Go.Proofs.YtfngechoipngmaaGreatDoor

namespace Go.Proofs.YtfngechoipngmaaGreatDoor
open Go.RowKit
set_option maxRecDepth 100000

end Go.Proofs.YtfngechoipngmaaGreatDoor

namespace Go.Proofs.YtfngechoipngmaaGreatDoor
open Go.RowKit
set_option maxRecDepth 100000

def poolS (v : ValL) : List UInt8 := ([99, 111, 110, 115, 116, 32] ++ constL v) ++ [10]
def keyS (v : KeyL) : List UInt8 := ([107, 101, 121, 32] ++ keyL v) ++ [10]
def insS (x : InsL) : List UInt8 := lineL x ++ [10]
def guS (x : GuL) : List UInt8 := guardL x.f x.t x.g x.r ++ [10]
def headS (c : CodeL) : List UInt8 := headL c.name.data.toList c.kind c.len c.regs ++ [10]
def codeT (c : CodeL) : List UInt8 := headS c ++ c.pool.flatMap poolS ++ c.keys.flatMap keyS ++ c.ins.flatMap insS ++ c.guards.flatMap guS ++ [101, 110, 100, 10]
/-! Sizes. -/

theorem flat_len {X : Type} (f : X → List UInt8) (M : Nat) : ∀ l : List X, (∀ x ∈ l, (f x).length ≤ M) → (l.flatMap f).length ≤ M * l.length := by
  intro l
  induction l with
  | nil => intro _; simp
  | cons x r ih =>
    intro h
    have h1 := h x (by simp)
    have h2 := ih (fun y hy => h y (by simp [hy]))
    simp only [List.flatMap_cons, List.length_append, List.length_cons, Nat.mul_add, Nat.mul_one]
    omega

theorem itoa_len (n : Int) (h : inI n) : (Lib.itoa n).length ≤ 21 := by have := itoa_size n h; rwa [bs_size] at this

theorem quote_len2 (s : ByteArray) (h : s.size ≤ 65536) : (quoteL s.data.toList).length ≤ 330000 := by have := quote_size s h; rwa [bs_size] at this

theorem const_len (v : ValL) (hn : inI v.n) (hs : v.s.size ≤ 65536) : (constL v).length ≤ 330000 := by
  have h1 := itoa_len v.n hn
  have h2 := quote_len2 v.s hs
  unfold constL
  repeat' split
  all_goals simp <;> omega

theorem key_len (v : KeyL) (hn : inI v.n) (hs : v.s.size ≤ 65536) : (keyL v).length ≤ 330000 := by
  have h1 := itoa_len v.n hn
  have h2 := quote_len2 v.s hs
  unfold keyL
  repeat' split
  all_goals (try simp) <;> omega

theorem guard_len (x : GuL) (h : inI x.f ∧ inI x.t ∧ inI x.g ∧ inI x.r) : (guardL x.f x.t x.g x.r).length ≤ 330000 := by
  have h1 := itoa_len x.f h.1
  have h2 := itoa_len x.t h.2.1
  have h3 := itoa_len x.g h.2.2.1
  have h4 := itoa_len x.r h.2.2.2
  unfold guardL
  simp only [List.length_append, List.length_cons, List.length_nil]
  omega

theorem head_len (c : CodeL) (hw : Few c) (hn : Nums c) : (headL c.name.data.toList c.kind c.len c.regs).length ≤ 330200 := by
  have h1 := itoa_len c.kind hn.kind
  have h2 := itoa_len c.len hn.len
  have h3 := itoa_len c.regs hn.regs
  have h4 := quote_len2 c.name hw.name
  unfold headL
  simp only [List.length_append, List.length_cons, List.length_nil]
  omega

theorem poolT_len (c : CodeL) (hw : Few c) (hn : Nums c) (k : Nat) : ((c.pool.take k).flatMap poolS).length ≤ 330010 * 65536 := by
  have := flat_len poolS 330010 (c.pool.take k) (fun x hx => by
    have hx := List.mem_of_mem_take hx
    have := const_len x (hn.pool x hx).2 (hw.vs x hx)
    unfold poolS
    simp only [List.length_append, List.length_cons, List.length_nil]
    omega)
  have h2 : (c.pool.take k).length ≤ c.pool.length := by rw [List.length_take]; omega
  have h3 := hw.pool
  exact Nat.le_trans this (Nat.mul_le_mul_left _ (Nat.le_trans h2 h3))

theorem keysT_len (c : CodeL) (hw : Few c) (hn : Nums c) (k : Nat) : ((c.keys.take k).flatMap keyS).length ≤ 330010 * 65536 := by
  have := flat_len keyS 330010 (c.keys.take k) (fun x hx => by
    have hx := List.mem_of_mem_take hx
    have := key_len x (hn.keys x hx).2 (hw.ks x hx)
    unfold keyS
    simp only [List.length_append, List.length_cons, List.length_nil]
    omega)
  have h2 : (c.keys.take k).length ≤ c.keys.length := by rw [List.length_take]; omega
  have h3 := hw.keys
  exact Nat.le_trans this (Nat.mul_le_mul_left _ (Nat.le_trans h2 h3))

theorem insT_len (c : CodeL) (hw : Few c) (hn : Nums c) (k : Nat) : ((c.ins.take k).flatMap insS).length ≤ 330010 * 65536 := by
  have := flat_len insS 330010 (c.ins.take k) (fun x hx => by
    have hx := List.mem_of_mem_take hx
    obtain ⟨_, h1, h2, h3⟩ := hn.ins x hx
    have := line_len x h1 h2 h3
    unfold insS
    simp only [List.length_append, List.length_cons, List.length_nil]
    omega)
  have h2 : (c.ins.take k).length ≤ c.ins.length := by rw [List.length_take]; omega
  have h3 := hw.ins
  exact Nat.le_trans this (Nat.mul_le_mul_left _ (Nat.le_trans h2 h3))

theorem gusT_len (c : CodeL) (hw : Few c) (hn : Nums c) (k : Nat) : ((c.guards.take k).flatMap guS).length ≤ 330010 * 65536 := by
  have := flat_len guS 330010 (c.guards.take k) (fun x hx => by
    have hx := List.mem_of_mem_take hx
    have := guard_len x (hn.guards x hx)
    unfold guS
    simp only [List.length_append, List.length_cons, List.length_nil]
    omega)
  have h2 : (c.guards.take k).length ≤ c.guards.length := by rw [List.length_take]; omega
  have h3 := hw.guards
  exact Nat.le_trans this (Nat.mul_le_mul_left _ (Nat.le_trans h2 h3))

theorem headS_len (c : CodeL) (hw : Few c) (hn : Nums c) : (headS c).length ≤ 330201 := by
  have := head_len c hw hn
  unfold headS
  simp only [List.length_append, List.length_cons, List.length_nil]
  omega

theorem take_all {X : Type} (l : List X) : l.take l.length = l := List.take_length

theorem code_len (c : CodeL) (hw : Few c) (hn : Nums c) : (codeT c).length ≤ 105700000000 := by
  have h0 := headS_len c hw hn
  have h1 := poolT_len c hw hn c.pool.length
  have h2 := keysT_len c hw hn c.keys.length
  have h3 := insT_len c hw hn c.ins.length
  have h4 := gusT_len c hw hn c.guards.length
  rw [take_all] at h1 h2 h3 h4
  unfold codeT
  simp only [List.length_append, List.length_cons, List.length_nil]
  omega

/-! One more. -/

theorem take_flat {X : Type} (f : X → List UInt8) (l : List X) (k : Nat) (h : k < l.length) : (l.take (k + 1)).flatMap f = (l.take k).flatMap f ++ f l[k] := by
  rw [List.take_succ_eq_append_getElem h, List.flatMap_append]
  simp

/-! Right codes. -/

theorem right_parts {c : CodeL} (h : rightB c = true) : (∀ v ∈ c.pool, okK v.k v.n) ∧ (∀ v ∈ c.keys, v.k = 0 ∨ v.k = 1 ∨ v.k = 2) ∧ (∀ x ∈ c.ins, 0 ≤ x.op ∧ x.op < 55) := by
  unfold rightB at h
  simp only [Bool.and_eq_true, List.all_eq_true] at h
  obtain ⟨_, h1, h2, h3, _⟩ := h
  refine ⟨fun v hv => ?_, fun v hv => ?_, fun x hx => ?_⟩
  · have := h1 v hv
    unfold valB at this
    rw [decide_eq_true_eq] at this
    unfold ValOk at this
    unfold okK
    omega
  · have := h2 v hv
    unfold keyB at this
    rw [decide_eq_true_eq] at this
    unfold KeyOk at this
    omega
  · have := h3 x hx
    unfold insB at this
    split at this
    · cases this
    · omega

/-! What the walk keeps. -/

theorem Bd.below {B b : Nat} {l : List UInt8} {w w' : World} (h : Bd B b l w) (hb : Below w.heap.size w w') : Bd B b l w' := by
  refine ⟨?_, Nat.le_trans h.size hb.size⟩
  have key : ∀ p, Lib.BuilderAt 51 5 B b p (Lib.byteCells l) w → Lib.BuilderAt 51 5 B b p (Lib.byteCells l) w' := by
    intro p hp
    have hlt := hp.lt
    obtain ⟨hB, v, hbk, hown, hne⟩ := hp
    refine ⟨hB, v, by rw [hb.block b hlt]; exact hbk, ?_, hne⟩
    refine ⟨hown.1, ?_⟩
    rcases hown.2 with h0 | ⟨g, cap, cur, e, h1, h2, h3⟩
    · exact Or.inl h0
    · have hg : g < w.heap.size := by
        rcases Nat.lt_or_ge g w.heap.size with h' | h'
        · exact h'
        · simp [Array.getElem?_eq_none h'] at h2
      exact Or.inr ⟨g, cap, cur, e, h1, by rw [hb.block g hg]; exact h2, h3⟩
  rcases h.is with h | h
  · exact Or.inl (key _ h)
  · exact Or.inr (key _ h)

/-- the state of a round -/
structure TX (w0 : World) (b cb : Nat) (bx : Array Value) (l : List UInt8) (w : World) : Prop where
  bd : Bd w0.heap.size b l w
  bel : Below w0.heap.size w0 w
  box : w.heap[cb]? = some (.cells bx 36 (0, 0))
  ne : cb ≠ b

theorem TX.below {w0 w w' : World} {b cb : Nat} {bx : Array Value} {l : List UInt8} (h : TX w0 b cb bx l w) (hb : Below w.heap.size w w') : TX w0 b cb bx l w' := by
  have hlt : cb < w.heap.size := by
    have := h.box
    rcases Nat.lt_or_ge cb w.heap.size with h' | h'
    · exact h'
    · simp [Array.getElem?_eq_none h'] at this
  exact ⟨h.bd.below hb, h.bel.trans (hb.mono h.bel.size), by rw [hb.block cb hlt]; exact h.box, h.ne⟩

theorem TX.alloc {w0 w : World} {b cb : Nat} {bx : Array Value} {l : List UInt8} (h : TX w0 b cb bx l w) (ob : Obj) : TX w0 b cb bx l (w.alloc ob) :=
  h.below ((Below.refl _ _).alloc (Nat.le_refl _) _)

theorem TX.cell {w0 w : World} {b cb : Nat} {bx : Array Value} {l : List UInt8} (h : TX w0 b cb bx l w) (o : Nat) : w.cell? ⟨cb, o, none⟩ = bx[o]? := Lib.cell_of_heap h.box o

theorem TX.frozen {w0 w : World} {b cb : Nat} {bx : Array Value} {l : List UInt8} (h : TX w0 b cb bx l w) (o : Nat) : w.frozen? ⟨cb, o, none⟩ = false := Lib.frozen_of_heap h.box o

/-- asm.Text$1 -/
theorem say_ret (w0 : World) (b cb : Nat) (bx : Array Value) (l s : List UInt8) (w : World) (h : TX w0 b cb bx l w) (hl : l.length + s.length ≤ 140000000000000) :
    Calls Tryz.prog 13 #[.string (bs s), .pointer (some ⟨b, 0, none⟩)] w fun e w' => e = .returned (.tuple #[]) ∧ TX w0 b cb bx (l ++ (s ++ [10])) w' := by
  have hsz : ¬ (9223372036854775807 < (bs s).size + 1) := by rw [bs_size]; omega
  have hws := wsB_ret w0.heap.size b l (bs s ++ bs [10]) w h.bd (by rw [ByteArray.size_append, bs_size, bs_size]; simp; omega)
  have HS : Hid ((bs s ++ bs [10]).data.toList = s ++ [10]) := Lib.hid (by rw [bs_append, bs_data])
  rw [HS.out] at hws
  have HW := Lib.hid hws
  clear hws
  have H := Lib.hid h
  clear h
  go_enter Tryz.func13, Tryz.ntmps13
  go_wp2_with (go_at_call 14; refine HW.out.mono ?_; rintro e w1 ⟨rfl, h1, hb1, hs1⟩)
  go_end0
  exact ⟨rfl, ⟨h1, H.out.bel.trans hb1, hs1 _ _ _ _ H.out.ne (by decide) H.out.box, H.out.ne⟩⟩

end Go.Proofs.YtfngechoipngmaaGreatDoor

namespace Go.Proofs.YtfngechoipngmaaGreatDoor
open Go.RowKit
set_option maxRecDepth 100000

/-- a code and where its slices lie -/
structure CodeV where
  c : CodeL
  vi : Value
  vp : Value
  vk : Value
  vg : Value

def codeC (x : CodeV) : List Value := [.string x.c.name, .int .i64 x.c.kind, .int .i64 x.c.len, .int .i64 x.c.regs, x.vi, x.vp, x.vk, x.vg]
def codeA (x : CodeV) : Array Value := #[.string x.c.name, .int .i64 x.c.kind, .int .i64 x.c.len, .int .i64 x.c.regs, x.vi, x.vp, x.vk, x.vg]

/-- an image in memory -/
structure Img (w : World) (B : Nat) (v : Value) (xs : List CodeV) : Prop where
  sl : SlAt w B 8 v (xs.map codeC)
  codes : ∀ x ∈ xs, CodeAt w B x.c x.vi x.vp x.vk x.vg
  few : ∀ x ∈ xs, Few x.c
  nums : ∀ x ∈ xs, Nums x.c

theorem Img.below {w w' : World} {B : Nat} {v : Value} {xs : List CodeV} (h : Img w B v xs) (hb : Below B w w') : Img w' B v xs :=
  ⟨h.sl.below hb, fun x hx => (h.codes x hx).below hb, h.few, h.nums⟩

def txt (xs : List CodeV) : List UInt8 := xs.flatMap fun x => codeT x.c

/-- the answer -/
def textV (xs : List CodeV) : Value := if xs.all (fun x => rightB x.c) then .tuple #[.string (bs (txt xs)), .int .i64 0] else .tuple #[.string ⟨#[]⟩, .int .i64 7]

theorem bd_new2 (w : World) (v : Value) : Bd w.heap.size (w.heap.size + 1) [] ((w.alloc (.cells #[v] 24)).alloc (.cells #[.pointer none, .slice none 0 0] 51)) := by
  have h := bd_new (w.alloc (.cells #[v] 24))
  have e : (w.alloc (.cells #[v] 24)).heap.size = w.heap.size + 1 := by simp
  rw [e] at h
  refine ⟨?_, Nat.le_trans (Nat.le_succ _) h.size⟩
  have key : ∀ p W, Lib.BuilderAt 51 5 (w.heap.size + 1) (w.heap.size + 1) p (Lib.byteCells []) W → Lib.BuilderAt 51 5 w.heap.size (w.heap.size + 1) p (Lib.byteCells []) W := by
    intro p W ⟨h1, v, h2, h3, h4⟩
    refine ⟨Nat.le_succ _, v, h2, ⟨h3.1, ?_⟩, h4⟩
    rcases h3.2 with h | ⟨g, cap, cur, e, h1, h2⟩
    · exact Or.inl h
    · exact Or.inr ⟨g, cap, cur, e, by omega, h2⟩
  rcases h.is with h | h
  · exact Or.inl (key _ _ h)
  · exact Or.inr (key _ _ h)

theorem textV_no {xs : List CodeV} (x : CodeV) (hx : x ∈ xs) (hr : rightB x.c = false) : textV xs = .tuple #[.string ⟨#[]⟩, .int .i64 7] := by
  unfold textV
  rw [if_neg]
  intro h
  rw [List.all_eq_true] at h
  rw [h x hx] at hr
  cases hr

theorem textV_yes {xs : List CodeV} (h : ∀ j (h : j < xs.length), rightB xs[j].c = true) : textV xs = .tuple #[.string (bs (txt xs)), .int .i64 0] := by
  unfold textV
  rw [if_pos]
  rw [List.all_eq_true]
  intro x hx
  obtain ⟨j, hj, rfl⟩ := List.getElem_of_mem hx
  exact h j hj

theorem txt_len (xs : List CodeV) (hl : xs.length ≤ 1200) (hw : ∀ x ∈ xs, Few x.c) (hn : ∀ x ∈ xs, Nums x.c) (k : Nat) : (txt (xs.take k)).length ≤ 126840000000000 := by
  have := flat_len (fun x : CodeV => codeT x.c) 105700000000 (xs.take k) (fun x hx => by
    have hx := List.mem_of_mem_take hx
    exact code_len x.c (hw x hx) (hn x hx))
  have h2 : (xs.take k).length ≤ xs.length := by rw [List.length_take]; omega
  exact Nat.le_trans this (Nat.mul_le_mul_left _ (Nat.le_trans h2 hl))

theorem Bd.lt {B b : Nat} {l : List UInt8} {w : World} (h : Bd B b l w) : b < w.heap.size := by
  rcases h.is with h | h <;> exact h.lt

theorem tx8 {w0 w : World} {b cb : Nat} {l : List UInt8} {bx : Array Value} (c : CodeL) (vi vp vk vg : Value) (hb : codeA ⟨c, vi, vp, vk, vg⟩ = bx) (h : TX w0 b cb bx l w) :
    w.cell? ⟨cb, 0, none⟩ = some (.string c.name) ∧ w.cell? ⟨cb, 1, none⟩ = some (.int .i64 c.kind) ∧ w.cell? ⟨cb, 2, none⟩ = some (.int .i64 c.len) ∧ w.cell? ⟨cb, 3, none⟩ = some (.int .i64 c.regs) ∧
    w.cell? ⟨cb, 4, none⟩ = some vi ∧ w.cell? ⟨cb, 5, none⟩ = some vp ∧ w.cell? ⟨cb, 6, none⟩ = some vk ∧ w.cell? ⟨cb, 7, none⟩ = some vg := by
  subst hb
  exact ⟨h.cell 0, h.cell 1, h.cell 2, h.cell 3, h.cell 4, h.cell 5, h.cell 6, h.cell 7⟩

theorem TX.call {w0 w : World} {b cb : Nat} {l : List UInt8} {bx : Array Value} (h : TX w0 b cb bx l w) {f : FuncId} {args : Array Value} {R : Ending} (hc : Calls Tryz.prog f args w fun e w' => e = R ∧ Below w.heap.size w w') :
    Calls Tryz.prog f args w fun e w' => e = R ∧ Hid (TX w0 b cb bx l w') :=
  hc.mono fun _ _ he => ⟨he.1, Lib.hid (h.below he.2)⟩

theorem TX.G {w0 w : World} {b cb : Nat} {l : List UInt8} {bx : Array Value} (h : TX w0 b cb bx l w) (hG : G w0) : G w := hG.below h.bel hG.size

theorem say_hid (w0 : World) (b cb : Nat) (bx : Array Value) (l s : List UInt8) (w : World) (h : Hid (TX w0 b cb bx l w)) (hl : l.length + s.length ≤ 140000000000000) :
    Calls Tryz.prog 13 #[.string (bs s), .pointer (some ⟨b, 0, none⟩)] w fun e w' => e = .returned (.tuple #[]) ∧ Hid (TX w0 b cb bx (l ++ (s ++ [10])) w') :=
  (say_ret w0 b cb bx l s w h.out hl).mono fun _ _ he => ⟨he.1, Lib.hid he.2⟩

theorem say2_hid (w0 : World) (b cb : Nat) (bx : Array Value) (l p t : List UInt8) (w : World) (h : Hid (TX w0 b cb bx l w)) (hl : l.length + (p ++ t).length ≤ 140000000000000) :
    Calls Tryz.prog 13 #[.string (bs p ++ bs t), .pointer (some ⟨b, 0, none⟩)] w fun e w' => e = .returned (.tuple #[]) ∧ Hid (TX w0 b cb bx (l ++ ((p ++ t) ++ [10])) w') := by
  rw [bs_append]
  exact say_hid w0 b cb bx l (p ++ t) w h hl

set_option maxHeartbeats 4000000 in
theorem Text_ret (xs : List CodeV) (B : Nat) (v : Value) (hl : xs.length ≤ 1200) (w : World) (hG : G w) (hB : B ≤ w.heap.size) (hv : Img w B v xs) :
    Calls Tryz.prog 7 #[.agg #[v]] w fun e w' => e = .returned (textV xs) ∧ Below w.heap.size w w' := by
  obtain ⟨a, cap, rfl⟩ := hv.sl.slice
  have HV := Lib.hid hv
  have hnew := Lib.hid (bd_new2 w (.slice a xs.length cap))
  clear hv
  rw [List.length_map]
  go_enter Tryz.func7, Tryz.ntmps7
  go_wp2
  go_loopw [20] (fun i W => ∃ k : Nat, k ≤ xs.length ∧ i = .int .i64 k ∧ Hid (∀ j (h : j < xs.length), j < k → rightB xs[j].c = true) ∧ Hid (Bd w.heap.size (w.heap.size + 1) (txt (xs.take k)) W) ∧ Hid (Below w.heap.size w W)) (fun i _ => xs.length - (intOf i).toNat)
  case atStart => exact ⟨0, Nat.zero_le _, rfl, Lib.hid (fun j h h' => absurd h' (Nat.not_lt_zero _)), hnew, Lib.hid (((Below.refl _ _).alloc (Nat.le_refl _) _).alloc (by simp) _)⟩
  case round =>
    obtain ⟨k, hk, rfl, hall, hbd, hbl⟩ := hrel
    clear hnew
    by_cases hlt : k < xs.length
    · have hx := List.getElem?_eq_getElem hlt
      obtain ⟨_, bk, o, ea, hbk, hcc⟩ := (HV.out.below (hbl.out.mono hB)).sl.at (k := k) (x := codeC xs[k]) (by rw [List.getElem?_map, hx]; rfl)
      subst ea
      have HN : Hid (rightB xs[k].c = true → ∀ j (h : j < xs.length), j < k + 1 → rightB xs[j].c = true) := Lib.hid (fun hr j h h' => by
        by_cases e : j = k
        · subst e; exact hr
        · exact hall.out j h (by omega))
      have HF : Hid (rightB xs[k].c = false → textV xs = .tuple #[.string ⟨#[]⟩, .int .i64 7]) := Lib.hid (fun hr => textV_no _ (List.getElem_mem hlt) hr)
      have HT : Hid (txt (xs.take (k + 1)) = txt (xs.take k) ++ codeT xs[k].c) := Lib.hid (take_flat _ xs k hlt)
      have HL : Hid ((txt (xs.take k)).length ≤ 126840000000000) := Lib.hid (txt_len xs hl HV.out.few HV.out.nums k)
      have hfe := HV.out.few _ (List.getElem_mem hlt)
      have hnu := HV.out.nums _ (List.getElem_mem hlt)
      have hco := HV.out.codes _ (List.getElem_mem hlt)
      clear hx
      generalize txt (xs.take k) = L at *
      generalize xs[k] = x at *
      obtain ⟨c, vi, vp, vk, vg⟩ := x
      simp only at hfe hnu hco HN HF HT
      obtain ⟨ai, ci, rfl⟩ := hco.ins.slice
      obtain ⟨ap, cp, rfl⟩ := hco.pool.slice
      obtain ⟨ak, ck, rfl⟩ := hco.keys.slice
      obtain ⟨ag, cg, rfl⟩ := hco.guards.slice
      simp only [List.length_map] at hco hcc
      have q0 : wr.cell? ⟨bk, o + k * 8, none⟩ = some (.string c.name) := hcc 0 _ rfl
      have q1 : wr.cell? ⟨bk, o + k * 8 + 1, none⟩ = some (.int .i64 c.kind) := hcc 1 _ rfl
      have q2 : wr.cell? ⟨bk, o + k * 8 + 2, none⟩ = some (.int .i64 c.len) := hcc 2 _ rfl
      have q3 : wr.cell? ⟨bk, o + k * 8 + 3, none⟩ = some (.int .i64 c.regs) := hcc 3 _ rfl
      have q4 : wr.cell? ⟨bk, o + k * 8 + 4, none⟩ = some (.slice ai c.ins.length ci) := (hcc 4 _ rfl).trans (by simp)
      have q5 : wr.cell? ⟨bk, o + k * 8 + 5, none⟩ = some (.slice ap c.pool.length cp) := (hcc 5 _ rfl).trans (by simp)
      have q6 : wr.cell? ⟨bk, o + k * 8 + 6, none⟩ = some (.slice ak c.keys.length ck) := (hcc 6 _ rfl).trans (by simp)
      have q7 : wr.cell? ⟨bk, o + k * 8 + 7, none⟩ = some (.slice ag c.guards.length cg) := (hcc 7 _ rfl).trans (by simp)
      have HC := Lib.hid hco
      clear hcc hco
      have hbb := hbd.out.lt
      have h2 : w.heap.size ≤ wr.heap.size := hbl.out.size
      have HX : Hid (TX w (w.heap.size + 1) wr.heap.size (codeA ⟨c, .slice ai c.ins.length ci, .slice ap c.pool.length cp, .slice ak c.keys.length ck, .slice ag c.guards.length cg⟩) L (wr.alloc (.cells (codeA ⟨c, .slice ai c.ins.length ci, .slice ap c.pool.length cp, .slice ak c.keys.length ck, .slice ag c.guards.length cg⟩) 36))) :=
        Lib.hid ⟨hbd.out.below ((Below.refl _ _).alloc (Nat.le_refl _) _), hbl.out.alloc h2 _, heap_alloc_new wr _, by omega⟩
      have HCb : ∀ W, Hid (Below w.heap.size w W) → Hid (CodeAt W B c (.slice ai c.ins.length ci) (.slice ap c.pool.length cp) (.slice ak c.keys.length ck) (.slice ag c.guards.length cg)) := fun W h => Lib.hid (HC.out.below (h.out.mono hB))
      have HCB := Lib.hid HCb
      clear HCb HC
      generalize hbx : codeA ⟨c, .slice ai c.ins.length ci, .slice ap c.pool.length cp, .slice ak c.keys.length ck, .slice ag c.guards.length cg⟩ = bx at HX
      have HBX := Lib.hid hbx
      clear hbx
      have HR := Lib.hid (HX.out.call (right_ret c B _ _ _ _ hfe hnu _ (Nat.le_trans hB HX.out.bel.size) (HCB.out _ (Lib.hid HX.out.bel)).out))
      cases hr : rightB c with
      | false =>
        have HE := Lib.hid (HF.out hr)
        rw [hr, ← HBX.out] at HR
        clear HN HF hr HT
        go_wp2_with (go_at_call 15; refine HR.out.mono ?_; rintro e w1 ⟨rfl, HX1⟩)
        go_ret2
        exact ⟨congrArg Ending.returned HE.out.symm, HX1.out.bel⟩
      | true =>
        have HN2 := Lib.hid (HN.out hr)
        have HPA := Lib.hid (right_parts hr)
        rw [hr, ← HBX.out] at HR
        clear HN HF hr
        have HHD : Hid (∀ W, Hid (TX w (w.heap.size + 1) wr.heap.size bx L W) → Calls Tryz.prog 16 #[.agg #[.string c.name, .int .i64 c.kind, .int .i64 c.len, .int .i64 c.regs, .slice ai c.ins.length ci, .slice ap c.pool.length cp, .slice ak c.keys.length ck, .slice ag c.guards.length cg]] W fun e w' => e = .returned (.string (bs (headL c.name.data.toList c.kind c.len c.regs))) ∧ Hid (TX w (w.heap.size + 1) wr.heap.size bx L w')) :=
          Lib.hid fun W h => h.out.call (headed_ret c.name c.kind c.len c.regs _ _ _ _ hfe.name hnu.kind hnu.len hnu.regs W (h.out.G hG))
        have hhl := head_len c hfe hnu
        have HHL := Lib.hid hhl
        clear hhl
        go_wp2_with (first
          | (go_at_call 15; refine HR.out.mono ?_; rintro e w1 ⟨rfl, HX1⟩; rw [HBX.out] at HX1; obtain ⟨r0, r1, r2, r3, r4, r5, r6, r7⟩ := tx8 c _ _ _ _ HBX.out HX1.out)
          | (go_at_call 16; refine (HHD.out _ HX1).mono ?_; rintro e w2 ⟨rfl, HX2⟩)
          | (go_at_call 13; refine (say_hid _ _ _ _ _ _ _ HX2 (by have := HL.out; have := HHL.out; omega)).mono ?_; rintro e w3 ⟨rfl, HX3⟩; obtain ⟨s0, s1, s2, s3, s4, s5, s6, s7⟩ := tx8 c _ _ _ _ HBX.out HX3.out))
        -- LOOPS
        obtain ⟨wo, rfl⟩ : ∃ wo : World, wo = wr := ⟨_, rfl⟩
        clear q0 q1 q2 q3 q4 q5 q6 q7 hbd hbl HHD HR
        have HM0 : Hid (L ++ (headL c.name.data.toList c.kind c.len c.regs ++ [10]) = L ++ headS c) := Lib.hid rfl
        rw [HM0.out] at HX3
        have HB0 : Hid ((L ++ headS c).length ≤ 126840000340000) := Lib.hid (by have := HL.out; have := headS_len c hfe hnu; rw [List.length_append]; omega)
        obtain ⟨M0, hM0⟩ : ∃ M0, M0 = L ++ headS c := ⟨_, rfl⟩
        rw [← hM0] at HX3 HB0
        have HE0 := Lib.hid hM0
        clear hM0 HM0
        go_loopw [34] (fun i W => ∃ m : Nat, m ≤ c.pool.length ∧ i = .int .i64 m ∧ Hid (TX w (w.heap.size + 1) wo.heap.size bx (M0 ++ (c.pool.take m).flatMap poolS) W)) (fun i _ => c.pool.length - (intOf i).toNat)
        case atStart => exact ⟨0, Nat.zero_le _, rfl, Lib.hid (by rw [List.take_zero, List.flatMap_nil, List.append_nil]; exact HX3.out)⟩
        case round =>
          obtain ⟨m, hm, rfl, HXm⟩ := hrel
          clear HX3
          have HLT := Lib.hid (poolT_len c hfe hnu m)
          by_cases hml : m < c.pool.length
          · have hx := List.getElem?_eq_getElem hml
            obtain ⟨hxx, pb, po, ea, hpb, hcc⟩ := (HCB.out _ (Lib.hid HXm.out.bel)).out.pool.at (k := m) (x := valC c.pool[m]) (by rw [List.getElem?_map, hx]; rfl)
            clear hxx
            subst ea
            have HTm : Hid ((c.pool.take (m + 1)).flatMap poolS = (c.pool.take m).flatMap poolS ++ poolS c.pool[m]) := Lib.hid (take_flat _ _ m hml)
            have hk0 := HPA.out.1 _ (List.getElem_mem hml)
            have hk1 := hnu.pool _ (List.getElem_mem hml)
            have hk2 := hfe.vs _ (List.getElem_mem hml)
            clear hx
            generalize c.pool[m] = x at *
            have p0 : wr.cell? ⟨pb, po + m * 3, none⟩ = some (.int .i64 x.k) := hcc 0 _ rfl
            have p1 : wr.cell? ⟨pb, po + m * 3 + 1, none⟩ = some (.int .i64 x.n) := hcc 1 _ rfl
            have p2 : wr.cell? ⟨pb, po + m * 3 + 2, none⟩ = some (.string x.s) := hcc 2 _ rfl
            clear hcc
            have hplt := lt_of_cell p0
            have cA := fun ob => cell_old wr ob hplt
            have hsz := const_len x hk1.2 hk2
            have HSZ : Hid ((constL x).length ≤ 330000) := Lib.hid hsz
            have hs6 : ¬ (9223372036854775807 < 6 + (bs (constL x)).size) := by rw [bs_size]; omega
            clear hsz
            have hlf := hfe.pool
            generalize (c.pool.take m).flatMap poolS = T1 at *
            have HCON : Hid (∀ W, Hid (TX w (w.heap.size + 1) wo.heap.size bx (M0 ++ T1) W) → Calls Tryz.prog 17 #[.agg #[.int .i64 x.k, .int .i64 x.n, .string x.s]] W fun e w' => e = .returned (.string (bs (constL x))) ∧ Hid (TX w (w.heap.size + 1) wo.heap.size bx (M0 ++ T1) w')) := Lib.hid fun W h => h.out.call (constant_ret x.k x.n x.s hk0 hk1.2 hk2 W (h.out.G hG))
            go_wp2_with (first
              | (go_at_call 17; refine (HCON.out _ (Lib.hid (HXm.out.alloc _))).mono ?_; rintro e w4 ⟨rfl, HX4⟩)
              | (go_at_call 13; refine (say2_hid _ _ _ _ _ [99, 111, 110, 115, 116, 32] (constL x) _ HX4 (by have := HB0.out; have := HLT.out; have := HSZ.out; simp; omega)).mono ?_; rintro e w5 ⟨rfl, HX5⟩))
            go_roundw
            case rel =>
              rw [List.append_assoc] at HX5
              exact ⟨m + 1, by omega, by go_num, by rw [HTm.out]; exact HX5⟩
            case measure => simp [intOf]; omega
          · have hme : m = c.pool.length := by omega
            have HTA : Hid ((c.pool.take m).flatMap poolS = c.pool.flatMap poolS) := Lib.hid (by rw [hme, List.take_length])
            have HB1 : Hid ((M0 ++ c.pool.flatMap poolS).length ≤ 126866401240000) := Lib.hid (by have := HB0.out; have := HLT.out; rw [HTA.out] at this; rw [List.length_append]; omega)
            rw [HTA.out] at HXm
            clear hme HTA HLT
            obtain ⟨M1, hM1⟩ : ∃ M1, M1 = M0 ++ c.pool.flatMap poolS := ⟨_, rfl⟩
            rw [← hM1] at HXm HB1
            have HE1 := Lib.hid hM1
            clear hM1
            obtain ⟨t0, t1, t2, t3, t4, t5, t6, t7⟩ := tx8 c _ _ _ _ HBX.out HXm.out
            go_wp2_with fail
            obtain ⟨HX3, wz, hwz⟩ : ∃ (HX3 : Hid (True)) (wz : World), wz = wr := ⟨Lib.hid trivial, _, rfl⟩
            clear HX3
            have HX3 := HXm
            clear HXm t0 t1 t2 t3 t4 t5 t6 t7
            subst hwz
            go_loopw [47] (fun i W => ∃ m : Nat, m ≤ c.keys.length ∧ i = .int .i64 m ∧ Hid (TX w (w.heap.size + 1) wo.heap.size bx (M1 ++ (c.keys.take m).flatMap keyS) W)) (fun i _ => c.keys.length - (intOf i).toNat)
            case atStart => exact ⟨0, Nat.zero_le _, rfl, Lib.hid (by rw [List.take_zero, List.flatMap_nil, List.append_nil]; exact HX3.out)⟩
            case round =>
              obtain ⟨m, hm, rfl, HXm⟩ := hrel
              clear HX3
              have HLT := Lib.hid (keysT_len c hfe hnu m)
              by_cases hml : m < c.keys.length
              · have hx := List.getElem?_eq_getElem hml
                obtain ⟨hxx, pb, po, ea, hpb, hcc⟩ := (HCB.out _ (Lib.hid HXm.out.bel)).out.keys.at (k := m) (x := keyC c.keys[m]) (by rw [List.getElem?_map, hx]; rfl)
                clear hxx
                subst ea
                have HTm : Hid ((c.keys.take (m + 1)).flatMap keyS = (c.keys.take m).flatMap keyS ++ keyS c.keys[m]) := Lib.hid (take_flat _ _ m hml)
                have hk0 := HPA.out.2.1 _ (List.getElem_mem hml)
                have hk1 := hnu.keys _ (List.getElem_mem hml)
                have hk2 := hfe.ks _ (List.getElem_mem hml)
                clear hx
                generalize c.keys[m] = x at *
                have p0 : wr.cell? ⟨pb, po + m * 3, none⟩ = some (.int .i64 x.k) := hcc 0 _ rfl
                have p1 : wr.cell? ⟨pb, po + m * 3 + 1, none⟩ = some (.int .i64 x.n) := hcc 1 _ rfl
                have p2 : wr.cell? ⟨pb, po + m * 3 + 2, none⟩ = some (.string x.s) := hcc 2 _ rfl
                clear hcc
                have hplt := lt_of_cell p0
                have cA := fun ob => cell_old wr ob hplt
                have hsz := key_len x hk1.2 hk2
                have HSZ : Hid ((keyL x).length ≤ 330000) := Lib.hid hsz
                have hs6 : ¬ (9223372036854775807 < 4 + (bs (keyL x)).size) := by rw [bs_size]; omega
                clear hsz
                have hlf := hfe.keys
                generalize (c.keys.take m).flatMap keyS = T1 at *
                have HCON : Hid (∀ W, Hid (TX w (w.heap.size + 1) wo.heap.size bx (M1 ++ T1) W) → Calls Tryz.prog 18 #[.agg #[.int .i64 x.k, .int .i64 x.n, .string x.s]] W fun e w' => e = .returned (.string (bs (keyL x))) ∧ Hid (TX w (w.heap.size + 1) wo.heap.size bx (M1 ++ T1) w')) := Lib.hid fun W h => h.out.call (keyed_ret x.k x.n x.s hk0 hk1.2 hk2 W (h.out.G hG))
                go_wp2_with (first
                  | (go_at_call 18; refine (HCON.out _ (Lib.hid (HXm.out.alloc _))).mono ?_; rintro e w4 ⟨rfl, HX4⟩)
                  | (go_at_call 13; refine (say2_hid _ _ _ _ _ [107, 101, 121, 32] (keyL x) _ HX4 (by have := HB1.out; have := HLT.out; have := HSZ.out; simp; omega)).mono ?_; rintro e w5 ⟨rfl, HX5⟩))
                go_roundw
                case rel =>
                  rw [List.append_assoc] at HX5
                  exact ⟨m + 1, by omega, by go_num, by rw [HTm.out]; exact HX5⟩
                case measure => simp [intOf]; omega
              · have hme : m = c.keys.length := by omega
                have HTA : Hid ((c.keys.take m).flatMap keyS = c.keys.flatMap keyS) := Lib.hid (by rw [hme, List.take_length])
                have HB2 : Hid ((M1 ++ c.keys.flatMap keyS).length ≤ 126892802140000) := Lib.hid (by have := HB1.out; have := HLT.out; rw [HTA.out] at this; rw [List.length_append]; omega)
                rw [HTA.out] at HXm
                clear hme HTA HLT
                obtain ⟨M2, hM2⟩ : ∃ M2, M2 = M1 ++ c.keys.flatMap keyS := ⟨_, rfl⟩
                rw [← hM2] at HXm HB2
                have HE2 := Lib.hid hM2
                clear hM2
                obtain ⟨t0, t1, t2, t3, t4, t5, t6, t7⟩ := tx8 c _ _ _ _ HBX.out HXm.out
                go_wp2_with fail
                obtain ⟨HX3, wz, hwz⟩ : ∃ (HX3 : Hid (True)) (wz : World), wz = wr := ⟨Lib.hid trivial, _, rfl⟩
                clear HX3
                have HX3 := HXm
                clear HXm t0 t1 t2 t3 t4 t5 t6 t7
                subst hwz
                go_loopw [60] (fun i W => ∃ m : Nat, m ≤ c.ins.length ∧ i = .int .i64 m ∧ Hid (TX w (w.heap.size + 1) wo.heap.size bx (M2 ++ (c.ins.take m).flatMap insS) W)) (fun i _ => c.ins.length - (intOf i).toNat)
                case atStart => exact ⟨0, Nat.zero_le _, rfl, Lib.hid (by rw [List.take_zero, List.flatMap_nil, List.append_nil]; exact HX3.out)⟩
                case round =>
                  obtain ⟨m, hm, rfl, HXm⟩ := hrel
                  clear HX3
                  have HLT := Lib.hid (insT_len c hfe hnu m)
                  by_cases hml : m < c.ins.length
                  · have hx := List.getElem?_eq_getElem hml
                    obtain ⟨hxx, pb, po, ea, hpb, hcc⟩ := (HCB.out _ (Lib.hid HXm.out.bel)).out.ins.at (k := m) (x := insC c.ins[m]) (by rw [List.getElem?_map, hx]; rfl)
                    clear hxx
                    subst ea
                    have HTm : Hid ((c.ins.take (m + 1)).flatMap insS = (c.ins.take m).flatMap insS ++ insS c.ins[m]) := Lib.hid (take_flat _ _ m hml)
                    have hk0 := HPA.out.2.2 _ (List.getElem_mem hml)
                    have hk1 := hnu.ins _ (List.getElem_mem hml)
                    clear hx
                    generalize c.ins[m] = x at *
                    have p0 : wr.cell? ⟨pb, po + m * 4, none⟩ = some (.int .i64 x.op) := hcc 0 _ rfl
                    have p1 : wr.cell? ⟨pb, po + m * 4 + 1, none⟩ = some (.int .i64 x.a) := hcc 1 _ rfl
                    have p2 : wr.cell? ⟨pb, po + m * 4 + 2, none⟩ = some (.int .i64 x.b) := hcc 2 _ rfl
                    have p3 : wr.cell? ⟨pb, po + m * 4 + 3, none⟩ = some (.int .i64 x.c) := hcc 3 _ rfl
                    clear hcc
                    have hplt := lt_of_cell p0
                    have cA := fun ob => cell_old wr ob hplt
                    have hsz := Nat.le_trans (line_len x hk1.2.1 hk1.2.2.1 hk1.2.2.2) (show 100 ≤ 330000 by decide)
                    have HSZ : Hid ((lineL x).length ≤ 330000) := Lib.hid hsz
                    clear hsz
                    have hlf := hfe.ins
                    generalize (c.ins.take m).flatMap insS = T1 at *
                    have HCON : Hid (∀ W, Hid (TX w (w.heap.size + 1) wo.heap.size bx (M2 ++ T1) W) → Calls Tryz.prog 19 #[.agg #[.int .i64 x.op, .int .i64 x.a, .int .i64 x.b, .int .i64 x.c]] W fun e w' => e = .returned (.string (bs (lineL x))) ∧ Hid (TX w (w.heap.size + 1) wo.heap.size bx (M2 ++ T1) w')) := Lib.hid fun W h => h.out.call (line_ret x.op x.a x.b x.c hk0.1 hk0.2 hk1.2.1 hk1.2.2.1 hk1.2.2.2 W (h.out.G hG))
                    go_wp2_with (first
                      | (go_at_call 19; refine (HCON.out _ (Lib.hid (HXm.out.alloc _))).mono ?_; rintro e w4 ⟨rfl, HX4⟩)
                      | (go_at_call 13; refine (say_hid _ _ _ _ _ (lineL x) _ HX4 (by have := HB2.out; have := HLT.out; have := HSZ.out; simp; omega)).mono ?_; rintro e w5 ⟨rfl, HX5⟩))
                    go_roundw
                    case rel =>
                      rw [List.append_assoc] at HX5
                      exact ⟨m + 1, by omega, by go_num, by rw [HTm.out]; exact HX5⟩
                    case measure => simp [intOf]; omega
                  · have hme : m = c.ins.length := by omega
                    have HTA : Hid ((c.ins.take m).flatMap insS = c.ins.flatMap insS) := Lib.hid (by rw [hme, List.take_length])
                    have HB3 : Hid ((M2 ++ c.ins.flatMap insS).length ≤ 126919203040000) := Lib.hid (by have := HB2.out; have := HLT.out; rw [HTA.out] at this; rw [List.length_append]; omega)
                    rw [HTA.out] at HXm
                    clear hme HTA HLT
                    obtain ⟨M3, hM3⟩ : ∃ M3, M3 = M2 ++ c.ins.flatMap insS := ⟨_, rfl⟩
                    rw [← hM3] at HXm HB3
                    have HE3 := Lib.hid hM3
                    clear hM3
                    obtain ⟨t0, t1, t2, t3, t4, t5, t6, t7⟩ := tx8 c _ _ _ _ HBX.out HXm.out
                    go_wp2_with fail
                    obtain ⟨HX3, wz, hwz⟩ : ∃ (HX3 : Hid (True)) (wz : World), wz = wr := ⟨Lib.hid trivial, _, rfl⟩
                    clear HX3
                    have HX3 := HXm
                    clear HXm t0 t1 t2 t3 t4 t5 t6 t7
                    subst hwz
                    go_loopw [72] (fun i W => ∃ m : Nat, m ≤ c.guards.length ∧ i = .int .i64 m ∧ Hid (TX w (w.heap.size + 1) wo.heap.size bx (M3 ++ (c.guards.take m).flatMap guS) W)) (fun i _ => c.guards.length - (intOf i).toNat)
                    case atStart => exact ⟨0, Nat.zero_le _, rfl, Lib.hid (by rw [List.take_zero, List.flatMap_nil, List.append_nil]; exact HX3.out)⟩
                    case round =>
                      obtain ⟨m, hm, rfl, HXm⟩ := hrel
                      clear HX3
                      have HLT := Lib.hid (gusT_len c hfe hnu m)
                      by_cases hml : m < c.guards.length
                      · have hx := List.getElem?_eq_getElem hml
                        obtain ⟨hxx, pb, po, ea, hpb, hcc⟩ := (HCB.out _ (Lib.hid HXm.out.bel)).out.guards.at (k := m) (x := guC c.guards[m]) (by rw [List.getElem?_map, hx]; rfl)
                        clear hxx
                        subst ea
                        have HTm : Hid ((c.guards.take (m + 1)).flatMap guS = (c.guards.take m).flatMap guS ++ guS c.guards[m]) := Lib.hid (take_flat _ _ m hml)
                        have hk1 := hnu.guards _ (List.getElem_mem hml)
                        clear hx
                        generalize c.guards[m] = x at *
                        have p0 : wr.cell? ⟨pb, po + m * 4, none⟩ = some (.int .i64 x.f) := hcc 0 _ rfl
                        have p1 : wr.cell? ⟨pb, po + m * 4 + 1, none⟩ = some (.int .i64 x.t) := hcc 1 _ rfl
                        have p2 : wr.cell? ⟨pb, po + m * 4 + 2, none⟩ = some (.int .i64 x.g) := hcc 2 _ rfl
                        have p3 : wr.cell? ⟨pb, po + m * 4 + 3, none⟩ = some (.int .i64 x.r) := hcc 3 _ rfl
                        clear hcc
                        have hplt := lt_of_cell p0
                        have cA := fun ob => cell_old wr ob hplt
                        have hsz := guard_len x hk1
                        have HSZ : Hid ((guardL x.f x.t x.g x.r).length ≤ 330000) := Lib.hid hsz
                        clear hsz
                        have hlf := hfe.guards
                        generalize (c.guards.take m).flatMap guS = T1 at *
                        have HCON : Hid (∀ W, Hid (TX w (w.heap.size + 1) wo.heap.size bx (M3 ++ T1) W) → Calls Tryz.prog 20 #[.agg #[.int .i64 x.f, .int .i64 x.t, .int .i64 x.g, .int .i64 x.r]] W fun e w' => e = .returned (.string (bs (guardL x.f x.t x.g x.r))) ∧ Hid (TX w (w.heap.size + 1) wo.heap.size bx (M3 ++ T1) w')) := Lib.hid fun W h => h.out.call (guarded_ret x.f x.t x.g x.r hk1.1 hk1.2.1 hk1.2.2.1 hk1.2.2.2 W (h.out.G hG))
                        go_wp2_with (first
                          | (go_at_call 20; refine (HCON.out _ (Lib.hid (HXm.out.alloc _))).mono ?_; rintro e w4 ⟨rfl, HX4⟩)
                          | (go_at_call 13; refine (say_hid _ _ _ _ _ (guardL x.f x.t x.g x.r) _ HX4 (by have := HB3.out; have := HLT.out; have := HSZ.out; simp; omega)).mono ?_; rintro e w5 ⟨rfl, HX5⟩))
                        go_roundw
                        case rel =>
                          rw [List.append_assoc] at HX5
                          exact ⟨m + 1, by omega, by go_num, by rw [HTm.out]; exact HX5⟩
                        case measure => simp [intOf]; omega
                      · have hme : m = c.guards.length := by omega
                        have HTA : Hid ((c.guards.take m).flatMap guS = c.guards.flatMap guS) := Lib.hid (by rw [hme, List.take_length])
                        have HB4 : Hid ((M3 ++ c.guards.flatMap guS).length ≤ 126945603940000) := Lib.hid (by have := HB3.out; have := HLT.out; rw [HTA.out] at this; rw [List.length_append]; omega)
                        rw [HTA.out] at HXm
                        clear hme HTA HLT
                        obtain ⟨M4, hM4⟩ : ∃ M4, M4 = M3 ++ c.guards.flatMap guS := ⟨_, rfl⟩
                        rw [← hM4] at HXm HB4
                        have HE4 := Lib.hid hM4
                        clear hM4
                        obtain ⟨t0, t1, t2, t3, t4, t5, t6, t7⟩ := tx8 c _ _ _ _ HBX.out HXm.out
                        go_wp2_with (go_at_call 13; refine (say_hid _ _ _ _ _ [101, 110, 100] _ HXm (by have := HB4.out; simp; omega)).mono ?_; rintro e w6 ⟨rfl, HX6⟩)
                        go_roundw
                        case rel =>
                          refine ⟨k + 1, by omega, by go_num, HN2, ?_, Lib.hid HX6.out.bel⟩
                          rw [HT.out]
                          have e := HX6.out.bd
                          rw [HE4.out, HE3.out, HE2.out, HE1.out, HE0.out] at e
                          unfold codeT
                          simpa [List.append_assoc] using Lib.hid e
                        case measure => simp [intOf]; omega
    -- END
    · have hke : k = xs.length := by omega
      have HTA : Hid (txt (xs.take k) = txt xs) := Lib.hid (by rw [hke, List.take_length])
      have HE : Hid (textV xs = .tuple #[.string (bs (txt xs)), .int .i64 0]) := Lib.hid (textV_yes fun j h => hall.out j h (by omega))
      rw [HTA.out] at hbd
      clear hke HTA
      generalize txt xs = L at *
      go_wp2_with (go_at_call 21; refine (Builder_String_any w.heap.size (w.heap.size + 1) L _ hbd.out.is hbd.out.size).mono ?_; rintro e w4 ⟨rfl, hb4⟩)
      go_ret2
      exact ⟨congrArg Ending.returned HE.out.symm, hbl.out.trans hb4⟩

end Go.Proofs.YtfngechoipngmaaGreatDoor
