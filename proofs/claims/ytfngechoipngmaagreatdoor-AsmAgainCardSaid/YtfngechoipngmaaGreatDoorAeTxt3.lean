/-
  A handler's line, as it is read.
  The tables of the evaluator for this seat.
  Where the library's searches lie in this program (laid in plain words by the kit's tool); the evaluator with them.
  The table of operations: what Name and Parts answer, in the program and in the reference.
  The operation with a name; the section of a line.
  An operand of a text.
  An instruction, as it is read.
  A line's runes.
-/
import Derived.Test.YtfngechoipngmaaGreatDoorAeTxt2
import Derived.Test.YtfngechoipngmaaGreatDoorRows
import Derived.Test.YtfngechoipngmaaGreatDoorAeKit4
import Derived.Shelf.LaysM
import Derived.Shelf.Strings.Search1
import Derived.Shelf.Strings.Search2
import Derived.Test.YtfngechoipngmaaGreatDoorAeTxt1
import Derived.Laws.IdiomStrings
namespace Go.Proofs.YtfngechoipngmaaGreatDoor
open Go.RowKit
set_option maxRecDepth 100000

/-- four numbers -/
structure RetG (e : Ending) : Prop where
  ex : ∃ (a b c d : Int), e = .returned (.agg #[.int .i64 a, .int .i64 b, .int .i64 c, .int .i64 d]) ∧ inI a ∧ inI b ∧ inI c ∧ inI d
theorem RetG.mk' {a b c d : Int} (ha : inI a) (hb : inI b) (hc : inI c) (hd : inI d) : RetG (.returned (.agg #[.int .i64 a, .int .i64 b, .int .i64 c, .int .i64 d])) := ⟨a, b, c, d, rfl, ha, hb, hc, hd⟩

def fourC (a b c d : Int) : Array Value := #[.int .i64 a, .int .i64 b, .int .i64 c, .int .i64 d]
/-- own blocks: the result, the struct and the row of pointers -/
structure QS (T n p : Nat) (ps : Array Value) (a b c d : Int) (W : World) : Prop where
  e0 : W.heap[n]? = some (.cells (fourC 0 0 0 0) T (0, 0))
  e1 : W.heap[n + 1]? = some (.cells (fourC a b c d) T (0, 0))
  e2 : W.heap[p]? = some (.cells ps 138 (0, 0))

theorem QS.grown {T n p rn : Nat} {ps : Array Value} {a b c d : Int} {W W' : World} (h : QS T n p ps a b c d W) (hg : W.grownBy W' (some rn)) (h0 : rn < n) (h1 : n < p) : QS T n p ps a b c d W' :=
  ⟨keep_grown hg h.e0 (by omega), keep_grown hg h.e1 (by omega), keep_grown hg h.e2 (by omega)⟩
theorem QS.below {T n p : Nat} {ps : Array Value} {a b c d : Int} {W W' : World} (h : QS T n p ps a b c d W) (hg : Below W.heap.size W W') : QS T n p ps a b c d W' :=
  ⟨keep_below hg h.e0, keep_below hg h.e1, keep_below hg h.e2⟩
theorem QS.set {T n p : Nat} {ps : Array Value} {a b c d a' b' c' d' : Int} {W : World} (h : QS T n p ps a b c d W) (hp : n + 1 < p) (i : Nat) (v : Value) (hi : (fourC a b c d).setIfInBounds i v = fourC a' b' c' d') : QS T n p ps a' b' c' d' (W.setCell ⟨n + 1, i, none⟩ v) := by
  refine ⟨?_, ?_, ?_⟩
  · rw [Below.heap_setCell _ _ _ _ (by show n ≠ n + 1; omega)]; exact h.e0
  · rw [set_block h.e1, hi]
  · rw [Below.heap_setCell _ _ _ _ (by show p ≠ n + 1; omega)]; exact h.e2
theorem keepA {W W' : World} (X : Obj) (h : Below (W.alloc X).heap.size (W.alloc X) W') : Below W.heap.size W W' :=
  ((Below.refl _ W).alloc (Nat.le_refl _) X).trans (h.mono (by rw [alloc_size]; omega))

theorem QS.start {T n : Nat} {ps : Array Value} {a b c d : Int} {W : World} (g0 : W.heap[n]? = some (.cells (fourC 0 0 0 0) T (0, 0))) (g1 : W.heap[n + 1]? = some (.cells (fourC a b c d) T (0, 0))) :
    QS T n W.heap.size ps a b c d (W.alloc (.cells ps 138 (0, 0))) := by
  obtain ⟨l0, _⟩ := Array.getElem?_eq_some_iff.1 g0
  obtain ⟨l1, _⟩ := Array.getElem?_eq_some_iff.1 g1
  exact ⟨(Below.heap_alloc _ _ _ l0).trans g0, (Below.heap_alloc _ _ _ l1).trans g1, alloc_new _ _⟩

def ptrsG (n : Nat) : Array Value := #[.pointer (some ⟨n + 1, 0, none⟩), .pointer (some ⟨n + 1, 1, none⟩), .pointer (some ⟨n + 1, 2, none⟩), .pointer (some ⟨n + 1, 3, none⟩)]

set_option maxHeartbeats 4000000 in
theorem guardr_ret (B rn rb cap k : Nat) (zs : List Int) (w : World) (hG : GE w) (h7 : 7 ≤ B) (hBr : B ≤ rn) (hBw : B ≤ w.heap.size) (hrb : rb < w.heap.size) (hR : Rn rn rb cap zs k w) :
    Calls Tryz.prog 90 #[.iface 110 (.pointer (some ⟨rn, 0, none⟩))] w fun e w' => RetG e ∧ Below B w w' := by
  have HG : Hid (∀ W, Below B w W → GE W) := Lib.hid fun W hb => hG.below hb h7
  clear hG
  have hrn := hR.lt
  have HNX := Lib.hid (next_ret rn rb cap)
  have hm : ∀ W, (method 299 110 (.pointer (some ⟨rn, 0, none⟩)) "pantomime/asm.next").run Tryz.prog W = .ok (166, .pointer (some ⟨rn, 0, none⟩)) W := fun _ => by kernel_rfl
  obtain ⟨g0, g1⟩ := two_al w (.cells (fourC 0 0 0 0) 63 (0, 0)) (.cells (fourC 0 0 0 0) 63 (0, 0))
  have hal := below_al2 w (.cells (fourC 0 0 0 0) 63 (0, 0)) (.cells (fourC 0 0 0 0) 63 (0, 0))
  have hsz : ((w.alloc (.cells (fourC 0 0 0 0) 63 (0, 0))).alloc (.cells (fourC 0 0 0 0) 63 (0, 0))).heap.size = w.heap.size + 1 + 1 := by rw [alloc_size, alloc_size]
  have hst := QS.start (ps := ptrsG w.heap.size) g0 g1
  rw [hsz] at hst
  have hal3 := hal.alloc hal.size (.cells (ptrsG w.heap.size) 138 (0, 0))
  have hR3 := hR.below hal3 hrn hrb
  have hal3 := hal3.mono hBw
  have hz0 : w.heap.size + 1 + 1 < (((w.alloc (.cells (fourC 0 0 0 0) 63 (0, 0))).alloc (.cells (fourC 0 0 0 0) 63 (0, 0))).alloc (.cells (ptrsG w.heap.size) 138 (0, 0))).heap.size := by rw [alloc_size, hsz]; omega
  clear g0 g1 hal hR hsz
  obtain ⟨p, hp⟩ : ∃ p, p = w.heap.size + 1 + 1 := ⟨_, rfl⟩
  rw [← hp] at hst hz0
  have hnp : w.heap.size + 1 < p := by omega
  replace hst := Lib.hid hst
  replace hal3 := Lib.hid hal3
  replace hR3 := Lib.hid hR3
  replace hp := Lib.hid hp
  go_enter Tryz.func90, Tryz.ntmps90
  go_wp2
  simp only [← hp.out]
  clear hp
  go_loopw [14] (fun i W => ∃ (m : Nat) (a b c d : Int) (k' : Nat), m ≤ 4 ∧ i = .int .i64 (m : Int) ∧ (inI a ∧ inI b ∧ inI c ∧ inI d) ∧ Hid (Rn rn rb cap zs k' W) ∧ Hid (QS 63 w.heap.size p (ptrsG w.heap.size) a b c d W) ∧ Hid (Below B w W) ∧ p < W.heap.size) (fun i _ => 5 - (intOf i).toNat)
  case atStart => exact ⟨0, 0, 0, 0, 0, k, by omega, by go_num, by unfold inI; omega, hR3, hst, hal3, hz0⟩
  case round =>
    obtain ⟨m, a, b, c, d, k', hm3, rfl, hi, hrn', hs', hbl, hzr⟩ := hrel
    obtain ⟨ha, hb, hc, hd⟩ := hi
    clear hst hal3 hR3 hz0
    rcases m with _ | _ | _ | _ | _ | m
    · have hsh := hs'.out
      have q : wr.cell? ⟨p, 0, none⟩ = some (.pointer (some ⟨w.heap.size + 1, 0, none⟩)) := (Lib.cell_of_heap hsh.e2 0).trans rfl
      go_wp2_with (first
        | (simp only)
        | (go_at_call 166; clear q; refine (HNX.out _ zs _ hrn'.out).mono ?_; rintro e w3 ⟨t, tok, k3, rfl, ht, hR3, hgr⟩; have hs3 := Lib.hid (hsh.grown hgr hrn (by omega)); have hb3 := Lib.hid (below_grown hbl.out hgr (by omega) hBr); have hz3 := Nat.le_trans hzr hgr.size; have hR3 := Lib.hid hR3; clear hgr hsh)
        | (go_at_call 106; refine (number_ret _ _ _ ht _ (HG.out _ (hb3.out.alloc (by omega) _))).mono ?_; rintro e w4 ⟨hr, hb4⟩; obtain ⟨x, xok, rfl, hx⟩ := hr.ex; clear hr; have hq4 := keepA _ hb4; clear hb4; have hs4 := hs3.out.below hq4; have hR4 := Lib.hid (hR3.out.below hq4 (by omega) (by omega)); have hbb := Lib.hid (hb3.out.trans (hq4.mono (by omega))); have hz4 := Nat.le_trans hz3 hq4.size; clear hq4; have c1 : w4.cell? ⟨w.heap.size + 1, 0, none⟩ = some (.int .i64 a) := (Lib.cell_of_heap hs4.e1 0).trans rfl; have f1 := Lib.frozen_of_heap hs4.e1 0; have hs4 := Lib.hid hs4)
        | fail)
      go_roundw
      case rel => exact ⟨1, x, b, c, d, _, by omega, by go_num, ⟨by assumption, by assumption, by assumption, by assumption⟩, Lib.hid (hR4.out.setO _ (by omega) (by omega)), Lib.hid (hs4.out.set (by omega) _ _ rfl), Lib.hid (hbb.out.setCell (by show B ≤ w.heap.size + 1; omega) _), by rw [set_size]; exact hz4⟩
      case measure => simp [intOf]
    · have hsh := hs'.out
      have q : wr.cell? ⟨p, 1, none⟩ = some (.pointer (some ⟨w.heap.size + 1, 1, none⟩)) := (Lib.cell_of_heap hsh.e2 1).trans rfl
      go_wp2_with (first
        | (simp only)
        | (go_at_call 166; clear q; refine (HNX.out _ zs _ hrn'.out).mono ?_; rintro e w3 ⟨t, tok, k3, rfl, ht, hR3, hgr⟩; have hs3 := Lib.hid (hsh.grown hgr hrn (by omega)); have hb3 := Lib.hid (below_grown hbl.out hgr (by omega) hBr); have hz3 := Nat.le_trans hzr hgr.size; have hR3 := Lib.hid hR3; clear hgr hsh)
        | (go_at_call 106; refine (number_ret _ _ _ ht _ (HG.out _ (hb3.out.alloc (by omega) _))).mono ?_; rintro e w4 ⟨hr, hb4⟩; obtain ⟨x, xok, rfl, hx⟩ := hr.ex; clear hr; have hq4 := keepA _ hb4; clear hb4; have hs4 := hs3.out.below hq4; have hR4 := Lib.hid (hR3.out.below hq4 (by omega) (by omega)); have hbb := Lib.hid (hb3.out.trans (hq4.mono (by omega))); have hz4 := Nat.le_trans hz3 hq4.size; clear hq4; have c1 : w4.cell? ⟨w.heap.size + 1, 1, none⟩ = some (.int .i64 b) := (Lib.cell_of_heap hs4.e1 1).trans rfl; have f1 := Lib.frozen_of_heap hs4.e1 1; have hs4 := Lib.hid hs4)
        | fail)
      go_roundw
      case rel => exact ⟨2, a, x, c, d, _, by omega, by go_num, ⟨by assumption, by assumption, by assumption, by assumption⟩, Lib.hid (hR4.out.setO _ (by omega) (by omega)), Lib.hid (hs4.out.set (by omega) _ _ rfl), Lib.hid (hbb.out.setCell (by show B ≤ w.heap.size + 1; omega) _), by rw [set_size]; exact hz4⟩
      case measure => simp [intOf]
    · have hsh := hs'.out
      have q : wr.cell? ⟨p, 2, none⟩ = some (.pointer (some ⟨w.heap.size + 1, 2, none⟩)) := (Lib.cell_of_heap hsh.e2 2).trans rfl
      go_wp2_with (first
        | (simp only)
        | (go_at_call 166; clear q; refine (HNX.out _ zs _ hrn'.out).mono ?_; rintro e w3 ⟨t, tok, k3, rfl, ht, hR3, hgr⟩; have hs3 := Lib.hid (hsh.grown hgr hrn (by omega)); have hb3 := Lib.hid (below_grown hbl.out hgr (by omega) hBr); have hz3 := Nat.le_trans hzr hgr.size; have hR3 := Lib.hid hR3; clear hgr hsh)
        | (go_at_call 106; refine (number_ret _ _ _ ht _ (HG.out _ (hb3.out.alloc (by omega) _))).mono ?_; rintro e w4 ⟨hr, hb4⟩; obtain ⟨x, xok, rfl, hx⟩ := hr.ex; clear hr; have hq4 := keepA _ hb4; clear hb4; have hs4 := hs3.out.below hq4; have hR4 := Lib.hid (hR3.out.below hq4 (by omega) (by omega)); have hbb := Lib.hid (hb3.out.trans (hq4.mono (by omega))); have hz4 := Nat.le_trans hz3 hq4.size; clear hq4; have c1 : w4.cell? ⟨w.heap.size + 1, 2, none⟩ = some (.int .i64 c) := (Lib.cell_of_heap hs4.e1 2).trans rfl; have f1 := Lib.frozen_of_heap hs4.e1 2; have hs4 := Lib.hid hs4)
        | fail)
      go_roundw
      case rel => exact ⟨3, a, b, x, d, _, by omega, by go_num, ⟨by assumption, by assumption, by assumption, by assumption⟩, Lib.hid (hR4.out.setO _ (by omega) (by omega)), Lib.hid (hs4.out.set (by omega) _ _ rfl), Lib.hid (hbb.out.setCell (by show B ≤ w.heap.size + 1; omega) _), by rw [set_size]; exact hz4⟩
      case measure => simp [intOf]
    · have hsh := hs'.out
      have q : wr.cell? ⟨p, 3, none⟩ = some (.pointer (some ⟨w.heap.size + 1, 3, none⟩)) := (Lib.cell_of_heap hsh.e2 3).trans rfl
      go_wp2_with (first
        | (simp only)
        | (go_at_call 166; clear q; refine (HNX.out _ zs _ hrn'.out).mono ?_; rintro e w3 ⟨t, tok, k3, rfl, ht, hR3, hgr⟩; have hs3 := Lib.hid (hsh.grown hgr hrn (by omega)); have hb3 := Lib.hid (below_grown hbl.out hgr (by omega) hBr); have hz3 := Nat.le_trans hzr hgr.size; have hR3 := Lib.hid hR3; clear hgr hsh)
        | (go_at_call 106; refine (number_ret _ _ _ ht _ (HG.out _ (hb3.out.alloc (by omega) _))).mono ?_; rintro e w4 ⟨hr, hb4⟩; obtain ⟨x, xok, rfl, hx⟩ := hr.ex; clear hr; have hq4 := keepA _ hb4; clear hb4; have hs4 := hs3.out.below hq4; have hR4 := Lib.hid (hR3.out.below hq4 (by omega) (by omega)); have hbb := Lib.hid (hb3.out.trans (hq4.mono (by omega))); have hz4 := Nat.le_trans hz3 hq4.size; clear hq4; have c1 : w4.cell? ⟨w.heap.size + 1, 3, none⟩ = some (.int .i64 d) := (Lib.cell_of_heap hs4.e1 3).trans rfl; have f1 := Lib.frozen_of_heap hs4.e1 3; have hs4 := Lib.hid hs4)
        | fail)
      go_roundw
      case rel => exact ⟨4, a, b, c, x, _, by omega, by go_num, ⟨by assumption, by assumption, by assumption, by assumption⟩, Lib.hid (hR4.out.setO _ (by omega) (by omega)), Lib.hid (hs4.out.set (by omega) _ _ rfl), Lib.hid (hbb.out.setCell (by show B ≤ w.heap.size + 1; omega) _), by rw [set_size]; exact hz4⟩
      case measure => simp [intOf]
    · have hsh := hs'.out
      have r0 : wr.cell? ⟨w.heap.size + 1, 0, none⟩ = some (.int .i64 a) := (Lib.cell_of_heap hsh.e1 0).trans rfl
      have r1 : wr.cell? ⟨w.heap.size + 1, 1, none⟩ = some (.int .i64 b) := (Lib.cell_of_heap hsh.e1 1).trans rfl
      have r2 : wr.cell? ⟨w.heap.size + 1, 2, none⟩ = some (.int .i64 c) := (Lib.cell_of_heap hsh.e1 2).trans rfl
      have r3 : wr.cell? ⟨w.heap.size + 1, 3, none⟩ = some (.int .i64 d) := (Lib.cell_of_heap hsh.e1 3).trans rfl
      have o0 : wr.cell? ⟨w.heap.size, 0, none⟩ = some (.int .i64 0) := (Lib.cell_of_heap hsh.e0 0).trans rfl
      have o1 : wr.cell? ⟨w.heap.size, 1, none⟩ = some (.int .i64 0) := (Lib.cell_of_heap hsh.e0 1).trans rfl
      have o2 : wr.cell? ⟨w.heap.size, 2, none⟩ = some (.int .i64 0) := (Lib.cell_of_heap hsh.e0 2).trans rfl
      have o3 : wr.cell? ⟨w.heap.size, 3, none⟩ = some (.int .i64 0) := (Lib.cell_of_heap hsh.e0 3).trans rfl
      have f0 := Lib.frozen_of_heap hsh.e0 0
      have f1 := Lib.frozen_of_heap hsh.e0 1
      have f2 := Lib.frozen_of_heap hsh.e0 2
      have f3 := Lib.frozen_of_heap hsh.e0 3
      have hset := ((((hbl.out.setCell (p := ⟨w.heap.size, 0, none⟩) hBw (.int .i64 a)).setCell (p := ⟨w.heap.size, 1, none⟩) hBw (.int .i64 b)).setCell (p := ⟨w.heap.size, 2, none⟩) hBw (.int .i64 c)).setCell (p := ⟨w.heap.size, 3, none⟩) hBw (.int .i64 d))
      clear hsh hs' hrn' hbl HG HNX
      go_wp2
      (try simp only [Exit.inBlock, Exit.then])
      refine bodyPost_ret (v := .agg #[.int .i64 a, .int .i64 b, .int .i64 c, .int .i64 d]) ?_ rfl ⟨RetG.mk' ha hb hc hd, hset⟩
      rw [results_cell_one rfl]
      go_simp
    · omega

end Go.Proofs.YtfngechoipngmaaGreatDoor

namespace Go.Proofs.YtfngechoipngmaaGreatDoor
open Go.AE
set_option maxRecDepth 100000

noncomputable def eqsT : List (TypeId × List Nat) := [(43, [1, 1, 2]), (44, [1, 1, 2]), (46, [1, 1, 1, 1]), (63, [1, 1, 1, 1])]
/-- runs in which no package variable is read -/
noncomputable def env : Env := envOf Tryz.prog eqsT 0 []
/-- runs in which they are -/
noncomputable def envG : Env := envOf Tryz.prog eqsT 7 []

theorem env_noNum : noNum Tryz.prog.funcs.toList = true := by kernel_rfl
theorem env_eqs : eqsOk Tryz.prog eqsT = true := by kernel_rfl
theorem env_mixed : Tryz.prog.follows .mixedOrders = true := by kernel_rfl
theorem env_types : Nat.blt 0 Tryz.prog.types.size = true := by kernel_rfl

theorem env_ok (Y : Sy) : EnvOk Y env := envOk_of env_noNum env_eqs env_mixed env_types (fun _ _ _ h => by cases h)
theorem envG_ok (Y : Sy) : EnvOk Y envG := envOk_of env_noNum env_eqs env_mixed env_types (fun _ _ _ h => by cases h)

end Go.Proofs.YtfngechoipngmaaGreatDoor

namespace Go.Proofs.YtfngechoipngmaaGreatDoor
open Go.Shelf
set_option maxRecDepth 100000
def lays217_ren : Go.Shelf.Ren := ⟨fun | 217 => 101 | 266 => 115 | n => n, fun | 9 => 9 | 5 => 5 | 3 => 3 | n => n, fun | n => n⟩
theorem lays217 : Go.Proofs.Lays.n217 Tryz.prog lays217_ren := {
  mixed := by kernel_rfl
  f217 := Tryz.func101.trans (congrArg some (by kernel_rfl))
  f266 := Tryz.func115.trans (congrArg some (by kernel_rfl))
  t3 := Tryz.underlying3
  a3 := Tryz.isAgg3
  z3 := Tryz.sizeOf3
  v3 := Tryz.zeroValue3
  t5 := Tryz.underlying5
  a5 := Tryz.isAgg5
  z5 := Tryz.sizeOf5
  v5 := Tryz.zeroValue5
  t9 := Tryz.underlying9
  a9 := Tryz.isAgg9
  z9 := Tryz.sizeOf9
  v9 := Tryz.zeroValue9 }
open Go.RowKit Go.Lib in
/-- internal/stringslite.IndexByte (what strings.IndexByte calls): IT RETURNS 'Lib.indexByte s c'; the world is as it was. (LAID: no walk: one application.) -/
theorem stringslite_IndexByte (s : ByteArray) (c : Int) (w : World) :
    Calls Tryz.prog 101 #[.string s, .int .u8 c] w fun e w' => e = .returned (.int .i64 (Lib.indexByte s.data.toList c.toNat.toUInt8)) ∧ w' = w := Any.stringslite_IndexByte lays217 s c w
def lays219_ren : Go.Shelf.Ren := ⟨fun | 219 => 85 | 217 => 101 | 225 => 102 | 224 => 103 | 267 => 104 | 266 => 115 | 314 => 116 | n => n, fun | 9 => 9 | 3 => 3 | 4 => 4 | 5 => 5 | 46 => 40 | 146 => 151 | 51 => 150 | n => n, fun | 1 => 1 | n => n⟩
theorem lays219 : Go.Proofs.Lays.n219 Tryz.prog lays219_ren := {
  mixed := by kernel_rfl
  f217 := Tryz.func101.trans (congrArg some (by kernel_rfl))
  f219 := Tryz.func85.trans (congrArg some (by kernel_rfl))
  f224 := Tryz.func103.trans (congrArg some (by kernel_rfl))
  f225 := Tryz.func102.trans (congrArg some (by kernel_rfl))
  f266 := Tryz.func115.trans (congrArg some (by kernel_rfl))
  f267 := Tryz.func104.trans (congrArg some (by kernel_rfl))
  f314 := Tryz.func116.trans (congrArg some (by kernel_rfl))
  t3 := Tryz.underlying3
  a3 := Tryz.isAgg3
  z3 := Tryz.sizeOf3
  v3 := Tryz.zeroValue3
  t4 := Tryz.underlying4
  a4 := Tryz.isAgg4
  z4 := Tryz.sizeOf4
  v4 := Tryz.zeroValue4
  t5 := Tryz.underlying5
  a5 := Tryz.isAgg5
  z5 := Tryz.sizeOf5
  v5 := Tryz.zeroValue5
  t9 := Tryz.underlying9
  a9 := Tryz.isAgg9
  z9 := Tryz.sizeOf9
  v9 := Tryz.zeroValue9
  t46 := Tryz.underlying40
  a46 := Tryz.isAgg40
  z46 := Tryz.sizeOf40
  v46 := Tryz.zeroValue40
  t51 := Tryz.underlying150
  a51 := Tryz.isAgg150
  z51 := Tryz.sizeOf150
  v51 := Tryz.zeroValue150
  t146 := Tryz.underlying151
  a146 := Tryz.isAgg151
  z146 := Tryz.sizeOf151
  v146 := Tryz.zeroValue151
  g1 := by kernel_rfl }
open Go.RowKit Go.Lib in
/-- internal/stringslite.Index (what strings.Index calls) AT A substr OF ONE BYTE c: IT RETURNS 'Lib.indexByte s c'; the world is as it was. (LAID: no walk: one application.) -/
theorem stringslite_Index_one (s : ByteArray) (c : UInt8) (w : World) :
    Calls Tryz.prog 85 #[.string s, .string ⟨#[c]⟩] w fun e w' => e = .returned (.int .i64 (Lib.indexByte s.data.toList c)) ∧ w' = w := Any.stringslite_Index_one lays219 s c w

open Go.AE

noncomputable def prims : List (FuncId × Pm) := [(101, .idxB), (85, .idx1)]

theorem prims_ok : PrimsOk env prims :=
  PrimsOk.cons (by kernel_rfl) rfl (fun s c w => stringslite_IndexByte s c w)
    (PrimsOk.cons (by kernel_rfl) rfl (fun s c w => stringslite_Index_one s c w) PrimsOk.nil)

end Go.Proofs.YtfngechoipngmaaGreatDoor

namespace Go.Proofs.YtfngechoipngmaaGreatDoor
open Go.RowKit
set_option maxRecDepth 100000

/-- names and kinds of operands -/
def rowsN : List (List Nat × List Nat) := [
  ([110, 111, 112], [45, 45, 45]),
  ([108, 111, 97, 100], [114, 112, 45]),
  ([109, 111, 118, 101], [114, 114, 45]),
  ([103, 101, 116, 104, 101, 108, 100], [114, 110, 110]),
  ([115, 101, 116, 104, 101, 108, 100], [110, 110, 114]),
  ([99, 104, 101, 99, 107], [114, 45, 45]),
  ([102, 105, 120, 101, 100], [45, 45, 45]),
  ([103, 108, 111, 98, 97, 108], [114, 103, 45]),
  ([115, 101, 116, 103, 108, 111, 98, 97, 108], [103, 114, 98]),
  ([116, 121, 112, 101, 103, 108, 111, 98, 97, 108], [114, 103, 45]),
  ([116, 121, 112, 101, 111, 102], [114, 114, 45]),
  ([116, 104, 105, 115], [114, 45, 45]),
  ([97, 114, 103], [114, 97, 45]),
  ([114, 101, 115, 116], [114, 110, 45]),
  ([109, 97, 107, 101], [114, 102, 45]),
  ([111, 98, 106, 101, 99, 116], [114, 45, 45]),
  ([112, 117, 116], [114, 114, 116]),
  ([99, 111, 112, 121], [114, 114, 45]),
  ([108, 105, 115, 116], [114, 45, 45]),
  ([97, 114, 114, 97, 121], [114, 114, 45]),
  ([112, 117, 115, 104], [114, 114, 45]),
  ([115, 112, 114, 101, 97, 100], [114, 114, 45]),
  ([103, 101, 116], [114, 114, 114]),
  ([115, 101, 116], [114, 114, 113]),
  ([100, 101, 108, 101, 116, 101], [114, 114, 113]),
  ([105, 110], [114, 114, 114]),
  ([111, 116, 104, 101, 114, 115], [114, 114, 114]),
  ([99, 97, 108, 108], [114, 114, 114]),
  ([99, 97, 108, 108, 111, 110], [114, 100, 114]),
  ([110, 101, 119], [114, 114, 114]),
  ([117, 110, 97, 114, 121], [114, 114, 111]),
  ([98, 105, 110, 97, 114, 121], [114, 114, 111]),
  ([116, 111, 107, 101, 121], [114, 114, 45]),
  ([116, 111, 116, 101, 120, 116], [114, 114, 45]),
  ([116, 111, 110, 117, 109], [114, 114, 45]),
  ([111, 112, 101, 110], [114, 114, 45]),
  ([110, 101, 120, 116], [114, 114, 45]),
  ([99, 108, 111, 115, 101], [114, 98, 45]),
  ([107, 101, 121, 115], [114, 114, 45]),
  ([110, 101, 101, 100], [114, 45, 45]),
  ([106, 117, 109, 112], [106, 45, 45]),
  ([106, 117, 109, 112, 116, 114, 117, 101], [106, 114, 45]),
  ([106, 117, 109, 112, 102, 97, 108, 115, 101], [106, 114, 45]),
  ([106, 117, 109, 112, 110, 117, 108, 108], [106, 114, 45]),
  ([106, 117, 109, 112, 104, 111, 108, 101], [106, 114, 45]),
  ([115, 116, 101, 112], [45, 45, 45]),
  ([121, 105, 101, 108, 100], [100, 45, 45]),
  ([100, 101, 108, 101, 103, 97, 116, 101], [100, 45, 45]),
  ([114, 101, 116, 117, 114, 110], [114, 45, 45]),
  ([116, 104, 114, 111, 119], [114, 98, 45]),
  ([101, 110, 116, 101, 114], [110, 114, 45]),
  ([108, 101, 97, 118, 101], [114, 45, 45]),
  ([102, 114, 101, 115, 104], [45, 45, 45]),
  ([115, 97, 118, 101], [114, 45, 45]),
  ([114, 101, 115, 117, 109, 101], [114, 45, 45])]

/-- the name of an operation, as numbers; the kinds of its operands -/
def nameN (k : Nat) : List Nat := (rowsN.getD k ([], [])).1
def kindN (k : Nat) : List Nat := (rowsN.getD k ([], [])).2
def nameL (op : Int) : List UInt8 := if op < 0 then [] else (nameN op.toNat).map UInt8.ofNat
def kindL (op : Int) : List UInt8 := if op < 0 then [] else (kindN op.toNat).map UInt8.ofNat

section
open Go.AE
noncomputable def runOp (f k : Nat) (l : List Nat) : Bool := evSq env [] prims [] [] 300 100 (.fn f) [.i64 (.ofNat k)] (heapG [] 0) (fun v _ => sameV v (.str l))

theorem run_43 : ((List.range 55).all fun k => runOp 44 k (nameN k)) = true := by kernel_rfl
theorem run_44 : ((List.range 55).all fun k => runOp 45 k (kindN k)) = true := by kernel_rfl
def noSy : Sy := ⟨fun _ => 0, fun _ => ByteArray.empty, fun _ => (none, 0, 0), fun _ => undef⟩

theorem bytes_bs (l : List Nat) : bytesV l = bs (l.map UInt8.ofNat) := rfl

theorem op_ret {f : Nat} {N : Nat → List Nat} (hr : ((List.range 55).all fun k => runOp f k (N k)) = true) (op : Int) (h0 : 0 ≤ op) (h1 : op < 55) (w : World) :
    Calls Tryz.prog f #[.int .i64 op] w fun e w' => e = .returned (.string (bs ((N op.toNat).map UInt8.ofNat))) ∧ Below w.heap.size w w' := by
  rw [List.all_eq_true] at hr
  have hk := hr op.toNat (List.mem_range.2 (by omega))
  have hl := laid_of_rec (w := w) (Y := noSy) (evSq_ok (env_ok noSy) rfl QtsOk.nil prims_ok KnownOk.nil SumsOk.nil 300 100) (gl := []) (m := 0) (Nat.le_refl 0) hk (cargs := [.int .i64 op]) (by
    have e : Int.ofNat op.toNat = op := by show ((op.toNat : Nat) : Int) = op; omega
    rw [e]
    rfl) ⟨Nat.zero_le _, fun _ _ h => nomatch h⟩
  refine hl.mono fun e w' he => ?_
  obtain ⟨cv, rfl, hc, hb⟩ := he
  simp only [conc] at hc
  split at hc
  · cases hc
    exact ⟨by rw [bytes_bs], hb⟩
  · cases hc
end

set_option maxHeartbeats 1000000 in
theorem row_out (op : Int) (h : op < 0 ∨ 55 ≤ op) (w : World) : Calls Tryz.prog 77 #[.int .i64 op] w fun e w' => e = .returned (.tuple #[.string (bs []), .string (bs [])]) ∧ Below w.heap.size w w' := by
  have hb := Below.refl w.heap.size w
  rcases h with h | h
  · go_enter Tryz.func77, Tryz.ntmps77
    go_wp2
    go_ret2
    exact ⟨rfl, hb⟩
  · have h' : decide (op < 0) = false := by simp; omega
    go_enter Tryz.func77, Tryz.ntmps77
    go_wp2
    go_ret2
    exact ⟨rfl, hb⟩

theorem name_out (op : Int) (h : op < 0 ∨ 55 ≤ op) (w : World) : Calls Tryz.prog 44 #[.int .i64 op] w fun e w' => e = .returned (.string (bs [])) ∧ Below w.heap.size w w' := by
  go_enter Tryz.func44, Tryz.ntmps44
  go_wp2_with (go_at_call 77; refine (row_out op h _).mono ?_; rintro e w1 ⟨rfl, hb⟩)
  go_ret
  exact ⟨rfl, hb⟩

theorem kind_out (op : Int) (h : op < 0 ∨ 55 ≤ op) (w : World) : Calls Tryz.prog 45 #[.int .i64 op] w fun e w' => e = .returned (.string (bs [])) ∧ Below w.heap.size w w' := by
  go_enter Tryz.func45, Tryz.ntmps45
  go_wp2_with (go_at_call 77; refine (row_out op h _).mono ?_; rintro e w1 ⟨rfl, hb⟩)
  go_ret
  exact ⟨rfl, hb⟩

theorem name_big {op : Int} (h : op < 0 ∨ 55 ≤ op) : nameL op = [] := by
  unfold nameL
  split
  · rfl
  · rw [nameN, List.getD_eq_getElem?_getD, List.getElem?_eq_none (by show 55 ≤ op.toNat; omega)]
    rfl
theorem kind_big {op : Int} (h : op < 0 ∨ 55 ≤ op) : kindL op = [] := by
  unfold kindL
  split
  · rfl
  · rw [kindN, List.getD_eq_getElem?_getD, List.getElem?_eq_none (by show 55 ≤ op.toNat; omega)]
    rfl

theorem op_any {f : Nat} {N : Nat → List Nat} {L : Int → List UInt8} (hr : ((List.range 55).all fun k => runOp f k (N k)) = true) (hL : ∀ op, L op = if op < 0 then [] else (N op.toNat).map UInt8.ofNat)
    (ho : ∀ op : Int, (op < 0 ∨ 55 ≤ op) → L op = []) (hc : ∀ (op : Int), (op < 0 ∨ 55 ≤ op) → ∀ w, Calls Tryz.prog f #[.int .i64 op] w fun e w' => e = .returned (.string (bs [])) ∧ Below w.heap.size w w') (op : Int) (w : World) :
    Calls Tryz.prog f #[.int .i64 op] w fun e w' => e = .returned (.string (bs (L op))) ∧ Below w.heap.size w w' := by
  by_cases h : op < 0 ∨ 55 ≤ op
  · rw [ho op h]
    exact hc op h w
  · rw [hL op, if_neg (by omega)]
    exact op_ret hr op (by omega) (by omega) w

theorem name_ret (op : Int) (w : World) : Calls Tryz.prog 44 #[.int .i64 op] w fun e w' => e = .returned (.string (bs (nameL op))) ∧ Below w.heap.size w w' := op_any run_43 (fun _ => rfl) (fun _ h => name_big h) name_out op w
theorem kind_ret (op : Int) (w : World) : Calls Tryz.prog 45 #[.int .i64 op] w fun e w' => e = .returned (.string (bs (kindL op))) ∧ Below w.heap.size w w' := op_any run_44 (fun _ => rfl) (fun _ h => kind_big h) kind_out op w
/-- what the table is like -/
def goodRow (r : List Nat × List Nat) : Bool := (r.2.length == 3) && (r.1.length != 0) && decide (r.1.length ≤ 12) && r.2.all fun g => [45, 114, 100, 113, 116, 112, 111, 107, 103, 102, 106, 110, 97, 98].contains g
theorem rows_good : rowsN.all goodRow = true := by kernel_rfl
theorem rows_len : rowsN.length = 55 := rfl

end Go.Proofs.YtfngechoipngmaaGreatDoor

namespace Go.Proofs.YtfngechoipngmaaGreatDoor
open Go.RowKit
set_option maxRecDepth 100000

set_option maxHeartbeats 4000000 in
theorem ops_ret (s : ByteArray) (w : World) :
    Calls Tryz.prog 86 #[.string s] w fun e w' => RetN e ∧ Below w.heap.size w w' := by
  have hb := Below.refl w.heap.size w
  have h0 : inI 0 := by unfold inI; omega
  go_enter Tryz.func86, Tryz.ntmps86
  go_wp2
  go_loopw [5] (fun i W => ∃ m : Nat, m ≤ 55 ∧ i = .int .i64 (m : Int) ∧ Hid (Below w.heap.size w W)) (fun i _ => 56 - (intOf i).toNat)
  case atStart => exact ⟨0, by omega, by go_num, Lib.hid hb⟩
  case round =>
    obtain ⟨m, hm, rfl, hbh⟩ := hrel
    have hb' := hbh.out
    by_cases hm5 : m < 55
    · have hm0 : (0 : Int) ≤ (m : Int) := Int.natCast_nonneg _
      have hm4 : (m : Int) < 55 := by omega
      go_wp2_with (first
        | (go_at_call 44; refine (name_ret _ _).mono ?_; rintro e w1 ⟨rfl, hb1⟩; have hb2 := hb'.trans (hb1.mono hb'.size); clear hb1)
        | fail)
      all_goals first
        | exact ⟨⟨m + 1, by omega, by congr 1, Lib.hid hb'⟩, by simp only [intOf]; omega⟩
        | exact ⟨⟨m + 1, by omega, by congr 1, Lib.hid hb2⟩, by simp only [intOf]; omega⟩
        | (go_ret2; exact ⟨RetN.mk' (by unfold inI; omega), hb2⟩)
    · have hm4 : ¬ (m : Int) < 55 := by omega
      go_wp2
      go_ret2
      exact ⟨RetN.mk' h0, hb'⟩

set_option maxHeartbeats 4000000 in
theorem place_code (w : World) : Calls Tryz.prog 60 #[.string ⟨#[99, 111, 100, 101]⟩] w fun e w' => e = .returned (.tuple #[.int .i64 0, .bool true]) ∧ Below w.heap.size w w' := by
  have hb := Below.refl w.heap.size w
  go_enter Tryz.func60, Tryz.ntmps60
  go_wp2
  go_ret2
  exact ⟨rfl, hb⟩

set_option maxHeartbeats 4000000 in
theorem place_end (w : World) : Calls Tryz.prog 60 #[.string ⟨#[101, 110, 100]⟩] w fun e w' => e = .returned (.tuple #[.int .i64 0, .bool true]) ∧ Below w.heap.size w w' := by
  have hb := Below.refl w.heap.size w
  go_enter Tryz.func60, Tryz.ntmps60
  go_wp2
  go_ret2
  exact ⟨rfl, hb⟩

set_option maxHeartbeats 4000000 in
theorem place_const (w : World) : Calls Tryz.prog 60 #[.string ⟨#[99, 111, 110, 115, 116]⟩] w fun e w' => e = .returned (.tuple #[.int .i64 1, .bool true]) ∧ Below w.heap.size w w' := by
  have hb := Below.refl w.heap.size w
  go_enter Tryz.func60, Tryz.ntmps60
  go_wp2
  go_ret2
  exact ⟨rfl, hb⟩

set_option maxHeartbeats 4000000 in
theorem place_key (w : World) : Calls Tryz.prog 60 #[.string ⟨#[107, 101, 121]⟩] w fun e w' => e = .returned (.tuple #[.int .i64 2, .bool true]) ∧ Below w.heap.size w w' := by
  have hb := Below.refl w.heap.size w
  go_enter Tryz.func60, Tryz.ntmps60
  go_wp2
  go_ret2
  exact ⟨rfl, hb⟩

set_option maxHeartbeats 4000000 in
theorem place_guard (w : World) : Calls Tryz.prog 60 #[.string ⟨#[103, 117, 97, 114, 100]⟩] w fun e w' => e = .returned (.tuple #[.int .i64 4, .bool true]) ∧ Below w.heap.size w w' := by
  have hb := Below.refl w.heap.size w
  go_enter Tryz.func60, Tryz.ntmps60
  go_wp2
  go_ret2
  exact ⟨rfl, hb⟩

/-- the word is none of the five -/
structure Other (s : ByteArray) : Prop where
  code : (s.toList == [99, 111, 100, 101]) = false
  ende : (s.toList == [101, 110, 100]) = false
  const : (s.toList == [99, 111, 110, 115, 116]) = false
  key : (s.toList == [107, 101, 121]) = false
  guard : (s.toList == [103, 117, 97, 114, 100]) = false

/-- the section of instructions, and a bool -/
structure RetO (e : Ending) : Prop where
  ex : ∃ b : Bool, e = .returned (.tuple #[.int .i64 3, .bool b])

set_option maxHeartbeats 4000000 in
theorem place_other (s : ByteArray) (h : Other s) (w : World) :
    Calls Tryz.prog 60 #[.string s] w fun e w' => RetO e ∧ Below w.heap.size w w' := by
  have hb := Below.refl w.heap.size w
  obtain ⟨h1, h2, h3, h4, h5⟩ := h
  go_enter Tryz.func60, Tryz.ntmps60
  go_wp2_with (first
    | (go_at_call 86; refine (ops_ret _ _).mono ?_; rintro e w1 ⟨hr, hb1⟩; obtain ⟨n, bb, rfl, hn⟩ := hr.ex; clear hr)
    | fail)
  go_ret2
  exact ⟨⟨_, rfl⟩, hb1⟩

theorem eq_lit {s : ByteArray} {l : List UInt8} (h : (s.toList == l) = true) : s = ⟨l.toArray⟩ := by
  have e := eq_of_beq h
  rw [ByteArray.toList_eq] at e
  subst e
  rfl

theorem word_cases (s : ByteArray) : s = ⟨#[99, 111, 100, 101]⟩ ∨ s = ⟨#[101, 110, 100]⟩ ∨ s = ⟨#[99, 111, 110, 115, 116]⟩ ∨ s = ⟨#[107, 101, 121]⟩ ∨ s = ⟨#[103, 117, 97, 114, 100]⟩ ∨ Other s := by
  by_cases h1 : (s.toList == [99, 111, 100, 101]) = true
  · exact .inl (eq_lit h1)
  by_cases h2 : (s.toList == [101, 110, 100]) = true
  · exact .inr (.inl (eq_lit h2))
  by_cases h3 : (s.toList == [99, 111, 110, 115, 116]) = true
  · exact .inr (.inr (.inl (eq_lit h3)))
  by_cases h4 : (s.toList == [107, 101, 121]) = true
  · exact .inr (.inr (.inr (.inl (eq_lit h4))))
  by_cases h5 : (s.toList == [103, 117, 97, 114, 100]) = true
  · exact .inr (.inr (.inr (.inr (.inl (eq_lit h5)))))
  exact .inr (.inr (.inr (.inr (.inr ⟨by simpa using h1, by simpa using h2, by simpa using h3, by simpa using h4, by simpa using h5⟩))))

end Go.Proofs.YtfngechoipngmaaGreatDoor

namespace Go.Proofs.YtfngechoipngmaaGreatDoor
open Go.RowKit
set_option maxRecDepth 100000

theorem inI_wrap (x : Int) : inI (wrap64 x) := by
  unfold inI wrap64
  omega

theorem kind_cells {w : World} (h : G w) : w.cell? ⟨0, 0, none⟩ = some (.string ⟨#[]⟩) ∧ w.cell? ⟨0, 1, none⟩ = some (.string ⟨#[60]⟩) ∧ w.cell? ⟨0, 2, none⟩ = some (.string ⟨#[62]⟩) ∧ w.cell? ⟨0, 3, none⟩ = some (.string ⟨#[63]⟩) := by
  obtain ⟨ty, fr, e⟩ := h.kinds
  exact ⟨(Lib.cell_of_heap e 0).trans rfl, (Lib.cell_of_heap e 1).trans rfl, (Lib.cell_of_heap e 2).trans rfl, (Lib.cell_of_heap e 3).trans rfl⟩

set_option maxHeartbeats 4000000 in
theorem numbered_ret (g : Int) (s : ByteArray) (hs : s.size ≤ 400000) (w : World) (hG : GE w) :
    Calls Tryz.prog 108 #[.int .u8 g, .string s] w fun e w' => RetN e ∧ Below w.heap.size w w' := by
  have h7 := hG.g.size
  have HG : Hid (∀ W, Below w.heap.size w W → GE W) := Lib.hid fun W hb => hG.below hb h7
  clear hG
  have hb := Below.refl w.heap.size w
  go_enter Tryz.func108, Tryz.ntmps108
  go_wp2_with (first
    | (go_at_call 106; refine (number_ret _ _ _ hs _ (HG.out _ hb)).mono ?_; rintro e w1 ⟨hr, hb1⟩; obtain ⟨n, bb, rfl, hn⟩ := hr.ex; clear hr; have hb := hb.trans (hb1.mono hb.size); clear hb1)
    | fail)
  all_goals first
    | (go_ret2; exact ⟨RetN.mk' hn, hb⟩)
    | (go_ret2; exact ⟨RetN.mk' (inI_wrap _), hb⟩)
    | skip
  simp only [‹(g == 114) = false›, ‹(g == 100) = false›, ‹(g == 113) = false›, ‹(g == 116) = true›]
  go_loopw [10] (fun i W => ∃ m : Nat, m ≤ 4 ∧ i = .int .i64 ((m : Int) - 1) ∧ Hid (Below w.heap.size w W)) (fun i _ => (intOf i + 1).toNat)
  case atStart => exact ⟨4, by omega, by go_num, Lib.hid hb⟩
  case round =>
    obtain ⟨m, hm, rfl, hbh⟩ := hrel
    have hb' := hbh.out
    obtain ⟨k0, k1, k2, k3⟩ := kind_cells (HG.out _ hb').g
    rcases m with _ | m
    · clear k0 k1 k2 k3 HG
      go_wp2
      go_ret2
      exact ⟨RetN.mk' (by unfold inI; omega), hb'⟩
    · have hq : ∃ q : ByteArray, wr.cell? ⟨0, m, none⟩ = some (.string q) := by
        rcases m with _ | _ | _ | _ | m
        · exact ⟨_, k0⟩
        · exact ⟨_, k1⟩
        · exact ⟨_, k2⟩
        · exact ⟨_, k3⟩
        · omega
      obtain ⟨q, hq⟩ := hq
      clear k0 k1 k2 k3
      have e : (((m + 1 : Nat) : Int) - 1) = (m : Int) := by omega
      rw [e]
      have hm0 : (0 : Int) ≤ (m : Int) := Int.natCast_nonneg _
      have hm4 : (m : Int) < 4 := by omega
      go_wp2_with (first
        | (go_at_call 106; refine (number_ret _ _ _ hs _ (HG.out _ hb')).mono ?_; rintro e w1 ⟨hr, hb1⟩; obtain ⟨n, bb, rfl, hn⟩ := hr.ex; clear hr; have hb2 := hb'.trans (hb1.mono hb'.size); clear hb1)
        | fail)
      · go_ret2
        exact ⟨RetN.mk' (inI_wrap _), hb2⟩
      · go_roundw
        case rel => exact ⟨m, by omega, rfl, Lib.hid hb2⟩
        case measure => simp [intOf]

end Go.Proofs.YtfngechoipngmaaGreatDoor

namespace Go.Proofs.YtfngechoipngmaaGreatDoor
open Go.RowKit
set_option maxRecDepth 100000

theorem ptrs_at (n m : Nat) (h : m < 3) : (ptrsC n)[m]? = some (.pointer (some ⟨n + 1, m + 1, none⟩)) := by
  rcases m with _ | _ | _ | m
  · rfl
  · rfl
  · rfl
  · omega
theorem four_at (a b c d : Int) (m : Nat) (h : m < 3) : ∃ v : Int, (fourC a b c d)[m + 1]? = some (.int .i64 v) := by
  rcases m with _ | _ | _ | m
  · exact ⟨b, rfl⟩
  · exact ⟨c, rfl⟩
  · exact ⟨d, rfl⟩
  · omega
theorem four_set (a b c d x : Int) (m : Nat) (h : m < 3) (hb : inI b) (hc : inI c) (hd : inI d) (hx : inI x) : ∃ b' c' d', (fourC a b c d).setIfInBounds (m + 1) (.int .i64 x) = fourC a b' c' d' ∧ inI b' ∧ inI c' ∧ inI d' := by
  rcases m with _ | _ | _ | m
  · exact ⟨x, c, d, rfl, hx, hc, hd⟩
  · exact ⟨b, x, d, rfl, hb, hx, hd⟩
  · exact ⟨b, c, x, rfl, hb, hc, hx⟩
  · omega

set_option maxHeartbeats 4000000 in
theorem insr_ret (B rn rb cap k : Nat) (zs : List Int) (name : ByteArray) (w : World) (hG : GE w) (h7 : 7 ≤ B) (hBr : B ≤ rn) (hBw : B ≤ w.heap.size) (hrb : rb < w.heap.size) (hR : Rn rn rb cap zs k w) :
    Calls Tryz.prog 91 #[.iface 110 (.pointer (some ⟨rn, 0, none⟩)), .string name] w fun e w' => RetG e ∧ Below B w w' := by
  have HG : Hid (∀ W, Below B w W → GE W) := Lib.hid fun W hb => hG.below hb h7
  clear hG
  have hrn := hR.lt
  have HR : Hid (∀ W, Below w.heap.size w W → Rn rn rb cap zs k W) := Lib.hid fun W hb => hR.below hb hrn hrb
  clear hR
  have HNX := Lib.hid (next_ret rn rb cap)
  have hm : ∀ W, (method 299 110 (.pointer (some ⟨rn, 0, none⟩)) "pantomime/asm.next").run Tryz.prog W = .ok (166, .pointer (some ⟨rn, 0, none⟩)) W := fun _ => by kernel_rfl
  have H2 := Lib.hid (two_al w (.cells (fourC 0 0 0 0) 46 (0, 0)) (.cells (fourC 0 0 0 0) 46 (0, 0)))
  have HB2 := Lib.hid (below_al2 w (.cells (fourC 0 0 0 0) 46 (0, 0)) (.cells (fourC 0 0 0 0) 46 (0, 0)))
  go_enter Tryz.func91, Tryz.ntmps91
  go_wp2_with (first
    | (go_at_call 86; refine (ops_ret _ _).mono ?_; rintro e w1 ⟨hr, hb1⟩; obtain ⟨op, ok, rfl, hop⟩ := hr.ex; clear hr; have g0 := keep_below hb1 H2.out.1; have g1 := keep_below hb1 H2.out.2; have hbw := Lib.hid (HB2.out.trans (hb1.mono HB2.out.size)); clear hb1; have c0 : w1.cell? ⟨w.heap.size + 1, 0, none⟩ = some (.int .i64 0) := (Lib.cell_of_heap g1 0).trans rfl; have f0 := Lib.frozen_of_heap g1 0)
    | (go_at_call 45; refine (kind_ret _ _).mono ?_; rintro e w2 ⟨rfl, hb2⟩; generalize bs (kindL op) = ps)
    | fail)
  have hset1 : Below w.heap.size w (w1.setCell ⟨w.heap.size + 1, 0, none⟩ (.int .i64 op)) := hbw.out.setCell (by show w.heap.size ≤ w.heap.size + 1; omega) _
  have k0 : (w1.setCell ⟨w.heap.size + 1, 0, none⟩ (.int .i64 op)).heap[w.heap.size]? = _ := (Below.heap_setCell _ _ _ _ (by show w.heap.size ≠ w.heap.size + 1; omega)).trans g0
  have k1 : (w1.setCell ⟨w.heap.size + 1, 0, none⟩ (.int .i64 op)).heap[w.heap.size + 1]? = some (.cells (fourC op 0 0 0) 46 (0, 0)) := set_block g1 _
  have j0 := keep_below hb2 k0
  have j1 := keep_below hb2 k1
  have hbw2 : Below w.heap.size w w2 := hset1.trans (hb2.mono hset1.size)
  clear g0 g1 c0 f0 k0 k1 hset1 hb2 hbw H2 HB2
  have hn1 : w.heap.size + 1 < w2.heap.size := (Array.getElem?_eq_some_iff.1 j1).1
  have hst := QS.start (ps := ptrsC w.heap.size) j0 j1
  have hal := hbw2.alloc (by omega) (.cells (ptrsC w.heap.size) 138 (0, 0))
  have hR3 := HR.out _ hal
  replace hst := Lib.hid hst
  replace hal := Lib.hid (hal.mono hBw)
  replace hR3 := Lib.hid hR3
  clear j0 j1 hbw2
  have hi0 : inI 0 := by unfold inI; omega
  go_loopw [25] (fun i W => ∃ (m : Nat) (b c d : Int) (k' : Nat), m ≤ 3 ∧ i = .int .i64 (m : Int) ∧ (inI b ∧ inI c ∧ inI d) ∧ Hid (Rn rn rb cap zs k' W) ∧ Hid (QS 46 w.heap.size w2.heap.size (ptrsC w.heap.size) op b c d W) ∧ Hid (Below B w W) ∧ w2.heap.size < W.heap.size) (fun i _ => 4 - (intOf i).toNat)
  case atStart => exact ⟨0, 0, 0, 0, k, by omega, by go_num, ⟨hi0, hi0, hi0⟩, hR3, hst, hal, by rw [alloc_size]; omega⟩
  case round =>
    obtain ⟨m, b, c, d, k', hm3, rfl, hi, hrn', hs', hbl, hzr⟩ := hrel
    obtain ⟨hb, hc, hd⟩ := hi
    clear hst hal hR3
    by_cases hlt : m < 3
    · have hlt3 : (m : Int) < 3 := by omega
      have hm0 : (0 : Int) ≤ (m : Int) := Int.natCast_nonneg _
      have q : wr.cell? ⟨w2.heap.size, m, none⟩ = some (.pointer (some ⟨w.heap.size + 1, m + 1, none⟩)) := (Lib.cell_of_heap hs'.out.e2 m).trans (ptrs_at _ m hlt)
      obtain ⟨v, hv⟩ := four_at op b c d m hlt
      replace hv := Lib.hid hv
      by_cases hps : m < ps.size
      · have hps1 : (m : Int) < (ps.size : Int) := by omega
        go_wp2_with (first
          | (simp only)
          | (go_at_call 166; clear q; refine (HNX.out _ zs _ hrn'.out).mono ?_; rintro e w3 ⟨t, tok, k3, rfl, ht, hR3, hgr⟩; have hs3 := Lib.hid (hs'.out.grown hgr hrn (by omega)); have hb3 := Lib.hid (below_grown hbl.out hgr (by omega) hBr); have hz3 := Nat.le_trans hzr hgr.size; replace hR3 := Lib.hid hR3; clear hgr)
          | (go_at_call 108; refine (numbered_ret _ _ ht _ (HG.out _ hb3.out)).mono ?_; rintro e w4 ⟨hr, hb4⟩; obtain ⟨x, xok, rfl, hx⟩ := hr.ex; clear hr; have hs4 := hs3.out.below hb4; have hR4 := Lib.hid (hR3.out.below hb4 (by omega) (by omega)); have hbb := Lib.hid (hb3.out.trans (hb4.mono (by omega))); have hz4 := Nat.le_trans hz3 hb4.size; clear hb4; have c1 : w4.cell? ⟨w.heap.size + 1, m + 1, none⟩ = some (.int .i64 v) := (Lib.cell_of_heap hs4.e1 (m + 1)).trans hv.out; have f1 := Lib.frozen_of_heap hs4.e1 (m + 1); replace hs4 := Lib.hid hs4)
          | fail)
        · exact ⟨⟨m + 1, b, c, d, k', by omega, by congr 1, ⟨hb, hc, hd⟩, hrn', hs', hbl, hzr⟩, by simp only [intOf]; omega⟩
        · obtain ⟨b', c', d', hfs, hb', hc', hd'⟩ := four_set op b c d x m hlt hb hc hd hx
          exact ⟨⟨m + 1, b', c', d', k3, by omega, by congr 1, ⟨hb', hc', hd'⟩, Lib.hid (hR4.out.setO _ (by omega) (by omega)), Lib.hid (hs4.out.set (by omega) _ _ hfs), Lib.hid (hbb.out.setCell (by show B ≤ w.heap.size + 1; omega) _), by rw [set_size]; exact hz4⟩, by simp only [intOf]; omega⟩
      · have hps1 : ¬ (m : Int) < (ps.size : Int) := by omega
        have hps2 : (ps.size : Int) ≤ (m : Int) := by omega
        go_wp2
        exact ⟨⟨m + 1, b, c, d, k', by omega, by congr 1, ⟨hb, hc, hd⟩, hrn', hs', hbl, hzr⟩, by simp only [intOf]; omega⟩
    · have he : m = 3 := by omega
      subst he
      have hsh := hs'.out
      have r0 : wr.cell? ⟨w.heap.size + 1, 0, none⟩ = some (.int .i64 op) := (Lib.cell_of_heap hsh.e1 0).trans rfl
      have r1 : wr.cell? ⟨w.heap.size + 1, 1, none⟩ = some (.int .i64 b) := (Lib.cell_of_heap hsh.e1 1).trans rfl
      have r2 : wr.cell? ⟨w.heap.size + 1, 2, none⟩ = some (.int .i64 c) := (Lib.cell_of_heap hsh.e1 2).trans rfl
      have r3 : wr.cell? ⟨w.heap.size + 1, 3, none⟩ = some (.int .i64 d) := (Lib.cell_of_heap hsh.e1 3).trans rfl
      have o0 : wr.cell? ⟨w.heap.size, 0, none⟩ = some (.int .i64 0) := (Lib.cell_of_heap hsh.e0 0).trans rfl
      have o1 : wr.cell? ⟨w.heap.size, 1, none⟩ = some (.int .i64 0) := (Lib.cell_of_heap hsh.e0 1).trans rfl
      have o2 : wr.cell? ⟨w.heap.size, 2, none⟩ = some (.int .i64 0) := (Lib.cell_of_heap hsh.e0 2).trans rfl
      have o3 : wr.cell? ⟨w.heap.size, 3, none⟩ = some (.int .i64 0) := (Lib.cell_of_heap hsh.e0 3).trans rfl
      have f0 := Lib.frozen_of_heap hsh.e0 0
      have f1 := Lib.frozen_of_heap hsh.e0 1
      have f2 := Lib.frozen_of_heap hsh.e0 2
      have f3 := Lib.frozen_of_heap hsh.e0 3
      have hset := ((((hbl.out.setCell (p := ⟨w.heap.size, 0, none⟩) hBw (.int .i64 op)).setCell (p := ⟨w.heap.size, 1, none⟩) hBw (.int .i64 b)).setCell (p := ⟨w.heap.size, 2, none⟩) hBw (.int .i64 c)).setCell (p := ⟨w.heap.size, 3, none⟩) hBw (.int .i64 d))
      clear hsh hs' hrn' hbl HG HNX HR
      go_wp2
      (try simp only [Exit.inBlock, Exit.then])
      refine bodyPost_ret (v := .agg #[.int .i64 op, .int .i64 b, .int .i64 c, .int .i64 d]) ?_ rfl ⟨RetG.mk' hop hb hc hd, hset⟩
      rw [results_cell_one rfl]
      go_simp

end Go.Proofs.YtfngechoipngmaaGreatDoor

namespace Go.Proofs.YtfngechoipngmaaGreatDoor
open Go.RowKit
set_option maxRecDepth 100000

theorem runes_ints (s : ByteArray) : ∀ (bound i : Nat) (ys : List Int), ∃ zs : List Int, Conv.runesFrom s bound i (ys.map (Value.int .i32)).toArray = (zs.map (Value.int .i32)).toArray := by
  intro bound
  induction bound with
  | zero => intro i ys; exact ⟨ys, rfl⟩
  | succ b ih =>
    intro i ys
    unfold Conv.runesFrom
    split
    · have e : ∀ (r : Nat), (ys.map (Value.int .i32)).toArray.push (.int .i32 (Int.ofNat r)) = ((ys ++ [Int.ofNat r]).map (Value.int .i32)).toArray := by
        intro r
        simp
      show ∃ zs : List Int, Conv.runesFrom s b (i + (Utf8.decode s i).2) ((ys.map (Value.int .i32)).toArray.push (.int .i32 (Int.ofNat (Utf8.decode s i).1))) = _
      rw [e]
      exact ih _ _
    · exact ⟨ys, rfl⟩

theorem conv_str (s : ByteArray) (hs : s.size ≤ 100000) (w : World) :
    ∃ (zs : List Int) (cap : Nat) (A : Array Value), (convert 9 111 (.string s)).run Tryz.prog w = .ok (.slice (some ⟨w.heap.size, 0, none⟩) zs.length cap) (w.drew.alloc (.cells A 21 (0, 0))) ∧
      zs.length ≤ cap ∧ zs.length ≤ 100000 ∧ ∀ j, j < zs.length → A[j]? = some (.int .i32 (zs.getD j 0)) := by
  obtain ⟨zs, hz⟩ := runes_ints s s.size 0 []
  have hz' : Conv.runesFrom s s.size 0 #[] = (zs.map (Value.int .i32)).toArray := hz
  have hsz := Go.size_runesFrom s s.size 0 #[]
  have hl : (Conv.runesFrom s s.size 0 #[]).size = zs.length := by rw [hz']; simp
  have h0 : (#[] : Array Value).size = 0 := rfl
  have hr := run_runes_of_string (P := Tryz.prog) w 9 111 21 s Tryz.underlying9 Tryz.underlying111 Tryz.underlying21 (by omega)
  rw [hl] at hr
  refine ⟨zs, _, _, hr, grownCap_ge _ _ _ _, by omega, fun j hj => ?_⟩
  rw [hz', Array.getElem?_append_left (by simpa using hj)]
  simp [hj, List.getD]

/-- the reader of words is new -/
theorem Rn.new {w : World} {zs : List Int} {cap : Nat} {A : Array Value} (h1 : zs.length ≤ cap) (h2 : zs.length ≤ 100000) (h3 : ∀ j, j < zs.length → A[j]? = some (.int .i32 (zs.getD j 0))) :
    Rn (w.heap.size + 1) w.heap.size cap zs 0 ((w.drew.alloc (.cells A 21 (0, 0))).alloc (.cells #[.slice (some ⟨w.heap.size, 0, none⟩) zs.length cap, .int .i64 0] 113 (0, 0))) := by
  obtain ⟨k0, k1⟩ := two_al w.drew (.cells A 21 (0, 0)) (.cells #[.slice (some ⟨w.heap.size, 0, none⟩) zs.length cap, .int .i64 0] 113 (0, 0))
  refine ⟨k1, fun j hj => ?_, by omega, h2, h1⟩
  exact (Lib.cell_of_heap k0 j).trans (h3 j hj)

end Go.Proofs.YtfngechoipngmaaGreatDoor
