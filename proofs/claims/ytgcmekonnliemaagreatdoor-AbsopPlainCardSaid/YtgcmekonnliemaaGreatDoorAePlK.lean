/-
  strconv.Itoa of this program: the decimal form of every number (the kit's contract, laid at this program in plain words by the kit's tool).
  The law AbsopPlain: the classes of its values, what is known of calls, and how a run answers for the law.
-/
import Derived.Shelf.Strconv.Itoa3
import Derived.Lib.ItoaLen
import Derived.WalkSmall
import Derived.ChangeBears2
import Derived.Test.YtgcmekonnliemaaGreatDoorAePlStr
import Derived.Test.YtgcmekonnliemaaGreatDoorAeHead
import Derived.Lib.ItoaMem
import Derived.Lib.ItoaNum
import Derived.Lib.AppendIntMem
import Derived.Test.YtgcmekonnliemaaGreatDoorAePlConv
namespace Go.Proofs.YtgcmekonnliemaaGreatDoor
open Go.Shelf

theorem itoa_calls (n : Int) (h0 : -9223372036854775808 ≤ n) (h1 : n ≤ 9223372036854775807) (w : World) (htab : Lib.TabIs Tryz.prog w "internal/strconv.uint64pow10" .u64 Lib.pow10Tab) :
    Calls Tryz.prog 181 #[.int .i64 n] w fun e w' => e = .returned (.string ⟨(Lib.itoa n).toArray⟩) ∧ ∃ k os, w' = Sort.grow (w.drewN k) os := Any.strconv_Itoa itoaLays n h0 h1 w htab

open Go.AE
set_option maxRecDepth 100000

/-- with the variables of which some are read -/
noncomputable def envG (fs : List (SX × Int × Int)) (os : List Orc) : Env := envO (envOf Tryz.prog [(23, [1, 1, 2]), (35, [1, 1, 1, 1, 2]), (60, [1, 1, 2]), (64, [1, 1, 1, 2, 2]), (230, [1, 1, 1, 2, 1])] 5 []) fs os
theorem envG_ok {Y : Sy} {fs : List (SX × Int × Int)} {os : List Orc} (h1 : ∀ e l h, (e, l, h) ∈ fs → l ≤ e.val Y ∧ e.val Y ≤ h) (h2 : ∀ q, q ∈ os → OrcOk Y q) : EnvOk Y (envG fs os) := envO_ok (envOk_of env_noNum env_eqs env_mixed env_types (fun _ _ _ h => by cases h)) h1 h2

def pow10A : List AV := (List.range 20).map fun i => .int .u64 ((10 ^ i : Nat) : Int)
noncomputable def gItoa : List (Nat × AObj) := [(4, .held (ofListV pow10A) 20 true)]

theorem pow10A_get {i : Nat} {v : AV} (h : pow10A[i]? = some v) : i < 20 ∧ v = .int .u64 ((10 ^ i : Nat) : Int) := by
  unfold pow10A at h
  rw [List.getElem?_map] at h
  have hi : i < 20 := by
    rcases Nat.lt_or_ge i 20 with h' | h'
    · exact h'
    · rw [List.getElem?_eq_none (by rw [List.length_range]; exact h')] at h; cases h
  rw [List.getElem?_range hi] at h
  cases h
  exact ⟨hi, rfl⟩

theorem g4 : Tryz.prog.globalNamed "internal/strconv.uint64pow10" = some 4 := by kernel_rfl

theorem tab_get (i : Nat) (hi : i < 20) : (Lib.pow10Tab.map fun z => Value.int .u64 z)[i]? = some (.int .u64 ((10 ^ i : Nat) : Int)) := by
  unfold Lib.pow10Tab
  rw [List.map_map, List.getElem?_map, List.getElem?_range hi]
  rfl

theorem tab_of {w : World} {arr : Array Value} {elem : TypeId} {fz : Nat × Nat} (h : w.heap[4]? = some (.cells arr elem fz)) (hs : arr.size = 20) (hc : ∀ i, i < 20 → arr[i]? = some (.int .u64 ((10 ^ i : Nat) : Int))) :
    Lib.TabIs Tryz.prog w "internal/strconv.uint64pow10" .u64 Lib.pow10Tab := by
  unfold Lib.TabIs World.var?
  rw [g4]
  simp only [Option.bind_some, h]
  congr 1
  apply Array.ext'
  apply List.ext_getElem?
  intro i
  by_cases hi : i < 20
  · rw [Array.getElem?_toList, hc i hi]
    exact (tab_get i hi).symm
  · rw [List.getElem?_eq_none (by simp; omega), List.getElem?_eq_none]
    simp [Lib.pow10Tab]
    omega

/-- the table, at the call -/
theorem laidW_of {Y : Sy} {fs : List (SX × Int × Int)} {os : List Orc} {W : World} (h : Lib.TabIs Tryz.prog W "internal/strconv.uint64pow10" .u64 Lib.pow10Tab) : LaidW Y (envG fs os) gItoa W := by
  unfold Lib.TabIs World.var? at h
  rw [g4] at h
  simp only [Option.bind_some] at h
  split at h
  · rename_i cs t fr hb
    cases h
    have h4 : 4 < W.heap.size := by
      rcases Nat.lt_or_ge 4 W.heap.size with h' | h'
      · exact h'
      · rw [Array.getElem?_eq_none h'] at hb; cases hb
    refine ⟨h4, fun b o hm => ?_⟩
    unfold gItoa at hm
    simp only [List.mem_singleton, Prod.mk.injEq] at hm
    obtain ⟨rfl, rfl⟩ := hm
    refine ⟨by show 4 < 5; omega, _, hb, _, t, fr, rfl, by simp [Lib.pow10Tab], fun _ => by simp [Lib.pow10Tab], fun i v hv => ?_⟩
    rw [get_ofListV] at hv
    obtain ⟨hi, rfl⟩ := pow10A_get hv
    refine ⟨hi, rfl, _, rfl, ?_⟩
    show (Lib.pow10Tab.map fun z => Value.int .u64 z).toArray[0 + i]? = _
    rw [Nat.zero_add, List.getElem?_toArray]
    exact tab_get i hi
  · cases h

/-- a call of strconv.Itoa: the decimal form as string i; 'j': how far the blocks are counted -/
noncomputable def qItoa (a : AV) (i j : Nat) : Sum := ⟨181, [a], 20000 * (j + 1), gItoa, .sstr i 1 21, [], 20000 * (j + 1), [4]⟩

theorem has181 (fs : List (SX × Int × Int)) (os : List Orc) : hasBody (envG fs os) 181 = true := by kernel_rfl

theorem itoa_size (n : Int) (h0 : -9223372036854775808 ≤ n) (h1 : n ≤ 9223372036854775807) : 1 ≤ (⟨(Lib.itoa n).toArray⟩ : ByteArray).size ∧ (⟨(Lib.itoa n).toArray⟩ : ByteArray).size ≤ 21 := by
  have hsz : (⟨(Lib.itoa n).toArray⟩ : ByteArray).size = (Lib.itoa n).length := by simp [ByteArray.size]
  rw [hsz]
  refine ⟨?_, Lib.itoa_length_le n h0 h1⟩
  unfold Lib.itoa
  split
  · simp
  · rw [Lib.decDigits_length]; exact Lib.nDigits_pos _

theorem qItoa_ok {Y : Sy} {fs : List (SX × Int × Int)} {os : List Orc} {a : AV} {n : Int} {i : Nat} (ha : ∀ ρ, conc Y ρ a = some (.int .i64 n)) (h0 : -9223372036854775808 ≤ n) (h1 : n ≤ 9223372036854775807) (hi : Nat.ble neFrom i = false) (hY : Y.strs i = ⟨(Lib.itoa n).toArray⟩) (j : Nat) : SumOk Y (envG fs os) (qItoa a i j) := by
  refine ⟨has181 fs os, fun ρ w cargs hr hg hargs => ?_⟩
  obtain ⟨c, r, e1, e2, rfl⟩ := concs_cons.1 hargs
  rw [concs_nil] at e2
  subst e2
  rw [ha] at e1
  cases e1
  have hb : (qItoa a i j).before.get 4 = some (.held (ofListV pow10A) 20 true) := by
    unfold Sum.before
    rw [H.get_bare]
    rfl
  obtain ⟨L, ob, hL, hblk, arr, elem, fz, rfl, hsz, hall, hcells⟩ := hr.obj 4 _ hb rfl
  obtain ⟨cap, hgl⟩ := hg 4 (by show 4 < 5; omega)
  rw [hgl] at hL
  cases hL
  have htab := tab_of (w := w) hblk (by have := hall rfl; simpa using this) fun k hk => by
    have hgk : getV (ofListV pow10A) k = some (.int .u64 ((10 ^ k : Nat) : Int)) := by
      rw [get_ofListV]
      unfold pow10A
      rw [List.getElem?_map, List.getElem?_range hk]
      rfl
    obtain ⟨_, _, cv, c1, c2⟩ := hcells k _ hgk
    cases c1
    simpa using c2
  refine (itoa_calls n h0 h1 w htab).mono fun e w' he => ?_
  obtain ⟨rfl, k, os, rfl⟩ := he
  refine ⟨_, ρ, rfl, ?_, ?_⟩
  · exact Goes.of_below hr (Lib.below_grow _ w (Nat.le_refl _) k os)
  · have hs := itoa_size n h0 h1
    show (if 1 ≤ (Y.strs i).size ∧ (Y.strs i).size ≤ 21 ∧ neOk i (Y.strs i) = true then some (Value.string (Y.strs i)) else none) = _
    rw [hY, if_pos ⟨hs.1, hs.2, by unfold neOk; rw [hi]; rfl⟩]

end Go.Proofs.YtgcmekonnliemaaGreatDoor

namespace Go.Proofs.YtgcmekonnliemaaGreatDoor
open Go.AE
set_option maxRecDepth 100000
theorem hasG4 (os : List Orc) : hasBody (envG [] os) 4 = true := by kernel_rfl
theorem hasG21 (os : List Orc) : hasBody (envG [] os) 21 = true := by kernel_rfl
theorem hasG177 (os : List Orc) : hasBody (envG [] os) 177 = true := by kernel_rfl
theorem hasG50 (os : List Orc) : hasBody (envG [] os) 50 = true := by kernel_rfl
theorem hasG36 (os : List Orc) : hasBody (envG [] os) 36 = true := by kernel_rfl
theorem hasG51 (os : List Orc) : hasBody (envG [] os) 51 = true := by kernel_rfl
theorem hasG30 (os : List Orc) : hasBody (envG [] os) 30 = true := by kernel_rfl
theorem hasG31 (os : List Orc) : hasBody (envG [] os) 31 = true := by kernel_rfl
theorem hasG49 (os : List Orc) : hasBody (envG [] os) 49 = true := by kernel_rfl
theorem hasG34 (os : List Orc) : hasBody (envG [] os) 34 = true := by kernel_rfl

theorem awake_run : evKn env [] 300 100 (.fn 4) [] h0 (fun v _ => sameV v (.bool true)) = true := by kernel_rfl
theorem awake_ret : AE.Returns Tryz.prog 4 [] (.bool true) := Gives.returns (gives_of_run (Y := syL [] []) (env_ok _) KnownOk.nil rfl awake_run) rfl rfl

theorem gOf {Y : Sy} {os : List Orc} {f : FuncId} {args : List AV} {cargs : List Value} {r : AV} {cv : Value} (h : AE.Returns Tryz.prog f cargs cv) (ha : concs Y (fun _ => none) args = some cargs) (hr : conc Y (fun _ => none) r = some cv) : Gives Y (envG [] os) f args r :=
  Gives.of_returns h ha hr

/-- realm.New, at the law's configuration -/
noncomputable def qNew : Sum := ⟨6, [.agg [.i64 0, .i64 9, .i64 5, .i64 99, .i64 0, .i64 0, .i64 0]], 100,
    [],
    .tuple [.ptr 108 0, .i64 0],
    [(102, .map [] 0),
    (103, rowObj [.map 102] 0),
    (104, rowObj [.gslice 568 0 20 0, .nilslice, .gslice 571 0 20 0, .nilslice, .ptr 103 0] 0),
    (105, rowObj [.i64 (-1), .i64 0, .i64 0, .str [], .i64 0, .i64 0] 0),
    (106, .map [] 0),
    (107, rowObj [.slice 105 0 1 1, .map 106] 0),
    (108, rowObj [.i64 0, .i64 0, .i64 0, .i64 0, .i64 9, .i64 5, .i64 99, .i64 0, .i64 0, .i64 0, .niliface, .ptr 104 0, .ptr 107 0, .nilslice, .i64 0, .i64 0, .i64 0, .nilslice, .nilslice] 0),
    (126, rowObj [.i64 1, .i64 0, .str []] 3),
    (150, rowObj [.i64 7, .i64 1, .str []] 3),
    (174, rowObj [.i64 7, .i64 1, .str []] 3),
    (198, rowObj [.i64 7, .i64 1, .str []] 3),
    (222, rowObj [.i64 7, .i64 7, .str []] 3),
    (246, rowObj [.i64 7, .i64 1, .str []] 3),
    (270, rowObj [.i64 7, .i64 11, .str []] 3),
    (294, rowObj [.i64 7, .i64 11, .str []] 3),
    (318, rowObj [.i64 7, .i64 11, .str []] 3),
    (342, rowObj [.i64 7, .i64 1, .str []] 3),
    (366, rowObj [.i64 7, .i64 1, .str []] 3),
    (390, rowObj [.i64 7, .i64 1, .str []] 3),
    (414, rowObj [.i64 7, .i64 1, .str []] 3),
    (438, rowObj [.i64 7, .i64 1, .str []] 3),
    (462, rowObj [.i64 7, .i64 1, .str []] 3),
    (486, rowObj [.i64 7, .i64 1, .str []] 3),
    (510, rowObj [.i64 7, .i64 7, .str []] 3),
    (534, rowObj [.i64 7, .i64 1, .str []] 3),
    (568, rowObj [.i64 1, .i64 0, .i64 17, .i64 0, .gslice 126 0 1 0, .nilslice, .i64 1, .i64 0, .i64 17, .i64 0, .gslice 150 0 1 0, .nilslice, .i64 1, .i64 0, .i64 17, .i64 0, .gslice 174 0 1 0, .nilslice, .i64 1, .i64 0, .i64 17, .i64 0, .gslice 198 0 1 0, .nilslice, .i64 1, .i64 0, .i64 17, .i64 0, .gslice 222 0 1 0, .nilslice, .i64 1, .i64 0, .i64 17, .i64 0, .gslice 246 0 1 0, .nilslice, .i64 1, .i64 0, .i64 17, .i64 0, .gslice 270 0 1 0, .nilslice, .i64 1, .i64 0, .i64 17, .i64 0, .gslice 294 0 1 0, .nilslice, .i64 1, .i64 0, .i64 17, .i64 0, .gslice 318 0 1 0, .nilslice, .i64 1, .i64 0, .i64 17, .i64 0, .gslice 342 0 1 0, .nilslice, .i64 1, .i64 0, .i64 17, .i64 0, .gslice 366 0 1 0, .nilslice, .i64 1, .i64 0, .i64 17, .i64 0, .gslice 390 0 1 0, .nilslice, .i64 1, .i64 0, .i64 17, .i64 0, .gslice 414 0 1 0, .nilslice, .i64 1, .i64 0, .i64 17, .i64 0, .gslice 438 0 1 0, .nilslice, .i64 1, .i64 0, .i64 17, .i64 0, .gslice 462 0 1 0, .nilslice, .i64 1, .i64 0, .i64 17, .i64 0, .gslice 486 0 1 0, .nilslice, .i64 1, .i64 0, .i64 17, .i64 0, .gslice 510 0 1 0, .nilslice, .i64 1, .i64 0, .i64 1, .i64 0, .gslice 534 0 1 0, .nilslice, .i64 11, .i64 0, .i64 0, .i64 0, .nilslice, .nilslice, .i64 11, .i64 0, .i64 0, .i64 0, .nilslice, .nilslice] 6),
    (571, rowObj [.i64 7, .i64 1, .str [], .i64 7, .i64 3, .str [], .i64 7, .i64 5, .str [], .i64 7, .i64 7, .str [], .i64 7, .i64 9, .str [], .i64 7, .i64 11, .str [], .i64 7, .i64 13, .str [], .i64 7, .i64 15, .str [], .i64 7, .i64 17, .str [], .i64 7, .i64 19, .str [], .i64 7, .i64 21, .str [], .i64 7, .i64 23, .str [], .i64 7, .i64 25, .str [], .i64 7, .i64 27, .str [], .i64 7, .i64 29, .str [], .i64 7, .i64 31, .str [], .i64 7, .i64 33, .str [], .i64 7, .i64 35, .str [], .i64 9, .i64 37, .str [], .i64 9, .i64 39, .str []] 3)],
    572, []⟩
theorem qNew_run : evSm (envG [] []) [] [] 300 100 (.fn qNew.f) qNew.args qNew.before qNew.ask = true := by kernel_rfl
theorem qNew_ok (Y : Sy) (os : List Orc) : SumOk Y (envG [] os) qNew :=
  SumOk.envO [] os (sum_of_run (E := envG [] []) (envG_ok facts_nil (fun _ h => orcs_nil h)) KnownOk.nil SumsOk.nil (by kernel_rfl) qNew_run)

abbrev Tab (w : World) : Prop := Lib.TabIs Tryz.prog w "internal/strconv.uint64pow10" .u64 Lib.pow10Tab
abbrev Says (op : ByteArray) (ka na : Int) (sa : ByteArray) (kb nb : Int) (sb : ByteArray) (w : World) : Prop := Calls Tryz.prog 3 #[.string op, vC ka na sa, vC kb nb sb] w fun e w' => e = .returned (.bool true) ∧ RowKit.Below w.heap.size w w'

theorem heapOk : (envG [] []).ng ≤ 5 := Nat.le_refl _

/-- the law's call, from a run -/
theorem fin_run {Y : Sy} {os : List Orc} {kn : List Known} {ss : List Sum} {o a b : AV} {op sa sb : ByteArray} {ka na kb nb : Int} {w : World} (htab : Tab w) (hos : ∀ q, q ∈ os → OrcOk Y q) (hkn : KnownOk Y (envG [] os) kn) (hss : SumsOk Y (envG [] os) ss)
    (ho : IsS Y o op) (ha : ∀ ρ, conc Y ρ a = some (vC ka na sa)) (hb : ∀ ρ, conc Y ρ b = some (vC kb nb sb))
    (run : evSm (envG [] os) kn ss 300 100 (.fn 3) [o, a, b] (heapG gItoa 5) (fun v _ => sameV v (.bool true)) = true) : Says op ka na sa kb nb sb w := by
  refine (laid_run (envG_ok facts_nil hos) hkn hss heapOk run (cargs := [.string op, vC ka na sa, vC kb nb sb]) (concs_cons.2 ⟨_, _, ho _, concs_cons.2 ⟨_, _, ha _, concs_cons.2 ⟨_, _, hb _, rfl, rfl⟩, rfl⟩, rfl⟩) (laidW_of htab)).mono fun e w' he => ?_
  obtain ⟨cv, rfl, h1, h2⟩ := he
  cases h1
  exact ⟨rfl, h2⟩

theorem KnownOk.append {Y : Sy} {E : Env} {a b : List Known} (ha : KnownOk Y E a) (hb : KnownOk Y E b) : KnownOk Y E (a ++ b) := fun q hq => by
  rcases List.mem_append.1 hq with h | h
  · exact ha q h
  · exact hb q h

/-! ### Classes -/
def syP (l : List Int) (s : List ByteArray) : Sy := syL l s

noncomputable def aG (j : Nat) : AV := .agg [.sint .i64 (.var (2 * j)) 0 5, .sint .i64 (.var (2 * j + 1)) (-9223372036854775808) 9223372036854775807, .sstr j 0 300]
noncomputable def aP (j : Nat) : AV := .agg [.sint .i64 (.var (2 * j)) 0 4, .sint .i64 (.var (2 * j + 1)) (-9007199254740992) 9007199254740992, .str []]
noncomputable def aT (j : Nat) : AV := .agg [.i64 5, .i64 0, .sstr j 0 300]
noncomputable def aS (j : Nat) : AV := .agg [.i64 6, .sint .i64 (.var (2 * j + 1)) 1 2, .str []]
noncomputable def aN (j : Nat) : AV := .agg [.i64 3, .sint .i64 (.var (2 * j + 1)) (-9007199254740992) 9007199254740992, .str []]
noncomputable def aC (k n : Int) : AV := .agg [.i64 k, .i64 n, .str []]
/-- its number -/
noncomputable def xA (j : Nat) : AV := .agg [.sint .i64 (.var (4 + 2 * j)) 3 4, .sint .i64 (.var (5 + 2 * j)) (-9007199254740992) 9007199254740992, .str []]
/-- what an operator answers -/
noncomputable def rA (i : Nat) : AV := .agg [.sint .i64 (.var i) 2 4, .sint .i64 (.var (i + 1)) (-9007199254740992) 9007199254740992, .str []]
noncomputable def k4 : List Known := [⟨4, [], .bool true⟩]
noncomputable def knV (a : AV) (j : Nat) : List Known := [⟨21, [a], .bool true⟩, ⟨177, [a], .bool true⟩, ⟨50, [a], .tuple [xA j, .i64 0]⟩, ⟨50, [xA j], .tuple [xA j, .i64 0]⟩]

/-- a valid value that is no object and no symbol, and its number -/
structure VG (k n : Int) (s : ByteArray) (kx nx : Int) : Prop where
  pl : Pl k n s
  low : k ≤ 5
  fit : fits k n s
  may : mayP k n s.size = true
  num : IsNum (vC kx nx ByteArray.empty)
  to : AE.Returns Tryz.prog 50 [vC k n s] (.tuple #[vC kx nx ByteArray.empty, .int .i64 0])

/-- a symbol -/
def VS (k n : Int) (s : ByteArray) : Prop := k = 6 ∧ (1 ≤ n ∧ n ≤ 2) ∧ s = ByteArray.empty

theorem VG.size {k n kx nx : Int} {s : ByteArray} (h : VG k n s kx nx) : 0 ≤ k ∧ s.size ≤ 300 := by
  cases h.pl with
  | t _ hs => exact ⟨by omega, hs⟩
  | _ => exact ⟨by omega, by decide⟩

theorem isNum_in {k n : Int} (h : IsNum (vC k n ByteArray.empty)) : 3 ≤ k ∧ k ≤ 4 ∧ -9007199254740992 ≤ n ∧ n ≤ 9007199254740992 := by
  rcases h with h | ⟨m, hm, h⟩
  · injection h with h
    injection h with h
    injection h with h1 h
    injection h with h2 h
    injection h1 with _ h1
    injection h2 with _ h2
    omega
  · injection h with h
    injection h with h
    injection h with h1 h
    injection h with h2 h
    injection h1 with _ h1
    injection h2 with _ h2
    omega

section
variable {Y : Sy} {os : List Orc} {k n kx nx : Int} {s : ByteArray} {j : Nat}

theorem isI_var {i : Nat} {k : IntKind} {l h n : Int} (hn : Y.ints i = n) (h1 : l ≤ n) (h2 : n ≤ h) : IsI Y (.sint k (.var i) l h) k n := isI_sym (e := .var i) hn h1 h2

theorem xA_ok (h1 : Y.ints (4 + 2 * j) = kx) (h2 : Y.ints (5 + 2 * j) = nx) (h : IsNum (vC kx nx ByteArray.empty)) (ρ : Rho) : conc Y ρ (xA j) = some (vC kx nx ByteArray.empty) := by
  have hi := isNum_in h
  exact conc_val (isI_var h1 hi.1 hi.2.1) (isI_var h2 hi.2.2.1 hi.2.2.2) isE rfl ρ

theorem rA_ok {i : Nat} (h1 : Y.ints i = kx) (h2 : Y.ints (i + 1) = nx) (h3 : 2 ≤ kx) (h4 : kx ≤ 4) (h5 : -9007199254740992 ≤ nx) (h6 : nx ≤ 9007199254740992) (ρ : Rho) : conc Y ρ (rA i) = some (vC kx nx ByteArray.empty) :=
  conc_val (isI_var h1 h3 h4) (isI_var h2 h5 h6) isE rfl ρ

theorem aG_ok (h1 : Y.ints (2 * j) = k) (h2 : Y.ints (2 * j + 1) = n) (h3 : Y.strs j = s) (hj : Nat.ble neFrom j = false) (h : VG k n s kx nx) (ρ : Rho) : conc Y ρ (aG j) = some (vC k n s) :=
  conc_val (isI_var h1 h.size.1 h.low) (isI_var h2 h.fit.2.1.1 h.fit.2.1.2) (isS_sym h3 (Nat.zero_le _) h.size.2 hj) rfl ρ

theorem aS_ok (h2 : Y.ints (2 * j + 1) = n) (h : VS k n s) (ρ : Rho) : conc Y ρ (aS j) = some (vC k n s) := by
  obtain ⟨rfl, hn, rfl⟩ := h
  exact conc_val (isI_64 6) (isI_var h2 hn.1 hn.2) isE rfl ρ

theorem aP_ok (h1 : Y.ints (2 * j) = k) (h2 : Y.ints (2 * j + 1) = n) (h : VG k n s kx nx) (hk : k ≠ 5) (ρ : Rho) : conc Y ρ (aP j) = some (vC k n s) := by
  have h0 := h.size.1
  have hl := h.low
  have hn : -9007199254740992 ≤ n ∧ n ≤ 9007199254740992 ∧ s = ByteArray.empty := by
    cases h.pl with
    | t _ _ => exact absurd rfl hk
    | n _ hm => exact ⟨hm.1, hm.2, rfl⟩
    | b _ hm => exact ⟨by omega, by omega, rfl⟩
    | s _ hm => exact ⟨by omega, by omega, rfl⟩
    | _ => exact ⟨by omega, by omega, rfl⟩
  obtain ⟨n1, n2, rfl⟩ := hn
  exact conc_val (isI_var h1 h0 (by omega)) (isI_var h2 n1 n2) isE rfl ρ

theorem aT_ok {n : Int} (h3 : Y.strs j = s) (hj : Nat.ble neFrom j = false) (h : VG 5 n s kx nx) (ρ : Rho) : conc Y ρ (aT j) = some (vC 5 n s) := by
  have hs := h.size.2
  have hn : n = 0 := by
    cases h.pl with
    | t _ _ => rfl
  subst hn
  exact conc_val (isI_64 5) (isI_64 0) (isS_sym h3 (Nat.zero_le _) hs hj) rfl ρ

theorem knV_ok {a : AV} (ha : ∀ ρ, conc Y ρ a = some (vC k n s)) (h1 : Y.ints (4 + 2 * j) = kx) (h2 : Y.ints (5 + 2 * j) = nx) (h : VG k n s kx nx) : KnownOk Y (envG [] os) (knV a j) := by
  have h21 : AE.Returns Tryz.prog 21 [vC k n s] (.bool true) := by
    have := may_ret k n s h.fit.1 h.fit.2.1 h.fit.2.2
    rw [h.may] at this
    exact this
  exact KnownOk.cons (hasG21 os) (gOf h21 (concs1 ha) rfl) (KnownOk.cons (hasG177 os) (gOf (cmay_ret k n s ⟨h.size.1, h.low⟩ h.may) (concs1 ha) rfl)
    (KnownOk.cons (hasG50 os) (gOf h.to (concs1 ha) (tup_ok (xA_ok h1 h2 h.num))) (KnownOk.nil.cons (hasG50 os) (gOf (num_self h.num) (concs1 (xA_ok h1 h2 h.num)) (tup_ok (xA_ok h1 h2 h.num))))))

theorem k4_ok : KnownOk Y (envG [] os) k4 := KnownOk.nil.cons (hasG4 os) (gOf awake_ret rfl rfl)
theorem k0_ok : KnownOk Y (envG [] os) [] := KnownOk.nil

theorem sNew_ok : SumsOk Y (envG [] os) [qNew] := SumsOk.nil.cons (qNew_ok Y os)

end

end Go.Proofs.YtgcmekonnliemaaGreatDoor
