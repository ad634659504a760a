/-
  strconv.Itoa of this program: the decimal form of every number (the kit's contract, laid at this program in plain words by the kit's tool).
-/
import Derived.Shelf.LaysM
import Derived.Shelf.Strconv.Itoa3
import Derived.Lib.ItoaLen
import Derived.WalkSmall
import Derived.ChangeBears2
import Derived.Test.YtbldcbjmfldbfaaGreatDoorAeEnv
import Derived.Test.YtbldcbjmfldbfaaGreatDoorAeHead
import Derived.Test.YtbldcbjmfldbfaaGreatDoorAeGlob
import Derived.Test.YtbldcbjmfldbfaaGreatDoorAeIndex
import Derived.Lib.ItoaMem
import Derived.Lib.AppendIntMem
namespace Go.Proofs.YtbldcbjmfldbfaaGreatDoor
open Go.Shelf

def itoaRen : Go.Shelf.Ren := ⟨fun | 171 => 234 | 243 => 268 | 246 => 299 | 283 => 327 | 284 => 328 | 285 => 329 | 286 => 330 | 129 => 349 | 317 => 348 | 318 => 350 | 319 => 351 | 320 => 352 | 337 => 370 | 338 => 371 | n => n, fun | 3 => 3 | 9 => 9 | 2 => 2 | 4 => 4 | 171 => 351 | 0 => 0 | 53 => 268 | 37 => 354 | 5 => 5 | 173 => 355 | 212 => 380 | 51 => 250 | 20 => 20 | 213 => 381 | 46 => 358 | 232 => 401 | 233 => 402 | n => n, fun | 17 => 4 | 18 => 5 | 19 => 6 | n => n⟩
theorem itoaLays : Go.Proofs.LaysM.n171 Tryz.prog itoaRen := {
  mixed := by kernel_rfl
  f129 := Tryz.func349.trans (congrArg some (by kernel_rfl))
  f171 := Tryz.func234.trans (congrArg some (by kernel_rfl))
  f243 := Tryz.func268.trans (congrArg some (by kernel_rfl))
  f246 := Tryz.func299.trans (congrArg some (by kernel_rfl))
  f283 := Tryz.func327.trans (congrArg some (by kernel_rfl))
  f284 := Tryz.func328.trans (congrArg some (by kernel_rfl))
  f285 := Tryz.func329.trans (congrArg some (by kernel_rfl))
  f286 := Tryz.func330.trans (congrArg some (by kernel_rfl))
  f317 := Tryz.func348.trans (congrArg some (by kernel_rfl))
  f318 := Tryz.func350.trans (congrArg some (by kernel_rfl))
  f319 := Tryz.func351.trans (congrArg some (by kernel_rfl))
  f320 := Tryz.func352.trans (congrArg some (by kernel_rfl))
  f337 := Tryz.func370.trans (congrArg some (by kernel_rfl))
  f338 := Tryz.func371.trans (congrArg some (by kernel_rfl))
  t0 := Tryz.underlying0
  a0 := Tryz.isAgg0
  z0 := Tryz.sizeOf0
  v0 := Tryz.zeroValue0
  t2 := Tryz.underlying2
  a2 := Tryz.isAgg2
  z2 := Tryz.sizeOf2
  v2 := Tryz.zeroValue2
  t3 := Tryz.underlying3
  a3 := Tryz.isAgg3
  z3 := Tryz.sizeOf3
  v3 := Tryz.zeroValue3
  t4 := Tryz.underlying4
  a4 := Tryz.isAgg4
  z4 := Tryz.sizeOf4
  v4 := Tryz.zeroValue4
  t5 := Tryz.underlying5
  a5 := Tryz.isAgg5
  z5 := Tryz.sizeOf5
  v5 := Tryz.zeroValue5
  t9 := Tryz.underlying9
  a9 := Tryz.isAgg9
  z9 := Tryz.sizeOf9
  v9 := Tryz.zeroValue9
  t20 := Tryz.underlying20
  a20 := Tryz.isAgg20
  z20 := Tryz.sizeOf20
  v20 := Tryz.zeroValue20
  t37 := Tryz.underlying354
  a37 := Tryz.isAgg354
  z37 := Tryz.sizeOf354
  v37 := Tryz.zeroValue354
  t46 := Tryz.underlying358
  a46 := Tryz.isAgg358
  z46 := Tryz.sizeOf358
  v46 := Tryz.zeroValue358
  t51 := Tryz.underlying250
  a51 := Tryz.isAgg250
  z51 := Tryz.sizeOf250
  v51 := Tryz.zeroValue250
  t53 := Tryz.underlying268
  a53 := Tryz.isAgg268
  z53 := Tryz.sizeOf268
  v53 := Tryz.zeroValue268
  t171 := Tryz.underlying351
  a171 := Tryz.isAgg351
  z171 := Tryz.sizeOf351
  v171 := Tryz.zeroValue351
  t173 := Tryz.underlying355
  a173 := Tryz.isAgg355
  z173 := Tryz.sizeOf355
  v173 := Tryz.zeroValue355
  t212 := Tryz.underlying380
  a212 := Tryz.isAgg380
  z212 := Tryz.sizeOf380
  v212 := Tryz.zeroValue380
  t213 := Tryz.underlying381
  a213 := Tryz.isAgg381
  z213 := Tryz.sizeOf381
  t232 := Tryz.underlying401
  a232 := Tryz.isAgg401
  z232 := Tryz.sizeOf401
  v232 := Tryz.zeroValue401
  t233 := Tryz.underlying402
  a233 := Tryz.isAgg402
  z233 := Tryz.sizeOf402
  v233 := Tryz.zeroValue402
  g17 := by kernel_rfl
  g18 := by kernel_rfl
  g19 := by kernel_rfl
  i0 := by kernel_rfl
  i2 := by kernel_rfl
  i3 := by kernel_rfl
  i4 := by kernel_rfl
  i5 := by kernel_rfl
  i9 := by kernel_rfl
  i20 := by kernel_rfl
  i37 := by kernel_rfl
  i46 := by kernel_rfl
  i51 := by kernel_rfl
  i53 := by kernel_rfl
  i171 := by kernel_rfl
  i173 := by kernel_rfl
  i212 := by kernel_rfl
  i232 := by kernel_rfl
  i233 := by kernel_rfl
  m17 := by kernel_rfl
  m18 := by kernel_rfl
  m19 := by kernel_rfl }
theorem itoa_calls (n : Int) (h0 : -9223372036854775808 ≤ n) (h1 : n ≤ 9223372036854775807) (w : World) (htab : Lib.TabIs Tryz.prog w "internal/strconv.uint64pow10" .u64 Lib.pow10Tab) :
    Calls Tryz.prog 234 #[.int .i64 n] w fun e w' => e = .returned (.string ⟨(Lib.itoa n).toArray⟩) ∧ ∃ k os, w' = Sort.grow (w.drewN k) os := Any.strconv_Itoa itoaLays n h0 h1 w htab

open Go.AE
set_option maxRecDepth 100000

/-- with the variables of which some are read -/
noncomputable def envG (fs : List (SX × Int × Int)) : Env := envOf Tryz.prog [(23, [1, 1, 2]), (35, [1, 1, 1, 1, 2]), (45, [1, 1, 2]), (47, [1, 1, 1, 2, 2]), (246, [1, 1, 1, 2, 1])] 5 fs
theorem envG_ok {Y : Sy} {fs : List (SX × Int × Int)} (h : ∀ e l h, (e, l, h) ∈ fs → l ≤ e.val Y ∧ e.val Y ≤ h) : EnvOk Y (envG fs) := envOk_of env_noNum env_eqs env_mixed env_types h

def pow10A : List AV := (List.range 20).map fun i => .int .u64 ((10 ^ i : Nat) : Int)
noncomputable def gItoa : List (Nat × AObj) := [(4, .held (ofListV pow10A) 20 true)]

theorem pow10A_get {i : Nat} {v : AV} (h : pow10A[i]? = some v) : i < 20 ∧ v = .int .u64 ((10 ^ i : Nat) : Int) := by
  unfold pow10A at h
  rw [List.getElem?_map] at h
  have hi : i < 20 := by
    rcases Nat.lt_or_ge i 20 with h' | h'
    · exact h'
    · rw [List.getElem?_eq_none (by rw [List.length_range]; exact h')] at h; cases h
  rw [List.getElem?_range hi] at h
  cases h
  exact ⟨hi, rfl⟩

theorem g4 : Tryz.prog.globalNamed "internal/strconv.uint64pow10" = some 4 := by kernel_rfl

theorem tab_get (i : Nat) (hi : i < 20) : (Lib.pow10Tab.map fun z => Value.int .u64 z)[i]? = some (.int .u64 ((10 ^ i : Nat) : Int)) := by
  unfold Lib.pow10Tab
  rw [List.map_map, List.getElem?_map, List.getElem?_range hi]
  rfl

theorem tab_of {w : World} {arr : Array Value} {elem : TypeId} {fz : Nat × Nat} (h : w.heap[4]? = some (.cells arr elem fz)) (hs : arr.size = 20) (hc : ∀ i, i < 20 → arr[i]? = some (.int .u64 ((10 ^ i : Nat) : Int))) :
    Lib.TabIs Tryz.prog w "internal/strconv.uint64pow10" .u64 Lib.pow10Tab := by
  unfold Lib.TabIs World.var?
  rw [g4]
  simp only [Option.bind_some, h]
  congr 1
  apply Array.ext'
  apply List.ext_getElem?
  intro i
  by_cases hi : i < 20
  · rw [Array.getElem?_toList, hc i hi]
    exact (tab_get i hi).symm
  · rw [List.getElem?_eq_none (by simp; omega), List.getElem?_eq_none]
    simp [Lib.pow10Tab]
    omega

/-- the table, at the call -/
theorem laidW_of {Y : Sy} {fs : List (SX × Int × Int)} {W : World} (h : Lib.TabIs Tryz.prog W "internal/strconv.uint64pow10" .u64 Lib.pow10Tab) : LaidW Y (envG fs) gItoa W := by
  unfold Lib.TabIs World.var? at h
  rw [g4] at h
  simp only [Option.bind_some] at h
  split at h
  · rename_i cs t fr hb
    cases h
    have h4 : 4 < W.heap.size := by
      rcases Nat.lt_or_ge 4 W.heap.size with h' | h'
      · exact h'
      · rw [Array.getElem?_eq_none h'] at hb; cases hb
    refine ⟨h4, fun b o hm => ?_⟩
    unfold gItoa at hm
    simp only [List.mem_singleton, Prod.mk.injEq] at hm
    obtain ⟨rfl, rfl⟩ := hm
    refine ⟨by show 4 < 5; omega, _, hb, _, t, fr, rfl, by simp [Lib.pow10Tab], fun _ => by simp [Lib.pow10Tab], fun i v hv => ?_⟩
    rw [get_ofListV] at hv
    obtain ⟨hi, rfl⟩ := pow10A_get hv
    refine ⟨hi, rfl, _, rfl, ?_⟩
    show (Lib.pow10Tab.map fun z => Value.int .u64 z).toArray[0 + i]? = _
    rw [Nat.zero_add, List.getElem?_toArray]
    exact tab_get i hi
  · cases h

/-- a call of strconv.Itoa: the decimal form as string i; 'j': how far the blocks are counted -/
noncomputable def qItoa (a : AV) (i j : Nat) : Sum := ⟨234, [a], 20000 * (j + 1), gItoa, .sstr i 1 21, [], 20000 * (j + 1), [4]⟩

theorem has234 (fs : List (SX × Int × Int)) : hasBody (envG fs) 234 = true := by kernel_rfl

theorem itoa_size (n : Int) (h0 : -9223372036854775808 ≤ n) (h1 : n ≤ 9223372036854775807) : 1 ≤ (⟨(Lib.itoa n).toArray⟩ : ByteArray).size ∧ (⟨(Lib.itoa n).toArray⟩ : ByteArray).size ≤ 21 := by
  have hsz : (⟨(Lib.itoa n).toArray⟩ : ByteArray).size = (Lib.itoa n).length := by simp [ByteArray.size]
  rw [hsz]
  refine ⟨?_, Lib.itoa_length_le n h0 h1⟩
  unfold Lib.itoa
  split
  · simp
  · rw [Lib.decDigits_length]; exact Lib.nDigits_pos _

theorem itoa_ne (n : Int) (i : Nat) : neOk i ⟨(Lib.itoa n).toArray⟩ = true := by
  have key : ∀ l : List UInt8, l = Lib.itoa n → l ≠ [108, 101, 110, 103, 116, 104] := by
    intro l hl e
    rw [e] at hl
    unfold Lib.itoa at hl
    split at hl
    · exact absurd (List.cons.inj hl).1 (by decide)
    · have h1 : (108 : UInt8) ∈ Lib.decDigits n.toNat := by rw [← hl]; simp
      have := dec_dig _ _ h1
      have e2 : (108 : UInt8).toNat = 108 := rfl
      omega
  unfold neOk
  have e : (neList.all fun c => !((⟨(Lib.itoa n).toArray⟩ : ByteArray).toList == (bytesV c).toList)) = true := by
    rw [List.all_eq_true]
    intro c hc
    unfold neList at hc
    simp only [List.mem_singleton] at hc
    subst hc
    rw [ByteArray.toList_eq, ByteArray.toList_eq]
    simp only [Bool.not_eq_true', beq_eq_false_iff_ne, ne_eq]
    exact key _ rfl
  rw [e, Bool.or_true]

theorem qItoa_ok {Y : Sy} {fs : List (SX × Int × Int)} {a : AV} {n : Int} {i : Nat} (ha : ∀ ρ, conc Y ρ a = some (.int .i64 n)) (h0 : -9223372036854775808 ≤ n) (h1 : n ≤ 9223372036854775807) (hY : Y.strs i = ⟨(Lib.itoa n).toArray⟩) (j : Nat) : SumOk Y (envG fs) (qItoa a i j) := by
  refine ⟨has234 fs, fun ρ w cargs hr hg hargs => ?_⟩
  obtain ⟨c, r, e1, e2, rfl⟩ := concs_cons.1 hargs
  rw [concs_nil] at e2
  subst e2
  rw [ha] at e1
  cases e1
  have hb : (qItoa a i j).before.get 4 = some (.held (ofListV pow10A) 20 true) := by
    unfold Sum.before
    rw [H.get_bare]
    rfl
  obtain ⟨L, ob, hL, hblk, arr, elem, fz, rfl, hsz, hall, hcells⟩ := hr.obj 4 _ hb rfl
  obtain ⟨cap, hgl⟩ := hg 4 (by show 4 < 5; omega)
  rw [hgl] at hL
  cases hL
  have htab := tab_of (w := w) hblk (by have := hall rfl; simpa using this) fun k hk => by
    have hgk : getV (ofListV pow10A) k = some (.int .u64 ((10 ^ k : Nat) : Int)) := by
      rw [get_ofListV]
      unfold pow10A
      rw [List.getElem?_map, List.getElem?_range hk]
      rfl
    obtain ⟨_, _, cv, c1, c2⟩ := hcells k _ hgk
    cases c1
    simpa using c2
  refine (itoa_calls n h0 h1 w htab).mono fun e w' he => ?_
  obtain ⟨rfl, k, os, rfl⟩ := he
  refine ⟨_, ρ, rfl, ?_, ?_⟩
  · exact Goes.of_below hr (Lib.below_grow _ w (Nat.le_refl _) k os)
  · have hs := itoa_size n h0 h1
    show (if 1 ≤ (Y.strs i).size ∧ (Y.strs i).size ≤ 21 ∧ neOk i (Y.strs i) = true then some (Value.string (Y.strs i)) else none) = _
    rw [hY, if_pos ⟨hs.1, hs.2, itoa_ne n i⟩]

end Go.Proofs.YtbldcbjmfldbfaaGreatDoor
