/-
  The law AbsopStores: the classes of the keys, what is known of their texts, and how a run answers for the law.
-/
import Derived.Test.YtbldcbjmfldbfaaGreatDoorAeSto
namespace Go.Proofs.YtbldcbjmfldbfaaGreatDoor
open Go.AE
set_option maxRecDepth 100000

noncomputable def g6A : AV := .agg [.i64 6, .sint .i64 (.var 3) 1 2, .str []]
noncomputable def k0 : List Known := [⟨4, [], .bool true⟩, ⟨22, [g0.av 1], .bool true⟩, ⟨171, [g0.av 1], .bool true⟩]
noncomputable def k6 : List Known := [⟨4, [], .bool true⟩]
noncomputable def kTno : List Known := [⟨97, [.sstr 100 0 300], noIdx⟩, ⟨49, [.sstr 100 0 300], noIdx⟩]
noncomputable def kTix : List Known := [⟨97, [.sstr 0 0 300], .tuple [.sint .i64 (.var 4) 0 4294967294, .bool true]⟩, ⟨97, [.sstr 105 1 21], .tuple [.sint .i64 (.var 4) 0 4294967294, .bool true]⟩]
noncomputable def kNno : List Known := [⟨97, [.sstr 104 1 21], noIdx⟩, ⟨49, [.sstr 104 1 21], noIdx⟩]
noncomputable def kNix : List Known := [⟨97, [.sstr 104 1 21], .tuple [.sint .i64 (.var 4) 0 4294967294, .bool true]⟩, ⟨97, [.sstr 105 1 21], .tuple [.sint .i64 (.var 4) 0 4294967294, .bool true]⟩]
noncomputable def kN : List Known := []
noncomputable def sN : List Sum := []
noncomputable def aA : AV := .sint .i64 (.var 1) (-9007199254740992) 9007199254740992
noncomputable def aB : AV := .sint .i64 (.var 4) 0 4294967294
noncomputable def sA : List Sum := [qItoa aA 104 0, qItoa aA 104 1, qItoa aA 104 2, qItoa aA 104 3, qItoa aA 104 4, qItoa aA 104 5, qItoa aA 104 6, qItoa aA 104 7, qItoa aA 104 8, qItoa aA 104 9, qItoa aA 104 10, qItoa aA 104 11, qItoa aA 104 12, qItoa aA 104 13, qItoa aA 104 14, qItoa aA 104 15, qItoa aA 104 16, qItoa aA 104 17, qItoa aA 104 18, qItoa aA 104 19, qItoa aA 104 20, qItoa aA 104 21, qItoa aA 104 22, qItoa aA 104 23, qItoa aA 104 24, qItoa aA 104 25, qItoa aA 104 26, qItoa aA 104 27, qItoa aA 104 28, qItoa aA 104 29, qItoa aA 104 30, qItoa aA 104 31, qItoa aA 104 32, qItoa aA 104 33, qItoa aA 104 34, qItoa aA 104 35, qItoa aA 104 36, qItoa aA 104 37, qItoa aA 104 38, qItoa aA 104 39, qItoa aA 104 40, qItoa aA 104 41, qItoa aA 104 42, qItoa aA 104 43, qItoa aA 104 44, qItoa aA 104 45, qItoa aA 104 46, qItoa aA 104 47, qItoa aA 104 48, qItoa aA 104 49, qItoa aA 104 50, qItoa aA 104 51, qItoa aA 104 52, qItoa aA 104 53, qItoa aA 104 54, qItoa aA 104 55, qItoa aA 104 56, qItoa aA 104 57, qItoa aA 104 58, qItoa aA 104 59]
noncomputable def sB : List Sum := [qItoa aB 105 0, qItoa aB 105 1, qItoa aB 105 2, qItoa aB 105 3, qItoa aB 105 4, qItoa aB 105 5, qItoa aB 105 6, qItoa aB 105 7, qItoa aB 105 8, qItoa aB 105 9, qItoa aB 105 10, qItoa aB 105 11, qItoa aB 105 12, qItoa aB 105 13, qItoa aB 105 14, qItoa aB 105 15, qItoa aB 105 16, qItoa aB 105 17, qItoa aB 105 18, qItoa aB 105 19, qItoa aB 105 20, qItoa aB 105 21, qItoa aB 105 22, qItoa aB 105 23, qItoa aB 105 24, qItoa aB 105 25, qItoa aB 105 26, qItoa aB 105 27, qItoa aB 105 28, qItoa aB 105 29, qItoa aB 105 30, qItoa aB 105 31, qItoa aB 105 32, qItoa aB 105 33, qItoa aB 105 34, qItoa aB 105 35, qItoa aB 105 36, qItoa aB 105 37, qItoa aB 105 38, qItoa aB 105 39, qItoa aB 105 40, qItoa aB 105 41, qItoa aB 105 42, qItoa aB 105 43, qItoa aB 105 44, qItoa aB 105 45, qItoa aB 105 46, qItoa aB 105 47, qItoa aB 105 48, qItoa aB 105 49, qItoa aB 105 50, qItoa aB 105 51, qItoa aB 105 52, qItoa aB 105 53, qItoa aB 105 54, qItoa aB 105 55, qItoa aB 105 56, qItoa aB 105 57, qItoa aB 105 58, qItoa aB 105 59]
noncomputable def a_und : AV := .agg [.i64 0, .i64 0, .str []]
noncomputable def a_nul : AV := .agg [.i64 1, .i64 0, .str []]
noncomputable def a_bo0 : AV := .agg [.i64 2, .i64 0, .str []]
noncomputable def a_bo1 : AV := .agg [.i64 2, .i64 1, .str []]
noncomputable def a_nan : AV := .agg [.i64 4, .i64 0, .str []]
noncomputable def a_sym : AV := .agg [.i64 6, .sint .i64 (.var 1) 1 2, .str []]
noncomputable def a_len : AV := .agg [.i64 5, .i64 0, .str [108, 101, 110, 103, 116, 104]]
noncomputable def a_tno : AV := .agg [.i64 5, .i64 0, .sstr 100 0 300]
noncomputable def a_tix : AV := .agg [.i64 5, .i64 0, .sstr 0 0 300]
noncomputable def a_nno : AV := .agg [.i64 3, .sint .i64 (.var 1) (-9007199254740992) 9007199254740992, .str []]
noncomputable def a_nix : AV := .agg [.i64 3, .sint .i64 (.var 1) (-9007199254740992) 9007199254740992, .str []]

theorem empty_of {s : ByteArray} (h : s.size = 0) : s = ByteArray.empty := by
  apply ByteArray.ext
  exact Array.eq_empty_of_size_eq_zero h

section
variable {Y : Sy} {ρ : Rho}

theorem conc_i64 (k n : Int) : conc Y ρ (.agg [.i64 k, .i64 n, .str []]) = some (vC k n ByteArray.empty) := rfl

theorem conc_num {i : Nat} {k a b : Int} (h1 : a ≤ Y.ints i) (h2 : Y.ints i ≤ b) : conc Y ρ (.agg [.i64 k, .sint .i64 (.var i) a b, .str []]) = some (vC k (Y.ints i) ByteArray.empty) := by
  have e : conc Y ρ (.sint .i64 (.var i) a b) = some (.int .i64 (Y.ints i)) := if_pos ⟨h1, h2⟩
  have hc : concs Y ρ [.i64 k, .sint .i64 (.var i) a b, .str []] = some [.int .i64 k, .int .i64 (Y.ints i), .string ByteArray.empty] :=
    concs_cons.2 ⟨_, _, rfl, concs_cons.2 ⟨_, _, e, concs_cons.2 ⟨_, _, rfl, rfl, rfl⟩, rfl⟩, rfl⟩
  have hall : ([.i64 k, .sint .i64 (.var i) a b, .str []] : List AV).all isCell = true := rfl
  rw [conc, if_pos hall, hc]
  rfl

theorem conc_text {i l u : Nat} {k n : Int} (h1 : l ≤ (Y.strs i).size) (h2 : (Y.strs i).size ≤ u) (h3 : neOk i (Y.strs i) = true) : conc Y ρ (.agg [.i64 k, .i64 n, .sstr i l u]) = some (vC k n (Y.strs i)) := by
  have e : conc Y ρ (.sstr i l u) = some (.string (Y.strs i)) := if_pos ⟨h1, h2, h3⟩
  have hc : concs Y ρ [.i64 k, .i64 n, .sstr i l u] = some [.int .i64 k, .int .i64 n, .string (Y.strs i)] :=
    concs_cons.2 ⟨_, _, rfl, concs_cons.2 ⟨_, _, rfl, concs_cons.2 ⟨_, _, e, rfl, rfl⟩, rfl⟩, rfl⟩
  have hall : ([.i64 k, .i64 n, .sstr i l u] : List AV).all isCell = true := rfl
  rw [conc, if_pos hall, hc]
  rfl

theorem conc_len {k n : Int} : conc Y ρ (.agg [.i64 k, .i64 n, .str [108, 101, 110, 103, 116, 104]]) = some (vC k n (bytesV [108, 101, 110, 103, 116, 104])) := rfl

end

theorem ne_len {i : Nat} {s : ByteArray} (h : s ≠ bytesV [108, 101, 110, 103, 116, 104]) : neOk i s = true := by
  unfold neOk
  have e : (neList.all fun c => !(s.toList == (bytesV c).toList)) = true := by
    rw [List.all_eq_true]
    intro c hc
    unfold neList at hc
    simp only [List.mem_singleton] at hc
    subst hc
    rw [ByteArray.toList_eq, ByteArray.toList_eq]
    simp only [Bool.not_eq_true', beq_eq_false_iff_ne, ne_eq]
    intro he
    exact h (ByteArray.ext (Array.ext' he))
  rw [e, Bool.or_true]

theorem KnownOk.append {Y : Sy} {E : Env} {a b : List Known} (ha : KnownOk Y E a) (hb : KnownOk Y E b) : KnownOk Y E (a ++ b) := fun q hq => by
  rcases List.mem_append.1 hq with h | h
  · exact ha q h
  · exact hb q h

theorem may6 {n : Int} {len : Nat} (h : mayP 6 n len = true) : 1 ≤ n ∧ len = 0 := by
  simp [mayP] at h
  omega

section
variable {kk kn vk vn m : Int} {ks vs t u : ByteArray}

theorem k0_ok (hv : fits vk vn vs) (hb : g0.has vk vn vs) : KnownOk (syE kk kn vk vn ks vs m t u) (envG []) k0 :=
  KnownOk.cons has4 (envG_gives (awake_gives _)) (KnownOk.cons has22 (known22 hv hb (av1_ok hb)) (KnownOk.nil.cons has171 (Gives.of_returns (cmay_ret vk vn vs hb.1 hb.2.2.2) (concs_cons.2 ⟨_, _, av1_ok hb _, rfl, rfl⟩) rfl)))

theorem g6_ok (hb : g6.has vk vn vs) (ρ : Rho) : conc (syE kk kn vk vn ks vs m t u) ρ g6A = some (vC vk vn vs) := by
  have h0 : (6 : Int) ≤ vk ∧ vk ≤ 6 := hb.1
  obtain rfl : vk = 6 := by omega
  have h1 := may6 hb.2.2.2
  obtain rfl := empty_of h1.2
  exact conc_num (Y := syE kk kn 6 vn ks ByteArray.empty m t u) (i := 3) (k := 6) h1.1 hb.2.1.2

/-- the law's call at valid values, from the two runs of the key's class -/
theorem main_run {w : World} {ka : AV} {kl : List Known} {ss : List Sum} (htab : Lib.TabIs Tryz.prog w "internal/strconv.uint64pow10" .u64 Lib.pow10Tab) (hv : fits vk vn vs) (hb : g0.has vk vn vs ∨ g6.has vk vn vs)
    (hkl : KnownOk (syE kk kn vk vn ks vs m t u) (envG []) kl) (hss : SumsOk (syE kk kn vk vn ks vs m t u) (envG []) ss) (ha : ∀ ρ, conc (syE kk kn vk vn ks vs m t u) ρ ka = some (vC kk kn ks))
    (r0 : evSm (envG []) (k0 ++ kl) ss 300 100 (.fn 3) [ka, g0.av 1] (heapG gItoa 5) (fun v _ => sameV v (.bool true)) = true)
    (r6 : evSm (envG []) (k6 ++ kl) ss 300 100 (.fn 3) [ka, g6A] (heapG gItoa 5) (fun v _ => sameV v (.bool true)) = true) : Calls Tryz.prog 3 #[vC kk kn ks, vC vk vn vs] w fun e w' => e = .returned (.bool true) ∧ RowKit.Below w.heap.size w w' := by
  rcases hb with b | b
  · exact fin_run htab (KnownOk.append (k0_ok hv b) hkl) hss ha (av1_ok b) r0
  · exact fin_run htab (KnownOk.append known_awake hkl) hss ha (g6_ok b) r6

end

end Go.Proofs.YtbldcbjmfldbfaaGreatDoor
