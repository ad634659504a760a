/-
  The law AbsopStores: every call returns true.
-/
import Derived.Test.YtbldcbjmfldbfaaGreatDoorAeStoR0
import Derived.Test.YtbldcbjmfldbfaaGreatDoorAeStoR1
import Derived.Test.YtbldcbjmfldbfaaGreatDoorAeStoR2
import Derived.Test.YtbldcbjmfldbfaaGreatDoorAeStoR3
import Derived.Test.YtbldcbjmfldbfaaGreatDoorAeStoR4
import Derived.Test.YtbldcbjmfldbfaaGreatDoorRows
import Derived.MakeChecks
import Derived.Lib.LaidU8
namespace Go.Proofs.YtbldcbjmfldbfaaGreatDoor
open Go.AE
set_option maxRecDepth 100000

abbrev Tab (w : World) : Prop := Lib.TabIs Tryz.prog w "internal/strconv.uint64pow10" .u64 Lib.pow10Tab
abbrev Says (kk kn : Int) (ks : ByteArray) (vk vn : Int) (vs : ByteArray) (w : World) : Prop := Calls Tryz.prog 3 #[vC kk kn ks, vC vk vn vs] w fun e w' => e = .returned (.bool true) ∧ RowKit.Below w.heap.size w w'

section
variable {kk kn vk vn m : Int} {ks vs t u : ByteArray} {w : World}

theorem kN_ok {Y : Sy} : KnownOk Y (envG []) kN := KnownOk.nil
theorem sN_ok {Y : Sy} : SumsOk Y (envG []) sN := SumsOk.nil

theorem no_gives {Y : Sy} {i l u : Nat} (f : FuncId) (h1 : l ≤ (Y.strs i).size) (h2 : (Y.strs i).size ≤ u) (h3 : neOk i (Y.strs i) = true) (hr : AE.Returns Tryz.prog f [.string (Y.strs i)] cNo) : Gives Y (envG []) f [.sstr i l u] noIdx :=
  Gives.of_returns hr (concs_cons.2 ⟨_, _, if_pos ⟨h1, h2, h3⟩, rfl, rfl⟩) rfl

theorem yes_gives {Y : Sy} {i l u : Nat} {m : Int} (hm : Y.ints 4 = m) (m0 : 0 ≤ m) (m1 : m ≤ 4294967294) (h1 : l ≤ (Y.strs i).size) (h2 : (Y.strs i).size ≤ u) (h3 : neOk i (Y.strs i) = true) (hr : AE.Returns Tryz.prog 97 [.string (Y.strs i)] (cYes m)) : Gives Y (envG []) 97 [.sstr i l u] (.tuple [.sint .i64 (.var 4) 0 4294967294, .bool true]) := by
  subst hm
  refine Gives.of_returns hr (concs_cons.2 ⟨_, _, if_pos ⟨h1, h2, h3⟩, rfl, rfl⟩) ?_
  have e : conc Y (fun _ => none) (.sint .i64 (.var 4) 0 4294967294) = some (.int .i64 (Y.ints 4)) := if_pos ⟨m0, m1⟩
  have hc : concs Y (fun _ => none) [.sint .i64 (.var 4) 0 4294967294, .bool true] = some [.int .i64 (Y.ints 4), .bool true] := concs_cons.2 ⟨_, _, e, concs_cons.2 ⟨_, _, rfl, rfl, rfl⟩, rfl⟩
  rw [conc, hc]
  rfl

theorem aA_ok {Y : Sy} {n : Int} (hn : Y.ints 1 = n) (h1 : -9007199254740992 ≤ n) (h2 : n ≤ 9007199254740992) (ρ : Rho) : conc Y ρ aA = some (.int .i64 n) := by
  subst hn
  exact if_pos ⟨h1, h2⟩
theorem aB_ok {Y : Sy} {n : Int} (hn : Y.ints 4 = n) (h1 : 0 ≤ n) (h2 : n ≤ 4294967294) (ρ : Rho) : conc Y ρ aB = some (.int .i64 n) := by
  subst hn
  exact if_pos ⟨h1, h2⟩

theorem sums_of {Y : Sy} {a : AV} {i : Nat} {l : List Nat} (h : ∀ j, SumOk Y (envG []) (qItoa a i j)) : SumsOk Y (envG []) (l.map (qItoa a i)) := fun q hq => by
  obtain ⟨j, _, rfl⟩ := List.mem_map.1 hq
  exact h j

theorem sA_eq : sA = (List.range 60).map (qItoa aA 104) := rfl
theorem sB_eq : sB = (List.range 60).map (qItoa aB 105) := rfl

theorem sA_ok {Y : Sy} {n : Int} (hn : Y.ints 1 = n) (h1 : -9007199254740992 ≤ n) (h2 : n ≤ 9007199254740992) (hs : Y.strs 104 = ⟨(Lib.itoa n).toArray⟩) : SumsOk Y (envG []) sA := by
  rw [sA_eq]
  exact sums_of fun j => qItoa_ok (aA_ok hn h1 h2) (by omega) (by omega) hs j
theorem sB_ok {Y : Sy} {n : Int} (hn : Y.ints 4 = n) (h1 : 0 ≤ n) (h2 : n ≤ 4294967294) (hs : Y.strs 105 = ⟨(Lib.itoa n).toArray⟩) : SumsOk Y (envG []) sB := by
  rw [sB_eq]
  exact sums_of fun j => qItoa_ok (aB_ok hn h1 h2) (by omega) (by omega) hs j

theorem itoa_back {m : Int} (h0 : 0 ≤ m) (h1 : m ≤ 4294967294) : AE.Returns Tryz.prog 97 [.string ⟨(Lib.itoa m).toArray⟩] (cYes m) := by
  obtain ⟨n, rfl⟩ := Int.eq_ofNat_of_zero_le h0
  have e : Lib.itoa (n : Int) = Lib.decDigits n := by
    unfold Lib.itoa
    rw [if_neg (by omega)]
    rfl
  rw [e]
  exact index_dec (by omega)

/-- a text -/
theorem text_run (htab : Tab w) (hs : ks.size ≤ 300) (hv : fits vk vn vs) (hb : g0.has vk vn vs ∨ g6.has vk vn vs) : Says 5 0 ks vk vn vs w := by
  by_cases c : ks = bytesV [108, 101, 110, 103, 116, 104]
  · subst c
    exact main_run (m := 0) (t := .empty) (u := .empty) (ka := a_len) htab hv hb kN_ok sN_ok (fun _ => conc_len) run_len_0 run_len_6
  · rcases index_all (s := ks) (by omega) with ⟨m, m0, m1, hr⟩ | hr
    · have hi := itoa_size m (by omega) (by omega)
      have hY : ∀ ρ, conc (syE 5 0 vk vn ks vs m .empty ⟨(Lib.itoa m).toArray⟩) ρ a_tix = some (vC 5 0 ks) := fun ρ => conc_text (Y := syE 5 0 vk vn ks vs m .empty ⟨(Lib.itoa m).toArray⟩) (i := 0) (Nat.zero_le _) hs (ne_len c)
      refine main_run (m := m) (t := .empty) (u := ⟨(Lib.itoa m).toArray⟩) (ka := a_tix) htab hv hb (kl := kTix) ?_ (sB_ok rfl m0 m1 rfl) hY run_tix_0 run_tix_6
      exact KnownOk.cons has97 (yes_gives (i := 0) rfl m0 m1 (Nat.zero_le _) hs (ne_len c) hr) (KnownOk.nil.cons has97 (yes_gives (i := 105) rfl m0 m1 hi.1 hi.2 (itoa_ne _ _) (itoa_back m0 m1)))
    · have hY : ∀ ρ, conc (syE 5 0 vk vn ks vs 0 .empty .empty) ρ a_tno = some (vC 5 0 ks) := fun ρ => conc_text (Y := syE 5 0 vk vn ks vs 0 .empty .empty) (i := 100) (Nat.zero_le _) hs (ne_len c)
      refine main_run (m := 0) (t := .empty) (u := .empty) (ka := a_tno) htab hv hb (kl := kTno) ?_ sN_ok hY run_tno_0 run_tno_6
      exact KnownOk.cons has97 (no_gives (i := 100) 97 (Nat.zero_le _) hs (ne_len c) hr.1) (KnownOk.nil.cons has49 (no_gives (i := 100) 49 (Nat.zero_le _) hs (ne_len c) hr.2))

/-- a number -/
theorem num_run (htab : Tab w) (h1 : -9007199254740992 ≤ kn) (h2 : kn ≤ 9007199254740992) (hv : fits vk vn vs) (hb : g0.has vk vn vs ∨ g6.has vk vn vs) : Says 3 kn .empty vk vn vs w := by
  have hi := itoa_size kn (by omega) (by omega)
  have hA := fun (m : Int) (u : ByteArray) (ρ : Rho) => conc_num (Y := syE 3 kn vk vn .empty vs m ⟨(Lib.itoa kn).toArray⟩ u) (ρ := ρ) (i := 1) (k := 3) h1 h2
  rcases index_all (s := ⟨(Lib.itoa kn).toArray⟩) (by omega) with ⟨m, m0, m1, hr⟩ | hr
  · have hj := itoa_size m (by omega) (by omega)
    refine main_run (m := m) (t := ⟨(Lib.itoa kn).toArray⟩) (u := ⟨(Lib.itoa m).toArray⟩) (ka := a_nix) htab hv hb (kl := kNix) ?_ (SumsOk.append (sA_ok rfl h1 h2 rfl) (sB_ok rfl m0 m1 rfl)) (hA _ _) run_nix_0 run_nix_6
    exact KnownOk.cons has97 (yes_gives (i := 104) rfl m0 m1 hi.1 hi.2 (itoa_ne _ _) hr) (KnownOk.nil.cons has97 (yes_gives (i := 105) rfl m0 m1 hj.1 hj.2 (itoa_ne _ _) (itoa_back m0 m1)))
  · refine main_run (m := 0) (t := ⟨(Lib.itoa kn).toArray⟩) (u := .empty) (ka := a_nno) htab hv hb (kl := kNno) ?_ (sA_ok rfl h1 h2 rfl) (hA _ _) run_nno_0 run_nno_6
    exact KnownOk.cons has97 (no_gives (i := 104) 97 hi.1 hi.2 (itoa_ne _ _) hr.1) (KnownOk.nil.cons has49 (no_gives (i := 104) 49 hi.1 hi.2 (itoa_ne _ _) hr.2))

theorem may_low {n : Int} {len : Nat} {k : Int} (h : mayP k n len = true) (h0 : 0 ≤ k) (h5 : k ≤ 5) :
    (k = 5 ∧ n = 0) ∨ (len = 0 ∧ ((k = 0 ∧ n = 0) ∨ (k = 1 ∧ n = 0) ∨ (k = 2 ∧ (n = 0 ∨ n = 1)) ∨ (k = 3 ∧ -9007199254740992 ≤ n ∧ n ≤ 9007199254740992) ∨ (k = 4 ∧ n = 0))) := by
  have hk : k = 0 ∨ k = 1 ∨ k = 2 ∨ k = 3 ∨ k = 4 ∨ k = 5 := by omega
  rcases hk with rfl | rfl | rfl | rfl | rfl | rfl <;> simp [mayP] at h <;> omega

theorem stores_calls (htab : Tab w) (hk : fits kk kn ks) (hv : fits vk vn vs) : Says kk kn ks vk vn vs w := by
  rcases stores_early htab hk hv with h | ⟨a, hb⟩
  · exact h
  rcases a with a | a
  · rcases may_low a.2.2.2 a.1.1 a.1.2 with ⟨rfl, rfl⟩ | ⟨hz, h⟩
    · exact text_run htab a.2.2.1.2 hv hb
    · obtain rfl := empty_of hz
      rcases h with ⟨rfl, rfl⟩ | ⟨rfl, rfl⟩ | ⟨rfl, rfl | rfl⟩ | ⟨rfl, h1, h2⟩ | ⟨rfl, rfl⟩
      · exact main_run (m := 0) (t := .empty) (u := .empty) (ka := a_und) htab hv hb kN_ok sN_ok (fun _ => conc_i64 0 0) run_und_0 run_und_6
      · exact main_run (m := 0) (t := .empty) (u := .empty) (ka := a_nul) htab hv hb kN_ok sN_ok (fun _ => conc_i64 1 0) run_nul_0 run_nul_6
      · exact main_run (m := 0) (t := .empty) (u := .empty) (ka := a_bo0) htab hv hb kN_ok sN_ok (fun _ => conc_i64 2 0) run_bo0_0 run_bo0_6
      · exact main_run (m := 0) (t := .empty) (u := .empty) (ka := a_bo1) htab hv hb kN_ok sN_ok (fun _ => conc_i64 2 1) run_bo1_0 run_bo1_6
      · exact num_run htab h1 h2 hv hb
      · exact main_run (m := 0) (t := .empty) (u := .empty) (ka := a_nan) htab hv hb kN_ok sN_ok (fun _ => conc_i64 4 0) run_nan_0 run_nan_6
  · have h0 : (6 : Int) ≤ kk ∧ kk ≤ 6 := a.1
    obtain rfl : kk = 6 := by omega
    have h1 := may6 a.2.2.2
    obtain rfl := empty_of h1.2
    exact main_run (m := 0) (t := .empty) (u := .empty) (ka := a_sym) htab hv hb kN_ok sN_ok (fun ρ => conc_num (Y := syE 6 kn vk vn .empty vs 0 .empty .empty) (ρ := ρ) (i := 1) (k := 6) h1.1 a.2.1.2) run_sym_0 run_sym_6

end

/-- the table of the powers of ten is read off the row's own list -/
theorem row_tab {W : World} (h : laidMetH Tryz.prog Rows.absopStoresRow.laid W) : Tab W := by
  rw [MakeChecks.laidMetH_plain _ _ _ (by kernel_rfl)] at h
  have hm : Rows.absopStoresRow.laid[2]? = some ("internal/strconv.uint64pow10", Lib.tabData .u64 Lib.pow10Tab) := by kernel_rfl
  obtain ⟨g, t, cs, fuel, p, hg, ht, hvar, hd⟩ := Lib.laidMet.reads h (List.mem_of_getElem? hm)
  obtain rfl := Option.some.inj (g4.symm.trans hg)
  have ht' : (Tryz.prog.globals[4]?).map (·.type) = some 380 := by kernel_rfl
  obtain rfl := Option.some.inj (ht'.symm.trans ht)
  show Lib.TabIs _ _ _ _ _
  unfold Lib.TabIs
  rw [hvar, ← Lib.cells_of_tab (t := 380) (e := 268) (n := 20) (k := .u64) (by kernel_rfl) (by kernel_rfl) (by kernel_rfl) (by kernel_rfl) hd]

end Go.Proofs.YtbldcbjmfldbfaaGreatDoor
