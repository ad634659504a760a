/-
  The law AbsopStores: the classes of the two values; what answers at once.
-/
import Derived.Test.YtbldcbjmfldbfaaGreatDoorAeAwake
import Derived.Test.YtbldcbjmfldbfaaGreatDoorAeMay
import Derived.Test.YtbldcbjmfldbfaaGreatDoorAeItoa
namespace Go.Proofs.YtbldcbjmfldbfaaGreatDoor
open Go.AE
set_option maxRecDepth 100000

/-- its kind, its number and its length, from where to where; whether the test answers that it is valid -/
structure Cz where
  a : Int
  b : Int
  c : Int
  d : Int
  l : Nat
  h : Nat
  may : Bool

def Cz.has (z : Cz) (k n : Int) (s : ByteArray) : Prop := (z.a ≤ k ∧ k ≤ z.b) ∧ (z.c ≤ n ∧ n ≤ z.d) ∧ (z.l ≤ s.size ∧ s.size ≤ z.h) ∧ mayP k n s.size = z.may
noncomputable def Cz.av (z : Cz) (i : Nat) : AV := vA (2 * i) (2 * i + 1) i z.a z.b z.c z.d z.l z.h

def bF : Cz := ⟨lo64, hi64, lo64, hi64, 0, most, false⟩
def b8 : Cz := ⟨8, 9, lo64, hi64, 0, most, true⟩
def b6 : Cz := ⟨6, 6, 3, hi64, 0, most, true⟩
def b5 : Cz := ⟨0, 5, lo64, hi64, 301, most, true⟩
def g0 : Cz := ⟨0, 5, lo64, hi64, 0, 300, true⟩
def g6 : Cz := ⟨6, 6, lo64, 2, 0, 0, true⟩
def g7 : Cz := ⟨7, 7, lo64, hi64, 0, 0, true⟩
def zA : Cz := ⟨lo64, hi64, lo64, hi64, 0, most, true⟩

theorem may67 {k n : Int} {len : Nat} (h : mayP k n len = true) (hk : k = 6 ∨ k = 7) : len = 0 := by
  rcases hk with rfl | rfl <;> simp [mayP] at h <;> omega

theorem cz_split {k n : Int} {s : ByteArray} (hf : fits k n s) : (bF.has k n s ∨ b8.has k n s ∨ b6.has k n s ∨ b5.has k n s) ∨ (g0.has k n s ∨ g6.has k n s) ∨ g7.has k n s := by
  obtain ⟨h1, h2, h3⟩ := hf
  have h0 := Nat.zero_le s.size
  cases hm : mayP k n s.size with
  | false => exact .inl (.inl ⟨h1, h2, ⟨h0, h3⟩, hm⟩)
  | true =>
    have hk := mayP_kind hm
    by_cases c8 : 8 ≤ k
    · exact .inl (.inr (.inl ⟨⟨c8, hk.2⟩, h2, ⟨h0, h3⟩, hm⟩))
    by_cases c7 : k = 7
    · exact .inr (.inr ⟨⟨by show (7 : Int) ≤ k; omega, by show k ≤ 7; omega⟩, h2, ⟨h0, Nat.le_of_eq (may67 hm (.inr c7))⟩, hm⟩)
    by_cases c6 : k = 6
    · by_cases d : 3 ≤ n
      · exact .inl (.inr (.inr (.inl ⟨⟨by show (6 : Int) ≤ k; omega, by show k ≤ 6; omega⟩, ⟨d, h2.2⟩, ⟨h0, h3⟩, hm⟩)))
      · exact .inr (.inl (.inr ⟨⟨by show (6 : Int) ≤ k; omega, by show k ≤ 6; omega⟩, ⟨h2.1, by show n ≤ 2; omega⟩, ⟨h0, Nat.le_of_eq (may67 hm (.inl c6))⟩, hm⟩))
    by_cases d : s.size ≤ 300
    · exact .inr (.inl (.inl ⟨⟨hk.1, by show k ≤ 5; omega⟩, h2, ⟨h0, d⟩, hm⟩))
    · exact .inl (.inr (.inr (.inr ⟨⟨hk.1, by show k ≤ 5; omega⟩, h2, ⟨by show 301 ≤ s.size; omega, h3⟩, hm⟩)))

def syE (kk kn vk vn : Int) (ks vs : ByteArray) (m : Int) (t u : ByteArray) : Sy := ⟨fun i => if i = 0 then kk else if i = 1 then kn else if i = 2 then vk else if i = 3 then vn else m, fun i => if i = 0 then ks else if i = 1 then vs else if i = 100 then ks else if i = 104 then t else u, fun _ => (none, 0, 0), fun _ => undef⟩

theorem envG_gives {Y : Sy} {fs : List (SX × Int × Int)} {f : FuncId} {args : List AV} {v : AV} (h : Gives Y env f args v) : Gives Y (envG fs) f args v := fun w cargs hc => h w cargs hc

theorem has4 : hasBody (envG []) 4 = true := by kernel_rfl
theorem has22 : hasBody (envG []) 22 = true := by kernel_rfl
theorem has171 : hasBody (envG []) 171 = true := by kernel_rfl
theorem has97 : hasBody (envG []) 97 = true := by kernel_rfl
theorem has49 : hasBody (envG []) 49 = true := by kernel_rfl

theorem envG_ok0 (Y : Sy) : EnvOk Y (envG []) := envG_ok (fun _ _ _ h => by cases h)

theorem heapOk : (envG []).ng ≤ 5 := Nat.le_refl _

/-- the law's call, from a run -/
theorem fin_run {Y : Sy} {kn : List Known} {ss : List Sum} {a b : AV} {x y : Value} {w : World} (htab : Lib.TabIs Tryz.prog w "internal/strconv.uint64pow10" .u64 Lib.pow10Tab) (hkn : KnownOk Y (envG []) kn) (hss : SumsOk Y (envG []) ss) (ha : ∀ ρ, conc Y ρ a = some x) (hb : ∀ ρ, conc Y ρ b = some y)
    (run : evSm (envG []) kn ss 300 100 (.fn 3) [a, b] (heapG gItoa 5) (fun v _ => sameV v (.bool true)) = true) : Calls Tryz.prog 3 #[x, y] w fun e w' => e = .returned (.bool true) ∧ RowKit.Below w.heap.size w w' := by
  refine (laid_run (envG_ok0 Y) hkn hss heapOk run (cargs := [x, y]) (concs_cons.2 ⟨_, _, ha _, concs_cons.2 ⟨_, _, hb _, rfl, rfl⟩, rfl⟩) (laidW_of htab)).mono fun e w' he => ?_
  obtain ⟨cv, rfl, h1, h2⟩ := he
  cases h1
  exact ⟨rfl, h2⟩

noncomputable def knE (z : Cz) : List Known := [⟨4, [], .bool true⟩, ⟨22, [z.av 0], .bool z.may⟩]
noncomputable def knE2 (z y : Cz) : List Known := [⟨4, [], .bool true⟩, ⟨22, [z.av 0], .bool z.may⟩, ⟨22, [y.av 1], .bool y.may⟩]

theorem run_bF : evSm (envG []) (knE bF) [] 300 100 (.fn 3) [bF.av 0, zA.av 1] (heapG gItoa 5) (fun v _ => sameV v (.bool true)) = true := by kernel_rfl
theorem run_b8 : evSm (envG []) (knE b8) [] 300 100 (.fn 3) [b8.av 0, zA.av 1] (heapG gItoa 5) (fun v _ => sameV v (.bool true)) = true := by kernel_rfl
theorem run_b6 : evSm (envG []) (knE b6) [] 300 100 (.fn 3) [b6.av 0, zA.av 1] (heapG gItoa 5) (fun v _ => sameV v (.bool true)) = true := by kernel_rfl
theorem run_b5 : evSm (envG []) (knE b5) [] 300 100 (.fn 3) [b5.av 0, zA.av 1] (heapG gItoa 5) (fun v _ => sameV v (.bool true)) = true := by kernel_rfl
theorem run_g0_bF : evSm (envG []) (knE2 g0 bF) [] 300 100 (.fn 3) [g0.av 0, bF.av 1] (heapG gItoa 5) (fun v _ => sameV v (.bool true)) = true := by kernel_rfl
theorem run_g0_b8 : evSm (envG []) (knE2 g0 b8) [] 300 100 (.fn 3) [g0.av 0, b8.av 1] (heapG gItoa 5) (fun v _ => sameV v (.bool true)) = true := by kernel_rfl
theorem run_g0_b6 : evSm (envG []) (knE2 g0 b6) [] 300 100 (.fn 3) [g0.av 0, b6.av 1] (heapG gItoa 5) (fun v _ => sameV v (.bool true)) = true := by kernel_rfl
theorem run_g0_b5 : evSm (envG []) (knE2 g0 b5) [] 300 100 (.fn 3) [g0.av 0, b5.av 1] (heapG gItoa 5) (fun v _ => sameV v (.bool true)) = true := by kernel_rfl
theorem run_g0_g7 : evSm (envG []) (knE2 g0 g7) [] 300 100 (.fn 3) [g0.av 0, g7.av 1] (heapG gItoa 5) (fun v _ => sameV v (.bool true)) = true := by kernel_rfl
theorem run_g6_bF : evSm (envG []) (knE2 g6 bF) [] 300 100 (.fn 3) [g6.av 0, bF.av 1] (heapG gItoa 5) (fun v _ => sameV v (.bool true)) = true := by kernel_rfl
theorem run_g6_b8 : evSm (envG []) (knE2 g6 b8) [] 300 100 (.fn 3) [g6.av 0, b8.av 1] (heapG gItoa 5) (fun v _ => sameV v (.bool true)) = true := by kernel_rfl
theorem run_g6_b6 : evSm (envG []) (knE2 g6 b6) [] 300 100 (.fn 3) [g6.av 0, b6.av 1] (heapG gItoa 5) (fun v _ => sameV v (.bool true)) = true := by kernel_rfl
theorem run_g6_b5 : evSm (envG []) (knE2 g6 b5) [] 300 100 (.fn 3) [g6.av 0, b5.av 1] (heapG gItoa 5) (fun v _ => sameV v (.bool true)) = true := by kernel_rfl
theorem run_g6_g7 : evSm (envG []) (knE2 g6 g7) [] 300 100 (.fn 3) [g6.av 0, g7.av 1] (heapG gItoa 5) (fun v _ => sameV v (.bool true)) = true := by kernel_rfl
theorem run_g7_bF : evSm (envG []) (knE2 g7 bF) [] 300 100 (.fn 3) [g7.av 0, bF.av 1] (heapG gItoa 5) (fun v _ => sameV v (.bool true)) = true := by kernel_rfl
theorem run_g7_b8 : evSm (envG []) (knE2 g7 b8) [] 300 100 (.fn 3) [g7.av 0, b8.av 1] (heapG gItoa 5) (fun v _ => sameV v (.bool true)) = true := by kernel_rfl
theorem run_g7_b6 : evSm (envG []) (knE2 g7 b6) [] 300 100 (.fn 3) [g7.av 0, b6.av 1] (heapG gItoa 5) (fun v _ => sameV v (.bool true)) = true := by kernel_rfl
theorem run_g7_b5 : evSm (envG []) (knE2 g7 b5) [] 300 100 (.fn 3) [g7.av 0, b5.av 1] (heapG gItoa 5) (fun v _ => sameV v (.bool true)) = true := by kernel_rfl
theorem run_g7_g0 : evSm (envG []) (knE2 g7 g0) [] 300 100 (.fn 3) [g7.av 0, g0.av 1] (heapG gItoa 5) (fun v _ => sameV v (.bool true)) = true := by kernel_rfl
theorem run_g7_g6 : evSm (envG []) (knE2 g7 g6) [] 300 100 (.fn 3) [g7.av 0, g6.av 1] (heapG gItoa 5) (fun v _ => sameV v (.bool true)) = true := by kernel_rfl
theorem run_g7_g7 : evSm (envG []) (knE2 g7 g7) [] 300 100 (.fn 3) [g7.av 0, g7.av 1] (heapG gItoa 5) (fun v _ => sameV v (.bool true)) = true := by kernel_rfl

section
variable {kk kn vk vn m : Int} {ks vs t u : ByteArray}

theorem av0_ok {z : Cz} (hz : z.has kk kn ks) (ρ : Rho) : conc (syE kk kn vk vn ks vs m t u) ρ (z.av 0) = some (vC kk kn ks) :=
  conc_vA (Y := syE kk kn vk vn ks vs m t u) (i := 0) (j := 1) (s := 0) hz.1.1 hz.1.2 hz.2.1.1 hz.2.1.2 hz.2.2.1.1 hz.2.2.1.2
theorem av1_ok {z : Cz} (hz : z.has vk vn vs) (ρ : Rho) : conc (syE kk kn vk vn ks vs m t u) ρ (z.av 1) = some (vC vk vn vs) :=
  conc_vA (Y := syE kk kn vk vn ks vs m t u) (i := 2) (j := 3) (s := 1) hz.1.1 hz.1.2 hz.2.1.1 hz.2.1.2 hz.2.2.1.1 hz.2.2.1.2

theorem known_awake {Y : Sy} : KnownOk Y (envG []) [⟨4, [], .bool true⟩] := KnownOk.nil.cons has4 (envG_gives (awake_gives Y))

theorem known22 {Y : Sy} {k n : Int} {s : ByteArray} {z : Cz} {a : AV} (hf : fits k n s) (hz : z.has k n s) (ha : ∀ ρ, conc Y ρ a = some (vC k n s)) : Gives Y (envG []) 22 [a] (.bool z.may) := by
  have := may_ret k n s hf.1 hf.2.1 hf.2.2
  rw [hz.2.2.2] at this
  exact Gives.of_returns this (concs_cons.2 ⟨_, _, ha _, rfl, rfl⟩) rfl

theorem early1 {w : World} (htab : Lib.TabIs Tryz.prog w "internal/strconv.uint64pow10" .u64 Lib.pow10Tab) (hk : fits kk kn ks) (hv : fits vk vn vs) {z : Cz} (hz : z.has kk kn ks)
    (run : evSm (envG []) (knE z) [] 300 100 (.fn 3) [z.av 0, zA.av 1] (heapG gItoa 5) (fun v _ => sameV v (.bool true)) = true) : Calls Tryz.prog 3 #[vC kk kn ks, vC vk vn vs] w fun e w' => e = .returned (.bool true) ∧ RowKit.Below w.heap.size w w' := by
  have hzA : ∀ ρ, conc (syE kk kn vk vn ks vs 0 .empty .empty) ρ (zA.av 1) = some (vC vk vn vs) := fun ρ =>
    conc_vA (Y := syE kk kn vk vn ks vs 0 .empty .empty) (i := 2) (j := 3) (s := 1) hv.1.1 hv.1.2 hv.2.1.1 hv.2.1.2 (Nat.zero_le _) hv.2.2
  exact fin_run htab (KnownOk.cons has4 (envG_gives (awake_gives _)) (KnownOk.nil.cons has22 (known22 hk hz (av0_ok hz)))) SumsOk.nil (av0_ok hz) hzA run

theorem early2 {w : World} (htab : Lib.TabIs Tryz.prog w "internal/strconv.uint64pow10" .u64 Lib.pow10Tab) (hk : fits kk kn ks) (hv : fits vk vn vs) {z y : Cz} (hz : z.has kk kn ks) (hy : y.has vk vn vs)
    (run : evSm (envG []) (knE2 z y) [] 300 100 (.fn 3) [z.av 0, y.av 1] (heapG gItoa 5) (fun v _ => sameV v (.bool true)) = true) : Calls Tryz.prog 3 #[vC kk kn ks, vC vk vn vs] w fun e w' => e = .returned (.bool true) ∧ RowKit.Below w.heap.size w w' :=
  fin_run (Y := syE kk kn vk vn ks vs 0 .empty .empty) htab (KnownOk.cons has4 (envG_gives (awake_gives _)) (KnownOk.cons has22 (known22 hk hz (av0_ok hz)) (KnownOk.nil.cons has22 (known22 hv hy (av1_ok hy))))) SumsOk.nil (av0_ok hz) (av1_ok hy) run

end

/-- all but the two valid, none of them an object -/
theorem stores_early {kk kn vk vn : Int} {ks vs : ByteArray} {w : World} (htab : Lib.TabIs Tryz.prog w "internal/strconv.uint64pow10" .u64 Lib.pow10Tab) (hk : fits kk kn ks) (hv : fits vk vn vs) :
    (Calls Tryz.prog 3 #[vC kk kn ks, vC vk vn vs] w fun e w' => e = .returned (.bool true) ∧ RowKit.Below w.heap.size w w') ∨ ((g0.has kk kn ks ∨ g6.has kk kn ks) ∧ (g0.has vk vn vs ∨ g6.has vk vn vs)) := by
  rcases cz_split hk with (a | a | a | a) | (a | a) | a
  · exact .inl (early1 htab hk hv a run_bF)
  · exact .inl (early1 htab hk hv a run_b8)
  · exact .inl (early1 htab hk hv a run_b6)
  · exact .inl (early1 htab hk hv a run_b5)
  · rcases cz_split hv with (b | b | b | b) | (b | b) | b
    · exact .inl (early2 htab hk hv a b run_g0_bF)
    · exact .inl (early2 htab hk hv a b run_g0_b8)
    · exact .inl (early2 htab hk hv a b run_g0_b6)
    · exact .inl (early2 htab hk hv a b run_g0_b5)
    · exact .inr ⟨.inl a, .inl b⟩
    · exact .inr ⟨.inl a, .inr b⟩
    · exact .inl (early2 htab hk hv a b run_g0_g7)
  · rcases cz_split hv with (b | b | b | b) | (b | b) | b
    · exact .inl (early2 htab hk hv a b run_g6_bF)
    · exact .inl (early2 htab hk hv a b run_g6_b8)
    · exact .inl (early2 htab hk hv a b run_g6_b6)
    · exact .inl (early2 htab hk hv a b run_g6_b5)
    · exact .inr ⟨.inr a, .inl b⟩
    · exact .inr ⟨.inr a, .inr b⟩
    · exact .inl (early2 htab hk hv a b run_g6_g7)
  · rcases cz_split hv with (b | b | b | b) | (b | b) | b
    · exact .inl (early2 htab hk hv a b run_g7_bF)
    · exact .inl (early2 htab hk hv a b run_g7_b8)
    · exact .inl (early2 htab hk hv a b run_g7_b6)
    · exact .inl (early2 htab hk hv a b run_g7_b5)
    · exact .inl (early2 htab hk hv a b run_g7_g0)
    · exact .inl (early2 htab hk hv a b run_g7_g6)
    · exact .inl (early2 htab hk hv a b run_g7_g7)

end Go.Proofs.YtbldcbjmfldbfaaGreatDoor
