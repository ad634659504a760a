/-
  The law AbsopPlain: the classes of the two values; what answers at once.
  The law AbsopPlain: every call returns true.
-/
import Derived.Test.YtgcmekonnliemaaGreatDoorAePlK
import Derived.Test.YtgcmekonnliemaaGreatDoorAePlR0
import Derived.Test.YtgcmekonnliemaaGreatDoorAePlR1
import Derived.Test.YtgcmekonnliemaaGreatDoorAePlR2
import Derived.Test.YtgcmekonnliemaaGreatDoorAePlR3
import Derived.Test.YtgcmekonnliemaaGreatDoorAePlR4
import Derived.Test.YtgcmekonnliemaaGreatDoorAePlR5
namespace Go.Proofs.YtgcmekonnliemaaGreatDoor
open Go.AE
set_option maxRecDepth 100000

/-- its kind, its number and its length, from where to where; whether the test answers that it is valid -/
structure Cz where
  a : Int
  b : Int
  c : Int
  d : Int
  l : Nat
  h : Nat
  may : Bool

def Cz.has (z : Cz) (k n : Int) (s : ByteArray) : Prop := (z.a ≤ k ∧ k ≤ z.b) ∧ (z.c ≤ n ∧ n ≤ z.d) ∧ (z.l ≤ s.size ∧ s.size ≤ z.h) ∧ mayP k n s.size = z.may
noncomputable def Cz.av (z : Cz) (i : Nat) : AV := vA (2 * i) (2 * i + 1) i z.a z.b z.c z.d z.l z.h

def bF : Cz := ⟨lo64, hi64, lo64, hi64, 0, most, false⟩
def b8 : Cz := ⟨8, 9, lo64, hi64, 0, most, true⟩
def b6 : Cz := ⟨6, 6, 3, hi64, 0, most, true⟩
def b5 : Cz := ⟨0, 5, lo64, hi64, 301, most, true⟩
def g0 : Cz := ⟨0, 5, lo64, hi64, 0, 300, true⟩
def g6 : Cz := ⟨6, 6, lo64, 2, 0, 0, true⟩
def g7 : Cz := ⟨7, 7, lo64, hi64, 0, 0, true⟩
def zA : Cz := ⟨lo64, hi64, lo64, hi64, 0, most, true⟩

theorem may67 {k n : Int} {len : Nat} (h : mayP k n len = true) (hk : k = 6 ∨ k = 7) : len = 0 := by
  rcases hk with rfl | rfl <;> simp [mayP] at h <;> omega

theorem cz_split {k n : Int} {s : ByteArray} (hf : fits k n s) : (bF.has k n s ∨ b8.has k n s ∨ b6.has k n s ∨ b5.has k n s) ∨ (g0.has k n s ∨ g6.has k n s) ∨ g7.has k n s := by
  obtain ⟨h1, h2, h3⟩ := hf
  have h0 := Nat.zero_le s.size
  cases hm : mayP k n s.size with
  | false => exact .inl (.inl ⟨h1, h2, ⟨h0, h3⟩, hm⟩)
  | true =>
    have hk := mayP_kind hm
    by_cases c8 : 8 ≤ k
    · exact .inl (.inr (.inl ⟨⟨c8, hk.2⟩, h2, ⟨h0, h3⟩, hm⟩))
    by_cases c7 : k = 7
    · exact .inr (.inr ⟨⟨by show (7 : Int) ≤ k; omega, by show k ≤ 7; omega⟩, h2, ⟨h0, Nat.le_of_eq (may67 hm (.inr c7))⟩, hm⟩)
    by_cases c6 : k = 6
    · by_cases d : 3 ≤ n
      · exact .inl (.inr (.inr (.inl ⟨⟨by show (6 : Int) ≤ k; omega, by show k ≤ 6; omega⟩, ⟨d, h2.2⟩, ⟨h0, h3⟩, hm⟩)))
      · exact .inr (.inl (.inr ⟨⟨by show (6 : Int) ≤ k; omega, by show k ≤ 6; omega⟩, ⟨h2.1, by show n ≤ 2; omega⟩, ⟨h0, Nat.le_of_eq (may67 hm (.inl c6))⟩, hm⟩))
    by_cases d : s.size ≤ 300
    · exact .inr (.inl (.inl ⟨⟨hk.1, by show k ≤ 5; omega⟩, h2, ⟨h0, d⟩, hm⟩))
    · exact .inl (.inr (.inr (.inr ⟨⟨hk.1, by show k ≤ 5; omega⟩, h2, ⟨by show 301 ≤ s.size; omega, h3⟩, hm⟩)))

noncomputable def oA : AV := .sstr 2 0 9223372036854775807
noncomputable def knE (z : Cz) : List Known := [⟨4, [], .bool true⟩, ⟨21, [z.av 0], .bool z.may⟩]
noncomputable def knE2 (z y : Cz) : List Known := [⟨4, [], .bool true⟩, ⟨21, [z.av 0], .bool z.may⟩, ⟨21, [y.av 1], .bool y.may⟩]

theorem er_bF : evSm (envG [] []) (knE bF) [] 300 100 (.fn 3) [oA, bF.av 0, zA.av 1] (heapG gItoa 5) (fun v _ => sameV v (.bool true)) = true := by kernel_rfl
theorem er_b8 : evSm (envG [] []) (knE b8) [] 300 100 (.fn 3) [oA, b8.av 0, zA.av 1] (heapG gItoa 5) (fun v _ => sameV v (.bool true)) = true := by kernel_rfl
theorem er_b6 : evSm (envG [] []) (knE b6) [] 300 100 (.fn 3) [oA, b6.av 0, zA.av 1] (heapG gItoa 5) (fun v _ => sameV v (.bool true)) = true := by kernel_rfl
theorem er_b5 : evSm (envG [] []) (knE b5) [] 300 100 (.fn 3) [oA, b5.av 0, zA.av 1] (heapG gItoa 5) (fun v _ => sameV v (.bool true)) = true := by kernel_rfl
theorem er_g0_bF : evSm (envG [] []) (knE2 g0 bF) [] 300 100 (.fn 3) [oA, g0.av 0, bF.av 1] (heapG gItoa 5) (fun v _ => sameV v (.bool true)) = true := by kernel_rfl
theorem er_g0_b8 : evSm (envG [] []) (knE2 g0 b8) [] 300 100 (.fn 3) [oA, g0.av 0, b8.av 1] (heapG gItoa 5) (fun v _ => sameV v (.bool true)) = true := by kernel_rfl
theorem er_g0_b6 : evSm (envG [] []) (knE2 g0 b6) [] 300 100 (.fn 3) [oA, g0.av 0, b6.av 1] (heapG gItoa 5) (fun v _ => sameV v (.bool true)) = true := by kernel_rfl
theorem er_g0_b5 : evSm (envG [] []) (knE2 g0 b5) [] 300 100 (.fn 3) [oA, g0.av 0, b5.av 1] (heapG gItoa 5) (fun v _ => sameV v (.bool true)) = true := by kernel_rfl
theorem er_g0_g7 : evSm (envG [] []) (knE2 g0 g7) [] 300 100 (.fn 3) [oA, g0.av 0, g7.av 1] (heapG gItoa 5) (fun v _ => sameV v (.bool true)) = true := by kernel_rfl
theorem er_g6_bF : evSm (envG [] []) (knE2 g6 bF) [] 300 100 (.fn 3) [oA, g6.av 0, bF.av 1] (heapG gItoa 5) (fun v _ => sameV v (.bool true)) = true := by kernel_rfl
theorem er_g6_b8 : evSm (envG [] []) (knE2 g6 b8) [] 300 100 (.fn 3) [oA, g6.av 0, b8.av 1] (heapG gItoa 5) (fun v _ => sameV v (.bool true)) = true := by kernel_rfl
theorem er_g6_b6 : evSm (envG [] []) (knE2 g6 b6) [] 300 100 (.fn 3) [oA, g6.av 0, b6.av 1] (heapG gItoa 5) (fun v _ => sameV v (.bool true)) = true := by kernel_rfl
theorem er_g6_b5 : evSm (envG [] []) (knE2 g6 b5) [] 300 100 (.fn 3) [oA, g6.av 0, b5.av 1] (heapG gItoa 5) (fun v _ => sameV v (.bool true)) = true := by kernel_rfl
theorem er_g6_g7 : evSm (envG [] []) (knE2 g6 g7) [] 300 100 (.fn 3) [oA, g6.av 0, g7.av 1] (heapG gItoa 5) (fun v _ => sameV v (.bool true)) = true := by kernel_rfl
theorem er_g7_bF : evSm (envG [] []) (knE2 g7 bF) [] 300 100 (.fn 3) [oA, g7.av 0, bF.av 1] (heapG gItoa 5) (fun v _ => sameV v (.bool true)) = true := by kernel_rfl
theorem er_g7_b8 : evSm (envG [] []) (knE2 g7 b8) [] 300 100 (.fn 3) [oA, g7.av 0, b8.av 1] (heapG gItoa 5) (fun v _ => sameV v (.bool true)) = true := by kernel_rfl
theorem er_g7_b6 : evSm (envG [] []) (knE2 g7 b6) [] 300 100 (.fn 3) [oA, g7.av 0, b6.av 1] (heapG gItoa 5) (fun v _ => sameV v (.bool true)) = true := by kernel_rfl
theorem er_g7_b5 : evSm (envG [] []) (knE2 g7 b5) [] 300 100 (.fn 3) [oA, g7.av 0, b5.av 1] (heapG gItoa 5) (fun v _ => sameV v (.bool true)) = true := by kernel_rfl
theorem er_g7_g0 : evSm (envG [] []) (knE2 g7 g0) [] 300 100 (.fn 3) [oA, g7.av 0, g0.av 1] (heapG gItoa 5) (fun v _ => sameV v (.bool true)) = true := by kernel_rfl
theorem er_g7_g6 : evSm (envG [] []) (knE2 g7 g6) [] 300 100 (.fn 3) [oA, g7.av 0, g6.av 1] (heapG gItoa 5) (fun v _ => sameV v (.bool true)) = true := by kernel_rfl
theorem er_g7_g7 : evSm (envG [] []) (knE2 g7 g7) [] 300 100 (.fn 3) [oA, g7.av 0, g7.av 1] (heapG gItoa 5) (fun v _ => sameV v (.bool true)) = true := by kernel_rfl

section
variable {kk kn vk vn : Int} {ks vs op : ByteArray} {w : World}

theorem av0_ok {z : Cz} (hz : z.has kk kn ks) (ρ : Rho) : conc (syL [kk, kn, vk, vn] [ks, vs, op]) ρ (z.av 0) = some (vC kk kn ks) :=
  conc_vA (Y := syL [kk, kn, vk, vn] [ks, vs, op]) (i := 0) (j := 1) (s := 0) hz.1.1 hz.1.2 hz.2.1.1 hz.2.1.2 hz.2.2.1.1 hz.2.2.1.2
theorem av1_ok {z : Cz} (hz : z.has vk vn vs) (ρ : Rho) : conc (syL [kk, kn, vk, vn] [ks, vs, op]) ρ (z.av 1) = some (vC vk vn vs) :=
  conc_vA (Y := syL [kk, kn, vk, vn] [ks, vs, op]) (i := 2) (j := 3) (s := 1) hz.1.1 hz.1.2 hz.2.1.1 hz.2.1.2 hz.2.2.1.1 hz.2.2.1.2
theorem opA_ok (hop : op.size ≤ 9223372036854775807) : IsS (syL [kk, kn, vk, vn] [ks, vs, op]) oA op := isS_sym rfl (Nat.zero_le _) hop rfl

theorem known21 {Y : Sy} {k n : Int} {s : ByteArray} {z : Cz} {a : AV} (hf : fits k n s) (hz : z.has k n s) (ha : ∀ ρ, conc Y ρ a = some (vC k n s)) : Gives Y (envG [] []) 21 [a] (.bool z.may) := by
  have := may_ret k n s hf.1 hf.2.1 hf.2.2
  rw [hz.2.2.2] at this
  exact gOf this (concs1 ha) rfl

theorem early1 (htab : Tab w) (hop : op.size ≤ 9223372036854775807) (hk : fits kk kn ks) (hv : fits vk vn vs) {z : Cz} (hz : z.has kk kn ks)
    (run : evSm (envG [] []) (knE z) [] 300 100 (.fn 3) [oA, z.av 0, zA.av 1] (heapG gItoa 5) (fun v _ => sameV v (.bool true)) = true) : Says op kk kn ks vk vn vs w := by
  have hzA : ∀ ρ, conc (syL [kk, kn, vk, vn] [ks, vs, op]) ρ (zA.av 1) = some (vC vk vn vs) := fun ρ =>
    conc_vA (Y := syL [kk, kn, vk, vn] [ks, vs, op]) (i := 2) (j := 3) (s := 1) hv.1.1 hv.1.2 hv.2.1.1 hv.2.1.2 (Nat.zero_le _) hv.2.2
  exact fin_run htab (fun _ h => orcs_nil h) (KnownOk.cons (hasG4 _) (gOf awake_ret rfl rfl) (KnownOk.nil.cons (hasG21 _) (known21 hk hz (av0_ok hz)))) SumsOk.nil (opA_ok hop) (av0_ok hz) hzA run

theorem early2 (htab : Tab w) (hop : op.size ≤ 9223372036854775807) (hk : fits kk kn ks) (hv : fits vk vn vs) {z y : Cz} (hz : z.has kk kn ks) (hy : y.has vk vn vs)
    (run : evSm (envG [] []) (knE2 z y) [] 300 100 (.fn 3) [oA, z.av 0, y.av 1] (heapG gItoa 5) (fun v _ => sameV v (.bool true)) = true) : Says op kk kn ks vk vn vs w :=
  fin_run (Y := syL [kk, kn, vk, vn] [ks, vs, op]) htab (fun _ h => orcs_nil h) (KnownOk.cons (hasG4 _) (gOf awake_ret rfl rfl) (KnownOk.cons (hasG21 _) (known21 hk hz (av0_ok hz)) (KnownOk.nil.cons (hasG21 _) (known21 hv hy (av1_ok hy))))) SumsOk.nil (opA_ok hop) (av0_ok hz) (av1_ok hy) run

end

/-- all but the two valid, none of them an object -/
theorem plain_early {kk kn vk vn : Int} {ks vs op : ByteArray} {w : World} (htab : Tab w) (hop : op.size ≤ 9223372036854775807) (hk : fits kk kn ks) (hv : fits vk vn vs) :
    Says op kk kn ks vk vn vs w ∨ ((g0.has kk kn ks ∨ g6.has kk kn ks) ∧ (g0.has vk vn vs ∨ g6.has vk vn vs)) := by
  rcases cz_split hk with (a | a | a | a) | (a | a) | a
  · exact .inl (early1 htab hop hk hv a er_bF)
  · exact .inl (early1 htab hop hk hv a er_b8)
  · exact .inl (early1 htab hop hk hv a er_b6)
  · exact .inl (early1 htab hop hk hv a er_b5)
  · rcases cz_split hv with (b | b | b | b) | (b | b) | b
    · exact .inl (early2 htab hop hk hv a b er_g0_bF)
    · exact .inl (early2 htab hop hk hv a b er_g0_b8)
    · exact .inl (early2 htab hop hk hv a b er_g0_b6)
    · exact .inl (early2 htab hop hk hv a b er_g0_b5)
    · exact .inr ⟨.inl a, .inl b⟩
    · exact .inr ⟨.inl a, .inr b⟩
    · exact .inl (early2 htab hop hk hv a b er_g0_g7)
  · rcases cz_split hv with (b | b | b | b) | (b | b) | b
    · exact .inl (early2 htab hop hk hv a b er_g6_bF)
    · exact .inl (early2 htab hop hk hv a b er_g6_b8)
    · exact .inl (early2 htab hop hk hv a b er_g6_b6)
    · exact .inl (early2 htab hop hk hv a b er_g6_b5)
    · exact .inr ⟨.inr a, .inl b⟩
    · exact .inr ⟨.inr a, .inr b⟩
    · exact .inl (early2 htab hop hk hv a b er_g6_g7)
  · rcases cz_split hv with (b | b | b | b) | (b | b) | b
    · exact .inl (early2 htab hop hk hv a b er_g7_bF)
    · exact .inl (early2 htab hop hk hv a b er_g7_b8)
    · exact .inl (early2 htab hop hk hv a b er_g7_b6)
    · exact .inl (early2 htab hop hk hv a b er_g7_b5)
    · exact .inl (early2 htab hop hk hv a b er_g7_g0)
    · exact .inl (early2 htab hop hk hv a b er_g7_g6)
    · exact .inl (early2 htab hop hk hv a b er_g7_g7)

theorem may_low {n : Int} {len : Nat} {k : Int} (h : mayP k n len = true) (h0 : 0 ≤ k) (h5 : k ≤ 5) :
    (k = 5 ∧ n = 0) ∨ (len = 0 ∧ ((k = 0 ∧ n = 0) ∨ (k = 1 ∧ n = 0) ∨ (k = 2 ∧ (n = 0 ∨ n = 1)) ∨ (k = 3 ∧ -9007199254740992 ≤ n ∧ n ≤ 9007199254740992) ∨ (k = 4 ∧ n = 0))) := by
  have hk : k = 0 ∨ k = 1 ∨ k = 2 ∨ k = 3 ∨ k = 4 ∨ k = 5 := by omega
  rcases hk with rfl | rfl | rfl | rfl | rfl | rfl <;> simp [mayP] at h <;> omega

theorem may6 {n : Int} {len : Nat} (h : mayP 6 n len = true) : 1 ≤ n ∧ len = 0 := by
  simp [mayP] at h
  omega

theorem pl_of {k n : Int} {s : ByteArray} (h : g0.has k n s) : Pl k n s := by
  rcases may_low h.2.2.2 h.1.1 h.1.2 with ⟨rfl, rfl⟩ | ⟨hz, h'⟩
  · exact .t s h.2.2.1.2
  · obtain rfl := empty_of hz
    rcases h' with ⟨rfl, rfl⟩ | ⟨rfl, rfl⟩ | ⟨rfl, hn⟩ | ⟨rfl, h1, h2⟩ | ⟨rfl, rfl⟩
    · exact .u
    · exact .l
    · exact .b n (by omega)
    · exact .n n ⟨h1, h2⟩
    · exact .q

theorem vg_of {k n : Int} {s : ByteArray} (hf : fits k n s) (h : g0.has k n s ∨ g6.has k n s) : ∃ kx nx : Int, VG k n s kx nx ∨ VS k n s := by
  rcases h with h | h
  · have hp := pl_of h
    obtain ⟨v, hv, hr⟩ := num_any hp h.1.2
    have hm : mayP k n s.size = true := h.2.2.2
    rcases hv with rfl | ⟨m, hm', rfl⟩
    · exact ⟨4, 0, .inl ⟨hp, h.1.2, hf, hm, .inl rfl, hr⟩⟩
    · exact ⟨3, m, .inl ⟨hp, h.1.2, hf, hm, .inr ⟨m, hm', rfl⟩, hr⟩⟩
  · have h0 : (6 : Int) ≤ k ∧ k ≤ 6 := h.1
    obtain rfl : k = 6 := by omega
    have h1 := may6 h.2.2.2
    have h2 : n ≤ 2 := h.2.1.2
    exact ⟨0, 0, .inr ⟨rfl, ⟨h1.1, h2⟩, empty_of h1.2⟩⟩

end Go.Proofs.YtgcmekonnliemaaGreatDoor

namespace Go.Proofs.YtgcmekonnliemaaGreatDoor
open Go.AE
set_option maxRecDepth 100000

def syN (ka na kb nb kx nx ky ny : Int) (op sa sb : ByteArray) : Sy := ⟨fun i => [ka, na, kb, nb, kx, nx, ky, ny].getD i 0, fun i => if i = 100 then op else if i = 0 then sa else sb, fun _ => (none, 0, 0), fun _ => undef⟩

theorem opN_ok {ka na kb nb kx nx ky ny : Int} {op sa sb : ByteArray} (hop : op.size ≤ 9223372036854775807) (hno : neOk 100 op = true) : IsS (syN ka na kb nb kx nx ky ny op sa sb) (.sstr 100 0 9223372036854775807) op := fun _ => by
  have h : (0 ≤ op.size ∧ op.size ≤ 9223372036854775807 ∧ neOk 100 op = true) := ⟨Nat.zero_le _, hop, hno⟩
  rw [conc]
  exact if_pos h

section
variable {ka na kb nb kx nx ky ny : Int} {sa sb : ByteArray} {w : World}
theorem o_sub_GG (htab : Tab w) (ha : VG ka na sa kx nx) (hb : VG kb nb sb ky ny) : Says (bytesV [45]) ka na sa kb nb sb w := by
  obtain ⟨kv, nv, v1, v2, v3, v4, hv⟩ := sub_any ha.num hb.num
  obtain ⟨ku, nu, u1, u2, u3, u4, hu⟩ := sign_neg ha.num
  exact fin_run (Y := (syL [ka, na, kb, nb, kx, nx, ky, ny, kv, nv, ku, nu] [sa, sb])) htab (fun _ h => orcs_nil h) (KnownOk.append (KnownOk.append (KnownOk.append k4_ok (knV_ok (j := 0) (aG_ok (Y := (syL [ka, na, kb, nb, kx, nx, ky, ny, kv, nv, ku, nu] [sa, sb])) (j := 0) rfl rfl rfl rfl ha) rfl rfl ha)) (knV_ok (j := 1) (aG_ok (Y := (syL [ka, na, kb, nb, kx, nx, ky, ny, kv, nv, ku, nu] [sa, sb])) (j := 1) rfl rfl rfl rfl hb) rfl rfl hb)) (KnownOk.cons (hasG36 _) (gOf hv (concs3 (isS_str rfl) (xA_ok (j := 0) rfl rfl ha.num) (xA_ok (j := 1) rfl rfl hb.num)) (rA_ok (Y := (syL [ka, na, kb, nb, kx, nx, ky, ny, kv, nv, ku, nu] [sa, sb])) (i := 8) rfl rfl v1 v2 v3 v4 _)) (KnownOk.cons (hasG51 _) (gOf hu (concs2 (isS_str rfl) (xA_ok (j := 0) rfl rfl ha.num)) (rA_ok (Y := (syL [ka, na, kb, nb, kx, nx, ky, ny, kv, nv, ku, nu] [sa, sb])) (i := 10) rfl rfl u1 u2 u3 u4 _)) KnownOk.nil))) sNew_ok (isS_str (b := [45]) rfl) (aG_ok (Y := (syL [ka, na, kb, nb, kx, nx, ky, ny, kv, nv, ku, nu] [sa, sb])) (j := 0) rfl rfl rfl rfl ha) (aG_ok (Y := (syL [ka, na, kb, nb, kx, nx, ky, ny, kv, nv, ku, nu] [sa, sb])) (j := 1) rfl rfl rfl rfl hb) rn0
theorem o_sub_GS (htab : Tab w) (ha : VG ka na sa kx nx) (hb : VS kb nb sb) : Says (bytesV [45]) ka na sa kb nb sb w := by
  obtain ⟨ku, nu, u1, u2, u3, u4, hu⟩ := sign_neg ha.num
  exact fin_run (Y := (syL [ka, na, kb, nb, kx, nx, 0, 0, 0, 0, ku, nu] [sa, sb])) htab (fun _ h => orcs_nil h) (KnownOk.append (KnownOk.append k4_ok (knV_ok (j := 0) (aG_ok (Y := (syL [ka, na, kb, nb, kx, nx, 0, 0, 0, 0, ku, nu] [sa, sb])) (j := 0) rfl rfl rfl rfl ha) rfl rfl ha)) (KnownOk.cons (hasG51 _) (gOf hu (concs2 (isS_str rfl) (xA_ok (j := 0) rfl rfl ha.num)) (rA_ok (Y := (syL [ka, na, kb, nb, kx, nx, 0, 0, 0, 0, ku, nu] [sa, sb])) (i := 10) rfl rfl u1 u2 u3 u4 _)) KnownOk.nil)) sNew_ok (isS_str (b := [45]) rfl) (aG_ok (Y := (syL [ka, na, kb, nb, kx, nx, 0, 0, 0, 0, ku, nu] [sa, sb])) (j := 0) rfl rfl rfl rfl ha) (aS_ok (Y := (syL [ka, na, kb, nb, kx, nx, 0, 0, 0, 0, ku, nu] [sa, sb])) (j := 1) rfl hb) rn1
theorem o_sub_SG (htab : Tab w) (ha : VS ka na sa) (hb : VG kb nb sb ky ny) : Says (bytesV [45]) ka na sa kb nb sb w := by
  exact fin_run (Y := (syL [ka, na, kb, nb, 0, 0, ky, ny, 0, 0] [sa, sb])) htab (fun _ h => orcs_nil h) (KnownOk.append k4_ok (knV_ok (j := 1) (aG_ok (Y := (syL [ka, na, kb, nb, 0, 0, ky, ny, 0, 0] [sa, sb])) (j := 1) rfl rfl rfl rfl hb) rfl rfl hb)) sNew_ok (isS_str (b := [45]) rfl) (aS_ok (Y := (syL [ka, na, kb, nb, 0, 0, ky, ny, 0, 0] [sa, sb])) (j := 0) rfl ha) (aG_ok (Y := (syL [ka, na, kb, nb, 0, 0, ky, ny, 0, 0] [sa, sb])) (j := 1) rfl rfl rfl rfl hb) rn2
theorem o_sub_SS (htab : Tab w) (ha : VS ka na sa) (hb : VS kb nb sb) : Says (bytesV [45]) ka na sa kb nb sb w := by
  exact fin_run (Y := (syL [ka, na, kb, nb, 0, 0, 0, 0, 0, 0] [sa, sb])) htab (fun _ h => orcs_nil h) k4_ok sNew_ok (isS_str (b := [45]) rfl) (aS_ok (Y := (syL [ka, na, kb, nb, 0, 0, 0, 0, 0, 0] [sa, sb])) (j := 0) rfl ha) (aS_ok (Y := (syL [ka, na, kb, nb, 0, 0, 0, 0, 0, 0] [sa, sb])) (j := 1) rfl hb) rn3
theorem o_sub (htab : Tab w) (ha : VG ka na sa kx nx ∨ VS ka na sa) (hb : VG kb nb sb ky ny ∨ VS kb nb sb) : Says (bytesV [45]) ka na sa kb nb sb w := by
  rcases ha with ha | ha <;> rcases hb with hb | hb
  · exact o_sub_GG htab ha hb
  · exact o_sub_GS htab ha hb
  · exact o_sub_SG htab ha hb
  · exact o_sub_SS htab ha hb
theorem o_mul_GG (htab : Tab w) (ha : VG ka na sa kx nx) (hb : VG kb nb sb ky ny) : Says (bytesV [42]) ka na sa kb nb sb w := by
  obtain ⟨kv, nv, v1, v2, v3, v4, hv⟩ := mul_any ha.num hb.num
  exact fin_run (Y := (syL [ka, na, kb, nb, kx, nx, ky, ny, kv, nv] [sa, sb])) htab (fun _ h => orcs_nil h) (KnownOk.append (KnownOk.append (KnownOk.append k4_ok (knV_ok (j := 0) (aG_ok (Y := (syL [ka, na, kb, nb, kx, nx, ky, ny, kv, nv] [sa, sb])) (j := 0) rfl rfl rfl rfl ha) rfl rfl ha)) (knV_ok (j := 1) (aG_ok (Y := (syL [ka, na, kb, nb, kx, nx, ky, ny, kv, nv] [sa, sb])) (j := 1) rfl rfl rfl rfl hb) rfl rfl hb)) (KnownOk.cons (hasG36 _) (gOf hv (concs3 (isS_str rfl) (xA_ok (j := 0) rfl rfl ha.num) (xA_ok (j := 1) rfl rfl hb.num)) (rA_ok (Y := (syL [ka, na, kb, nb, kx, nx, ky, ny, kv, nv] [sa, sb])) (i := 8) rfl rfl v1 v2 v3 v4 _)) KnownOk.nil)) sNew_ok (isS_str (b := [42]) rfl) (aG_ok (Y := (syL [ka, na, kb, nb, kx, nx, ky, ny, kv, nv] [sa, sb])) (j := 0) rfl rfl rfl rfl ha) (aG_ok (Y := (syL [ka, na, kb, nb, kx, nx, ky, ny, kv, nv] [sa, sb])) (j := 1) rfl rfl rfl rfl hb) rn4
theorem o_mul_GS (htab : Tab w) (ha : VG ka na sa kx nx) (hb : VS kb nb sb) : Says (bytesV [42]) ka na sa kb nb sb w := by
  exact fin_run (Y := (syL [ka, na, kb, nb, kx, nx, 0, 0, 0, 0] [sa, sb])) htab (fun _ h => orcs_nil h) (KnownOk.append k4_ok (knV_ok (j := 0) (aG_ok (Y := (syL [ka, na, kb, nb, kx, nx, 0, 0, 0, 0] [sa, sb])) (j := 0) rfl rfl rfl rfl ha) rfl rfl ha)) sNew_ok (isS_str (b := [42]) rfl) (aG_ok (Y := (syL [ka, na, kb, nb, kx, nx, 0, 0, 0, 0] [sa, sb])) (j := 0) rfl rfl rfl rfl ha) (aS_ok (Y := (syL [ka, na, kb, nb, kx, nx, 0, 0, 0, 0] [sa, sb])) (j := 1) rfl hb) rn5
theorem o_mul_SG (htab : Tab w) (ha : VS ka na sa) (hb : VG kb nb sb ky ny) : Says (bytesV [42]) ka na sa kb nb sb w := by
  exact fin_run (Y := (syL [ka, na, kb, nb, 0, 0, ky, ny, 0, 0] [sa, sb])) htab (fun _ h => orcs_nil h) (KnownOk.append k4_ok (knV_ok (j := 1) (aG_ok (Y := (syL [ka, na, kb, nb, 0, 0, ky, ny, 0, 0] [sa, sb])) (j := 1) rfl rfl rfl rfl hb) rfl rfl hb)) sNew_ok (isS_str (b := [42]) rfl) (aS_ok (Y := (syL [ka, na, kb, nb, 0, 0, ky, ny, 0, 0] [sa, sb])) (j := 0) rfl ha) (aG_ok (Y := (syL [ka, na, kb, nb, 0, 0, ky, ny, 0, 0] [sa, sb])) (j := 1) rfl rfl rfl rfl hb) rn6
theorem o_mul_SS (htab : Tab w) (ha : VS ka na sa) (hb : VS kb nb sb) : Says (bytesV [42]) ka na sa kb nb sb w := by
  exact fin_run (Y := (syL [ka, na, kb, nb, 0, 0, 0, 0, 0, 0] [sa, sb])) htab (fun _ h => orcs_nil h) k4_ok sNew_ok (isS_str (b := [42]) rfl) (aS_ok (Y := (syL [ka, na, kb, nb, 0, 0, 0, 0, 0, 0] [sa, sb])) (j := 0) rfl ha) (aS_ok (Y := (syL [ka, na, kb, nb, 0, 0, 0, 0, 0, 0] [sa, sb])) (j := 1) rfl hb) rn7
theorem o_mul (htab : Tab w) (ha : VG ka na sa kx nx ∨ VS ka na sa) (hb : VG kb nb sb ky ny ∨ VS kb nb sb) : Says (bytesV [42]) ka na sa kb nb sb w := by
  rcases ha with ha | ha <;> rcases hb with hb | hb
  · exact o_mul_GG htab ha hb
  · exact o_mul_GS htab ha hb
  · exact o_mul_SG htab ha hb
  · exact o_mul_SS htab ha hb
theorem o_div_GG (htab : Tab w) (ha : VG ka na sa kx nx) (hb : VG kb nb sb ky ny) : Says (bytesV [47]) ka na sa kb nb sb w := by
  obtain ⟨kv, nv, v1, v2, v3, v4, hv⟩ := div_any ha.num hb.num
  exact fin_run (Y := (syL [ka, na, kb, nb, kx, nx, ky, ny, kv, nv] [sa, sb])) htab (fun _ h => orcs_nil h) (KnownOk.append (KnownOk.append (KnownOk.append k4_ok (knV_ok (j := 0) (aG_ok (Y := (syL [ka, na, kb, nb, kx, nx, ky, ny, kv, nv] [sa, sb])) (j := 0) rfl rfl rfl rfl ha) rfl rfl ha)) (knV_ok (j := 1) (aG_ok (Y := (syL [ka, na, kb, nb, kx, nx, ky, ny, kv, nv] [sa, sb])) (j := 1) rfl rfl rfl rfl hb) rfl rfl hb)) (KnownOk.cons (hasG36 _) (gOf hv (concs3 (isS_str rfl) (xA_ok (j := 0) rfl rfl ha.num) (xA_ok (j := 1) rfl rfl hb.num)) (rA_ok (Y := (syL [ka, na, kb, nb, kx, nx, ky, ny, kv, nv] [sa, sb])) (i := 8) rfl rfl v1 v2 v3 v4 _)) KnownOk.nil)) sNew_ok (isS_str (b := [47]) rfl) (aG_ok (Y := (syL [ka, na, kb, nb, kx, nx, ky, ny, kv, nv] [sa, sb])) (j := 0) rfl rfl rfl rfl ha) (aG_ok (Y := (syL [ka, na, kb, nb, kx, nx, ky, ny, kv, nv] [sa, sb])) (j := 1) rfl rfl rfl rfl hb) rn8
theorem o_div_GS (htab : Tab w) (ha : VG ka na sa kx nx) (hb : VS kb nb sb) : Says (bytesV [47]) ka na sa kb nb sb w := by
  exact fin_run (Y := (syL [ka, na, kb, nb, kx, nx, 0, 0, 0, 0] [sa, sb])) htab (fun _ h => orcs_nil h) (KnownOk.append k4_ok (knV_ok (j := 0) (aG_ok (Y := (syL [ka, na, kb, nb, kx, nx, 0, 0, 0, 0] [sa, sb])) (j := 0) rfl rfl rfl rfl ha) rfl rfl ha)) sNew_ok (isS_str (b := [47]) rfl) (aG_ok (Y := (syL [ka, na, kb, nb, kx, nx, 0, 0, 0, 0] [sa, sb])) (j := 0) rfl rfl rfl rfl ha) (aS_ok (Y := (syL [ka, na, kb, nb, kx, nx, 0, 0, 0, 0] [sa, sb])) (j := 1) rfl hb) rn9
theorem o_div_SG (htab : Tab w) (ha : VS ka na sa) (hb : VG kb nb sb ky ny) : Says (bytesV [47]) ka na sa kb nb sb w := by
  exact fin_run (Y := (syL [ka, na, kb, nb, 0, 0, ky, ny, 0, 0] [sa, sb])) htab (fun _ h => orcs_nil h) (KnownOk.append k4_ok (knV_ok (j := 1) (aG_ok (Y := (syL [ka, na, kb, nb, 0, 0, ky, ny, 0, 0] [sa, sb])) (j := 1) rfl rfl rfl rfl hb) rfl rfl hb)) sNew_ok (isS_str (b := [47]) rfl) (aS_ok (Y := (syL [ka, na, kb, nb, 0, 0, ky, ny, 0, 0] [sa, sb])) (j := 0) rfl ha) (aG_ok (Y := (syL [ka, na, kb, nb, 0, 0, ky, ny, 0, 0] [sa, sb])) (j := 1) rfl rfl rfl rfl hb) rn10
theorem o_div_SS (htab : Tab w) (ha : VS ka na sa) (hb : VS kb nb sb) : Says (bytesV [47]) ka na sa kb nb sb w := by
  exact fin_run (Y := (syL [ka, na, kb, nb, 0, 0, 0, 0, 0, 0] [sa, sb])) htab (fun _ h => orcs_nil h) k4_ok sNew_ok (isS_str (b := [47]) rfl) (aS_ok (Y := (syL [ka, na, kb, nb, 0, 0, 0, 0, 0, 0] [sa, sb])) (j := 0) rfl ha) (aS_ok (Y := (syL [ka, na, kb, nb, 0, 0, 0, 0, 0, 0] [sa, sb])) (j := 1) rfl hb) rn11
theorem o_div (htab : Tab w) (ha : VG ka na sa kx nx ∨ VS ka na sa) (hb : VG kb nb sb ky ny ∨ VS kb nb sb) : Says (bytesV [47]) ka na sa kb nb sb w := by
  rcases ha with ha | ha <;> rcases hb with hb | hb
  · exact o_div_GG htab ha hb
  · exact o_div_GS htab ha hb
  · exact o_div_SG htab ha hb
  · exact o_div_SS htab ha hb
theorem o_rem_GG (htab : Tab w) (ha : VG ka na sa kx nx) (hb : VG kb nb sb ky ny) : Says (bytesV [37]) ka na sa kb nb sb w := by
  obtain ⟨kv, nv, v1, v2, v3, v4, hv⟩ := rem_any ha.num hb.num
  exact fin_run (Y := (syL [ka, na, kb, nb, kx, nx, ky, ny, kv, nv] [sa, sb])) htab (fun _ h => orcs_nil h) (KnownOk.append (KnownOk.append (KnownOk.append k4_ok (knV_ok (j := 0) (aG_ok (Y := (syL [ka, na, kb, nb, kx, nx, ky, ny, kv, nv] [sa, sb])) (j := 0) rfl rfl rfl rfl ha) rfl rfl ha)) (knV_ok (j := 1) (aG_ok (Y := (syL [ka, na, kb, nb, kx, nx, ky, ny, kv, nv] [sa, sb])) (j := 1) rfl rfl rfl rfl hb) rfl rfl hb)) (KnownOk.cons (hasG36 _) (gOf hv (concs3 (isS_str rfl) (xA_ok (j := 0) rfl rfl ha.num) (xA_ok (j := 1) rfl rfl hb.num)) (rA_ok (Y := (syL [ka, na, kb, nb, kx, nx, ky, ny, kv, nv] [sa, sb])) (i := 8) rfl rfl v1 v2 v3 v4 _)) KnownOk.nil)) sNew_ok (isS_str (b := [37]) rfl) (aG_ok (Y := (syL [ka, na, kb, nb, kx, nx, ky, ny, kv, nv] [sa, sb])) (j := 0) rfl rfl rfl rfl ha) (aG_ok (Y := (syL [ka, na, kb, nb, kx, nx, ky, ny, kv, nv] [sa, sb])) (j := 1) rfl rfl rfl rfl hb) rn12
theorem o_rem_GS (htab : Tab w) (ha : VG ka na sa kx nx) (hb : VS kb nb sb) : Says (bytesV [37]) ka na sa kb nb sb w := by
  exact fin_run (Y := (syL [ka, na, kb, nb, kx, nx, 0, 0, 0, 0] [sa, sb])) htab (fun _ h => orcs_nil h) (KnownOk.append k4_ok (knV_ok (j := 0) (aG_ok (Y := (syL [ka, na, kb, nb, kx, nx, 0, 0, 0, 0] [sa, sb])) (j := 0) rfl rfl rfl rfl ha) rfl rfl ha)) sNew_ok (isS_str (b := [37]) rfl) (aG_ok (Y := (syL [ka, na, kb, nb, kx, nx, 0, 0, 0, 0] [sa, sb])) (j := 0) rfl rfl rfl rfl ha) (aS_ok (Y := (syL [ka, na, kb, nb, kx, nx, 0, 0, 0, 0] [sa, sb])) (j := 1) rfl hb) rn13
theorem o_rem_SG (htab : Tab w) (ha : VS ka na sa) (hb : VG kb nb sb ky ny) : Says (bytesV [37]) ka na sa kb nb sb w := by
  exact fin_run (Y := (syL [ka, na, kb, nb, 0, 0, ky, ny, 0, 0] [sa, sb])) htab (fun _ h => orcs_nil h) (KnownOk.append k4_ok (knV_ok (j := 1) (aG_ok (Y := (syL [ka, na, kb, nb, 0, 0, ky, ny, 0, 0] [sa, sb])) (j := 1) rfl rfl rfl rfl hb) rfl rfl hb)) sNew_ok (isS_str (b := [37]) rfl) (aS_ok (Y := (syL [ka, na, kb, nb, 0, 0, ky, ny, 0, 0] [sa, sb])) (j := 0) rfl ha) (aG_ok (Y := (syL [ka, na, kb, nb, 0, 0, ky, ny, 0, 0] [sa, sb])) (j := 1) rfl rfl rfl rfl hb) rn14
theorem o_rem_SS (htab : Tab w) (ha : VS ka na sa) (hb : VS kb nb sb) : Says (bytesV [37]) ka na sa kb nb sb w := by
  exact fin_run (Y := (syL [ka, na, kb, nb, 0, 0, 0, 0, 0, 0] [sa, sb])) htab (fun _ h => orcs_nil h) k4_ok sNew_ok (isS_str (b := [37]) rfl) (aS_ok (Y := (syL [ka, na, kb, nb, 0, 0, 0, 0, 0, 0] [sa, sb])) (j := 0) rfl ha) (aS_ok (Y := (syL [ka, na, kb, nb, 0, 0, 0, 0, 0, 0] [sa, sb])) (j := 1) rfl hb) rn15
theorem o_rem (htab : Tab w) (ha : VG ka na sa kx nx ∨ VS ka na sa) (hb : VG kb nb sb ky ny ∨ VS kb nb sb) : Says (bytesV [37]) ka na sa kb nb sb w := by
  rcases ha with ha | ha <;> rcases hb with hb | hb
  · exact o_rem_GG htab ha hb
  · exact o_rem_GS htab ha hb
  · exact o_rem_SG htab ha hb
  · exact o_rem_SS htab ha hb
theorem o_and_GG (htab : Tab w) (ha : VG ka na sa kx nx) (hb : VG kb nb sb ky ny) : Says (bytesV [38]) ka na sa kb nb sb w := by
  obtain ⟨kv, nv, v1, v2, v3, v4, hv⟩ := and_any ha.num hb.num
  exact fin_run (Y := (syL [ka, na, kb, nb, kx, nx, ky, ny, kv, nv] [sa, sb])) htab (fun _ h => orcs_nil h) (KnownOk.append (KnownOk.append (KnownOk.append k4_ok (knV_ok (j := 0) (aG_ok (Y := (syL [ka, na, kb, nb, kx, nx, ky, ny, kv, nv] [sa, sb])) (j := 0) rfl rfl rfl rfl ha) rfl rfl ha)) (knV_ok (j := 1) (aG_ok (Y := (syL [ka, na, kb, nb, kx, nx, ky, ny, kv, nv] [sa, sb])) (j := 1) rfl rfl rfl rfl hb) rfl rfl hb)) (KnownOk.cons (hasG36 _) (gOf hv (concs3 (isS_str rfl) (xA_ok (j := 0) rfl rfl ha.num) (xA_ok (j := 1) rfl rfl hb.num)) (rA_ok (Y := (syL [ka, na, kb, nb, kx, nx, ky, ny, kv, nv] [sa, sb])) (i := 8) rfl rfl v1 v2 v3 v4 _)) KnownOk.nil)) sNew_ok (isS_str (b := [38]) rfl) (aG_ok (Y := (syL [ka, na, kb, nb, kx, nx, ky, ny, kv, nv] [sa, sb])) (j := 0) rfl rfl rfl rfl ha) (aG_ok (Y := (syL [ka, na, kb, nb, kx, nx, ky, ny, kv, nv] [sa, sb])) (j := 1) rfl rfl rfl rfl hb) rn16
theorem o_and_GS (htab : Tab w) (ha : VG ka na sa kx nx) (hb : VS kb nb sb) : Says (bytesV [38]) ka na sa kb nb sb w := by
  exact fin_run (Y := (syL [ka, na, kb, nb, kx, nx, 0, 0, 0, 0] [sa, sb])) htab (fun _ h => orcs_nil h) (KnownOk.append k4_ok (knV_ok (j := 0) (aG_ok (Y := (syL [ka, na, kb, nb, kx, nx, 0, 0, 0, 0] [sa, sb])) (j := 0) rfl rfl rfl rfl ha) rfl rfl ha)) sNew_ok (isS_str (b := [38]) rfl) (aG_ok (Y := (syL [ka, na, kb, nb, kx, nx, 0, 0, 0, 0] [sa, sb])) (j := 0) rfl rfl rfl rfl ha) (aS_ok (Y := (syL [ka, na, kb, nb, kx, nx, 0, 0, 0, 0] [sa, sb])) (j := 1) rfl hb) rn17
theorem o_and_SG (htab : Tab w) (ha : VS ka na sa) (hb : VG kb nb sb ky ny) : Says (bytesV [38]) ka na sa kb nb sb w := by
  exact fin_run (Y := (syL [ka, na, kb, nb, 0, 0, ky, ny, 0, 0] [sa, sb])) htab (fun _ h => orcs_nil h) (KnownOk.append k4_ok (knV_ok (j := 1) (aG_ok (Y := (syL [ka, na, kb, nb, 0, 0, ky, ny, 0, 0] [sa, sb])) (j := 1) rfl rfl rfl rfl hb) rfl rfl hb)) sNew_ok (isS_str (b := [38]) rfl) (aS_ok (Y := (syL [ka, na, kb, nb, 0, 0, ky, ny, 0, 0] [sa, sb])) (j := 0) rfl ha) (aG_ok (Y := (syL [ka, na, kb, nb, 0, 0, ky, ny, 0, 0] [sa, sb])) (j := 1) rfl rfl rfl rfl hb) rn18
theorem o_and_SS (htab : Tab w) (ha : VS ka na sa) (hb : VS kb nb sb) : Says (bytesV [38]) ka na sa kb nb sb w := by
  exact fin_run (Y := (syL [ka, na, kb, nb, 0, 0, 0, 0, 0, 0] [sa, sb])) htab (fun _ h => orcs_nil h) k4_ok sNew_ok (isS_str (b := [38]) rfl) (aS_ok (Y := (syL [ka, na, kb, nb, 0, 0, 0, 0, 0, 0] [sa, sb])) (j := 0) rfl ha) (aS_ok (Y := (syL [ka, na, kb, nb, 0, 0, 0, 0, 0, 0] [sa, sb])) (j := 1) rfl hb) rn19
theorem o_and (htab : Tab w) (ha : VG ka na sa kx nx ∨ VS ka na sa) (hb : VG kb nb sb ky ny ∨ VS kb nb sb) : Says (bytesV [38]) ka na sa kb nb sb w := by
  rcases ha with ha | ha <;> rcases hb with hb | hb
  · exact o_and_GG htab ha hb
  · exact o_and_GS htab ha hb
  · exact o_and_SG htab ha hb
  · exact o_and_SS htab ha hb
theorem o_or_GG (htab : Tab w) (ha : VG ka na sa kx nx) (hb : VG kb nb sb ky ny) : Says (bytesV [124]) ka na sa kb nb sb w := by
  obtain ⟨kv, nv, v1, v2, v3, v4, hv⟩ := or_any ha.num hb.num
  exact fin_run (Y := (syL [ka, na, kb, nb, kx, nx, ky, ny, kv, nv] [sa, sb])) htab (fun _ h => orcs_nil h) (KnownOk.append (KnownOk.append (KnownOk.append k4_ok (knV_ok (j := 0) (aG_ok (Y := (syL [ka, na, kb, nb, kx, nx, ky, ny, kv, nv] [sa, sb])) (j := 0) rfl rfl rfl rfl ha) rfl rfl ha)) (knV_ok (j := 1) (aG_ok (Y := (syL [ka, na, kb, nb, kx, nx, ky, ny, kv, nv] [sa, sb])) (j := 1) rfl rfl rfl rfl hb) rfl rfl hb)) (KnownOk.cons (hasG36 _) (gOf hv (concs3 (isS_str rfl) (xA_ok (j := 0) rfl rfl ha.num) (xA_ok (j := 1) rfl rfl hb.num)) (rA_ok (Y := (syL [ka, na, kb, nb, kx, nx, ky, ny, kv, nv] [sa, sb])) (i := 8) rfl rfl v1 v2 v3 v4 _)) KnownOk.nil)) sNew_ok (isS_str (b := [124]) rfl) (aG_ok (Y := (syL [ka, na, kb, nb, kx, nx, ky, ny, kv, nv] [sa, sb])) (j := 0) rfl rfl rfl rfl ha) (aG_ok (Y := (syL [ka, na, kb, nb, kx, nx, ky, ny, kv, nv] [sa, sb])) (j := 1) rfl rfl rfl rfl hb) rn20
theorem o_or_GS (htab : Tab w) (ha : VG ka na sa kx nx) (hb : VS kb nb sb) : Says (bytesV [124]) ka na sa kb nb sb w := by
  exact fin_run (Y := (syL [ka, na, kb, nb, kx, nx, 0, 0, 0, 0] [sa, sb])) htab (fun _ h => orcs_nil h) (KnownOk.append k4_ok (knV_ok (j := 0) (aG_ok (Y := (syL [ka, na, kb, nb, kx, nx, 0, 0, 0, 0] [sa, sb])) (j := 0) rfl rfl rfl rfl ha) rfl rfl ha)) sNew_ok (isS_str (b := [124]) rfl) (aG_ok (Y := (syL [ka, na, kb, nb, kx, nx, 0, 0, 0, 0] [sa, sb])) (j := 0) rfl rfl rfl rfl ha) (aS_ok (Y := (syL [ka, na, kb, nb, kx, nx, 0, 0, 0, 0] [sa, sb])) (j := 1) rfl hb) rn21
theorem o_or_SG (htab : Tab w) (ha : VS ka na sa) (hb : VG kb nb sb ky ny) : Says (bytesV [124]) ka na sa kb nb sb w := by
  exact fin_run (Y := (syL [ka, na, kb, nb, 0, 0, ky, ny, 0, 0] [sa, sb])) htab (fun _ h => orcs_nil h) (KnownOk.append k4_ok (knV_ok (j := 1) (aG_ok (Y := (syL [ka, na, kb, nb, 0, 0, ky, ny, 0, 0] [sa, sb])) (j := 1) rfl rfl rfl rfl hb) rfl rfl hb)) sNew_ok (isS_str (b := [124]) rfl) (aS_ok (Y := (syL [ka, na, kb, nb, 0, 0, ky, ny, 0, 0] [sa, sb])) (j := 0) rfl ha) (aG_ok (Y := (syL [ka, na, kb, nb, 0, 0, ky, ny, 0, 0] [sa, sb])) (j := 1) rfl rfl rfl rfl hb) rn22
theorem o_or_SS (htab : Tab w) (ha : VS ka na sa) (hb : VS kb nb sb) : Says (bytesV [124]) ka na sa kb nb sb w := by
  exact fin_run (Y := (syL [ka, na, kb, nb, 0, 0, 0, 0, 0, 0] [sa, sb])) htab (fun _ h => orcs_nil h) k4_ok sNew_ok (isS_str (b := [124]) rfl) (aS_ok (Y := (syL [ka, na, kb, nb, 0, 0, 0, 0, 0, 0] [sa, sb])) (j := 0) rfl ha) (aS_ok (Y := (syL [ka, na, kb, nb, 0, 0, 0, 0, 0, 0] [sa, sb])) (j := 1) rfl hb) rn23
theorem o_or (htab : Tab w) (ha : VG ka na sa kx nx ∨ VS ka na sa) (hb : VG kb nb sb ky ny ∨ VS kb nb sb) : Says (bytesV [124]) ka na sa kb nb sb w := by
  rcases ha with ha | ha <;> rcases hb with hb | hb
  · exact o_or_GG htab ha hb
  · exact o_or_GS htab ha hb
  · exact o_or_SG htab ha hb
  · exact o_or_SS htab ha hb
theorem o_xor_GG (htab : Tab w) (ha : VG ka na sa kx nx) (hb : VG kb nb sb ky ny) : Says (bytesV [94]) ka na sa kb nb sb w := by
  obtain ⟨kv, nv, v1, v2, v3, v4, hv⟩ := xor_any ha.num hb.num
  exact fin_run (Y := (syL [ka, na, kb, nb, kx, nx, ky, ny, kv, nv] [sa, sb])) htab (fun _ h => orcs_nil h) (KnownOk.append (KnownOk.append (KnownOk.append k4_ok (knV_ok (j := 0) (aG_ok (Y := (syL [ka, na, kb, nb, kx, nx, ky, ny, kv, nv] [sa, sb])) (j := 0) rfl rfl rfl rfl ha) rfl rfl ha)) (knV_ok (j := 1) (aG_ok (Y := (syL [ka, na, kb, nb, kx, nx, ky, ny, kv, nv] [sa, sb])) (j := 1) rfl rfl rfl rfl hb) rfl rfl hb)) (KnownOk.cons (hasG36 _) (gOf hv (concs3 (isS_str rfl) (xA_ok (j := 0) rfl rfl ha.num) (xA_ok (j := 1) rfl rfl hb.num)) (rA_ok (Y := (syL [ka, na, kb, nb, kx, nx, ky, ny, kv, nv] [sa, sb])) (i := 8) rfl rfl v1 v2 v3 v4 _)) KnownOk.nil)) sNew_ok (isS_str (b := [94]) rfl) (aG_ok (Y := (syL [ka, na, kb, nb, kx, nx, ky, ny, kv, nv] [sa, sb])) (j := 0) rfl rfl rfl rfl ha) (aG_ok (Y := (syL [ka, na, kb, nb, kx, nx, ky, ny, kv, nv] [sa, sb])) (j := 1) rfl rfl rfl rfl hb) rn24
theorem o_xor_GS (htab : Tab w) (ha : VG ka na sa kx nx) (hb : VS kb nb sb) : Says (bytesV [94]) ka na sa kb nb sb w := by
  exact fin_run (Y := (syL [ka, na, kb, nb, kx, nx, 0, 0, 0, 0] [sa, sb])) htab (fun _ h => orcs_nil h) (KnownOk.append k4_ok (knV_ok (j := 0) (aG_ok (Y := (syL [ka, na, kb, nb, kx, nx, 0, 0, 0, 0] [sa, sb])) (j := 0) rfl rfl rfl rfl ha) rfl rfl ha)) sNew_ok (isS_str (b := [94]) rfl) (aG_ok (Y := (syL [ka, na, kb, nb, kx, nx, 0, 0, 0, 0] [sa, sb])) (j := 0) rfl rfl rfl rfl ha) (aS_ok (Y := (syL [ka, na, kb, nb, kx, nx, 0, 0, 0, 0] [sa, sb])) (j := 1) rfl hb) rn25
theorem o_xor_SG (htab : Tab w) (ha : VS ka na sa) (hb : VG kb nb sb ky ny) : Says (bytesV [94]) ka na sa kb nb sb w := by
  exact fin_run (Y := (syL [ka, na, kb, nb, 0, 0, ky, ny, 0, 0] [sa, sb])) htab (fun _ h => orcs_nil h) (KnownOk.append k4_ok (knV_ok (j := 1) (aG_ok (Y := (syL [ka, na, kb, nb, 0, 0, ky, ny, 0, 0] [sa, sb])) (j := 1) rfl rfl rfl rfl hb) rfl rfl hb)) sNew_ok (isS_str (b := [94]) rfl) (aS_ok (Y := (syL [ka, na, kb, nb, 0, 0, ky, ny, 0, 0] [sa, sb])) (j := 0) rfl ha) (aG_ok (Y := (syL [ka, na, kb, nb, 0, 0, ky, ny, 0, 0] [sa, sb])) (j := 1) rfl rfl rfl rfl hb) rn26
theorem o_xor_SS (htab : Tab w) (ha : VS ka na sa) (hb : VS kb nb sb) : Says (bytesV [94]) ka na sa kb nb sb w := by
  exact fin_run (Y := (syL [ka, na, kb, nb, 0, 0, 0, 0, 0, 0] [sa, sb])) htab (fun _ h => orcs_nil h) k4_ok sNew_ok (isS_str (b := [94]) rfl) (aS_ok (Y := (syL [ka, na, kb, nb, 0, 0, 0, 0, 0, 0] [sa, sb])) (j := 0) rfl ha) (aS_ok (Y := (syL [ka, na, kb, nb, 0, 0, 0, 0, 0, 0] [sa, sb])) (j := 1) rfl hb) rn27
theorem o_xor (htab : Tab w) (ha : VG ka na sa kx nx ∨ VS ka na sa) (hb : VG kb nb sb ky ny ∨ VS kb nb sb) : Says (bytesV [94]) ka na sa kb nb sb w := by
  rcases ha with ha | ha <;> rcases hb with hb | hb
  · exact o_xor_GG htab ha hb
  · exact o_xor_GS htab ha hb
  · exact o_xor_SG htab ha hb
  · exact o_xor_SS htab ha hb
theorem o_shl_GG (htab : Tab w) (ha : VG ka na sa kx nx) (hb : VG kb nb sb ky ny) : Says (bytesV [60, 60]) ka na sa kb nb sb w := by
  obtain ⟨kv, nv, v1, v2, v3, v4, hv⟩ := shl_any ha.num hb.num
  exact fin_run (Y := (syL [ka, na, kb, nb, kx, nx, ky, ny, kv, nv] [sa, sb])) htab (fun _ h => orcs_nil h) (KnownOk.append (KnownOk.append (KnownOk.append k4_ok (knV_ok (j := 0) (aG_ok (Y := (syL [ka, na, kb, nb, kx, nx, ky, ny, kv, nv] [sa, sb])) (j := 0) rfl rfl rfl rfl ha) rfl rfl ha)) (knV_ok (j := 1) (aG_ok (Y := (syL [ka, na, kb, nb, kx, nx, ky, ny, kv, nv] [sa, sb])) (j := 1) rfl rfl rfl rfl hb) rfl rfl hb)) (KnownOk.cons (hasG36 _) (gOf hv (concs3 (isS_str rfl) (xA_ok (j := 0) rfl rfl ha.num) (xA_ok (j := 1) rfl rfl hb.num)) (rA_ok (Y := (syL [ka, na, kb, nb, kx, nx, ky, ny, kv, nv] [sa, sb])) (i := 8) rfl rfl v1 v2 v3 v4 _)) KnownOk.nil)) sNew_ok (isS_str (b := [60, 60]) rfl) (aG_ok (Y := (syL [ka, na, kb, nb, kx, nx, ky, ny, kv, nv] [sa, sb])) (j := 0) rfl rfl rfl rfl ha) (aG_ok (Y := (syL [ka, na, kb, nb, kx, nx, ky, ny, kv, nv] [sa, sb])) (j := 1) rfl rfl rfl rfl hb) rn28
theorem o_shl_GS (htab : Tab w) (ha : VG ka na sa kx nx) (hb : VS kb nb sb) : Says (bytesV [60, 60]) ka na sa kb nb sb w := by
  exact fin_run (Y := (syL [ka, na, kb, nb, kx, nx, 0, 0, 0, 0] [sa, sb])) htab (fun _ h => orcs_nil h) (KnownOk.append k4_ok (knV_ok (j := 0) (aG_ok (Y := (syL [ka, na, kb, nb, kx, nx, 0, 0, 0, 0] [sa, sb])) (j := 0) rfl rfl rfl rfl ha) rfl rfl ha)) sNew_ok (isS_str (b := [60, 60]) rfl) (aG_ok (Y := (syL [ka, na, kb, nb, kx, nx, 0, 0, 0, 0] [sa, sb])) (j := 0) rfl rfl rfl rfl ha) (aS_ok (Y := (syL [ka, na, kb, nb, kx, nx, 0, 0, 0, 0] [sa, sb])) (j := 1) rfl hb) rn29
theorem o_shl_SG (htab : Tab w) (ha : VS ka na sa) (hb : VG kb nb sb ky ny) : Says (bytesV [60, 60]) ka na sa kb nb sb w := by
  exact fin_run (Y := (syL [ka, na, kb, nb, 0, 0, ky, ny, 0, 0] [sa, sb])) htab (fun _ h => orcs_nil h) (KnownOk.append k4_ok (knV_ok (j := 1) (aG_ok (Y := (syL [ka, na, kb, nb, 0, 0, ky, ny, 0, 0] [sa, sb])) (j := 1) rfl rfl rfl rfl hb) rfl rfl hb)) sNew_ok (isS_str (b := [60, 60]) rfl) (aS_ok (Y := (syL [ka, na, kb, nb, 0, 0, ky, ny, 0, 0] [sa, sb])) (j := 0) rfl ha) (aG_ok (Y := (syL [ka, na, kb, nb, 0, 0, ky, ny, 0, 0] [sa, sb])) (j := 1) rfl rfl rfl rfl hb) rn30
theorem o_shl_SS (htab : Tab w) (ha : VS ka na sa) (hb : VS kb nb sb) : Says (bytesV [60, 60]) ka na sa kb nb sb w := by
  exact fin_run (Y := (syL [ka, na, kb, nb, 0, 0, 0, 0, 0, 0] [sa, sb])) htab (fun _ h => orcs_nil h) k4_ok sNew_ok (isS_str (b := [60, 60]) rfl) (aS_ok (Y := (syL [ka, na, kb, nb, 0, 0, 0, 0, 0, 0] [sa, sb])) (j := 0) rfl ha) (aS_ok (Y := (syL [ka, na, kb, nb, 0, 0, 0, 0, 0, 0] [sa, sb])) (j := 1) rfl hb) rn31
theorem o_shl (htab : Tab w) (ha : VG ka na sa kx nx ∨ VS ka na sa) (hb : VG kb nb sb ky ny ∨ VS kb nb sb) : Says (bytesV [60, 60]) ka na sa kb nb sb w := by
  rcases ha with ha | ha <;> rcases hb with hb | hb
  · exact o_shl_GG htab ha hb
  · exact o_shl_GS htab ha hb
  · exact o_shl_SG htab ha hb
  · exact o_shl_SS htab ha hb
theorem o_shr_GG (htab : Tab w) (ha : VG ka na sa kx nx) (hb : VG kb nb sb ky ny) : Says (bytesV [62, 62]) ka na sa kb nb sb w := by
  obtain ⟨kv, nv, v1, v2, v3, v4, hv⟩ := shr_any ha.num hb.num
  exact fin_run (Y := (syL [ka, na, kb, nb, kx, nx, ky, ny, kv, nv] [sa, sb])) htab (fun _ h => orcs_nil h) (KnownOk.append (KnownOk.append (KnownOk.append k4_ok (knV_ok (j := 0) (aG_ok (Y := (syL [ka, na, kb, nb, kx, nx, ky, ny, kv, nv] [sa, sb])) (j := 0) rfl rfl rfl rfl ha) rfl rfl ha)) (knV_ok (j := 1) (aG_ok (Y := (syL [ka, na, kb, nb, kx, nx, ky, ny, kv, nv] [sa, sb])) (j := 1) rfl rfl rfl rfl hb) rfl rfl hb)) (KnownOk.cons (hasG36 _) (gOf hv (concs3 (isS_str rfl) (xA_ok (j := 0) rfl rfl ha.num) (xA_ok (j := 1) rfl rfl hb.num)) (rA_ok (Y := (syL [ka, na, kb, nb, kx, nx, ky, ny, kv, nv] [sa, sb])) (i := 8) rfl rfl v1 v2 v3 v4 _)) KnownOk.nil)) sNew_ok (isS_str (b := [62, 62]) rfl) (aG_ok (Y := (syL [ka, na, kb, nb, kx, nx, ky, ny, kv, nv] [sa, sb])) (j := 0) rfl rfl rfl rfl ha) (aG_ok (Y := (syL [ka, na, kb, nb, kx, nx, ky, ny, kv, nv] [sa, sb])) (j := 1) rfl rfl rfl rfl hb) rn32
theorem o_shr_GS (htab : Tab w) (ha : VG ka na sa kx nx) (hb : VS kb nb sb) : Says (bytesV [62, 62]) ka na sa kb nb sb w := by
  exact fin_run (Y := (syL [ka, na, kb, nb, kx, nx, 0, 0, 0, 0] [sa, sb])) htab (fun _ h => orcs_nil h) (KnownOk.append k4_ok (knV_ok (j := 0) (aG_ok (Y := (syL [ka, na, kb, nb, kx, nx, 0, 0, 0, 0] [sa, sb])) (j := 0) rfl rfl rfl rfl ha) rfl rfl ha)) sNew_ok (isS_str (b := [62, 62]) rfl) (aG_ok (Y := (syL [ka, na, kb, nb, kx, nx, 0, 0, 0, 0] [sa, sb])) (j := 0) rfl rfl rfl rfl ha) (aS_ok (Y := (syL [ka, na, kb, nb, kx, nx, 0, 0, 0, 0] [sa, sb])) (j := 1) rfl hb) rn33
theorem o_shr_SG (htab : Tab w) (ha : VS ka na sa) (hb : VG kb nb sb ky ny) : Says (bytesV [62, 62]) ka na sa kb nb sb w := by
  exact fin_run (Y := (syL [ka, na, kb, nb, 0, 0, ky, ny, 0, 0] [sa, sb])) htab (fun _ h => orcs_nil h) (KnownOk.append k4_ok (knV_ok (j := 1) (aG_ok (Y := (syL [ka, na, kb, nb, 0, 0, ky, ny, 0, 0] [sa, sb])) (j := 1) rfl rfl rfl rfl hb) rfl rfl hb)) sNew_ok (isS_str (b := [62, 62]) rfl) (aS_ok (Y := (syL [ka, na, kb, nb, 0, 0, ky, ny, 0, 0] [sa, sb])) (j := 0) rfl ha) (aG_ok (Y := (syL [ka, na, kb, nb, 0, 0, ky, ny, 0, 0] [sa, sb])) (j := 1) rfl rfl rfl rfl hb) rn34
theorem o_shr_SS (htab : Tab w) (ha : VS ka na sa) (hb : VS kb nb sb) : Says (bytesV [62, 62]) ka na sa kb nb sb w := by
  exact fin_run (Y := (syL [ka, na, kb, nb, 0, 0, 0, 0, 0, 0] [sa, sb])) htab (fun _ h => orcs_nil h) k4_ok sNew_ok (isS_str (b := [62, 62]) rfl) (aS_ok (Y := (syL [ka, na, kb, nb, 0, 0, 0, 0, 0, 0] [sa, sb])) (j := 0) rfl ha) (aS_ok (Y := (syL [ka, na, kb, nb, 0, 0, 0, 0, 0, 0] [sa, sb])) (j := 1) rfl hb) rn35
theorem o_shr (htab : Tab w) (ha : VG ka na sa kx nx ∨ VS ka na sa) (hb : VG kb nb sb ky ny ∨ VS kb nb sb) : Says (bytesV [62, 62]) ka na sa kb nb sb w := by
  rcases ha with ha | ha <;> rcases hb with hb | hb
  · exact o_shr_GG htab ha hb
  · exact o_shr_GS htab ha hb
  · exact o_shr_SG htab ha hb
  · exact o_shr_SS htab ha hb
theorem o_inv_GG (htab : Tab w) (ha : VG ka na sa kx nx) (hb : VG kb nb sb ky ny) : Says (bytesV [126]) ka na sa kb nb sb w := by
  obtain ⟨ku, nu, u1, u2, u3, u4, hu⟩ := sign_inv ha.num
  exact fin_run (Y := (syL [ka, na, kb, nb, kx, nx, ky, ny, 0, 0, ku, nu] [sa, sb])) htab (fun _ h => orcs_nil h) (KnownOk.append (KnownOk.append (KnownOk.append k4_ok (knV_ok (j := 0) (aG_ok (Y := (syL [ka, na, kb, nb, kx, nx, ky, ny, 0, 0, ku, nu] [sa, sb])) (j := 0) rfl rfl rfl rfl ha) rfl rfl ha)) (knV_ok (j := 1) (aG_ok (Y := (syL [ka, na, kb, nb, kx, nx, ky, ny, 0, 0, ku, nu] [sa, sb])) (j := 1) rfl rfl rfl rfl hb) rfl rfl hb)) (KnownOk.cons (hasG51 _) (gOf hu (concs2 (isS_str rfl) (xA_ok (j := 0) rfl rfl ha.num)) (rA_ok (Y := (syL [ka, na, kb, nb, kx, nx, ky, ny, 0, 0, ku, nu] [sa, sb])) (i := 10) rfl rfl u1 u2 u3 u4 _)) KnownOk.nil)) sNew_ok (isS_str (b := [126]) rfl) (aG_ok (Y := (syL [ka, na, kb, nb, kx, nx, ky, ny, 0, 0, ku, nu] [sa, sb])) (j := 0) rfl rfl rfl rfl ha) (aG_ok (Y := (syL [ka, na, kb, nb, kx, nx, ky, ny, 0, 0, ku, nu] [sa, sb])) (j := 1) rfl rfl rfl rfl hb) rn36
theorem o_inv_GS (htab : Tab w) (ha : VG ka na sa kx nx) (hb : VS kb nb sb) : Says (bytesV [126]) ka na sa kb nb sb w := by
  obtain ⟨ku, nu, u1, u2, u3, u4, hu⟩ := sign_inv ha.num
  exact fin_run (Y := (syL [ka, na, kb, nb, kx, nx, 0, 0, 0, 0, ku, nu] [sa, sb])) htab (fun _ h => orcs_nil h) (KnownOk.append (KnownOk.append k4_ok (knV_ok (j := 0) (aG_ok (Y := (syL [ka, na, kb, nb, kx, nx, 0, 0, 0, 0, ku, nu] [sa, sb])) (j := 0) rfl rfl rfl rfl ha) rfl rfl ha)) (KnownOk.cons (hasG51 _) (gOf hu (concs2 (isS_str rfl) (xA_ok (j := 0) rfl rfl ha.num)) (rA_ok (Y := (syL [ka, na, kb, nb, kx, nx, 0, 0, 0, 0, ku, nu] [sa, sb])) (i := 10) rfl rfl u1 u2 u3 u4 _)) KnownOk.nil)) sNew_ok (isS_str (b := [126]) rfl) (aG_ok (Y := (syL [ka, na, kb, nb, kx, nx, 0, 0, 0, 0, ku, nu] [sa, sb])) (j := 0) rfl rfl rfl rfl ha) (aS_ok (Y := (syL [ka, na, kb, nb, kx, nx, 0, 0, 0, 0, ku, nu] [sa, sb])) (j := 1) rfl hb) rn37
theorem o_inv_SG (htab : Tab w) (ha : VS ka na sa) (hb : VG kb nb sb ky ny) : Says (bytesV [126]) ka na sa kb nb sb w := by
  exact fin_run (Y := (syL [ka, na, kb, nb, 0, 0, ky, ny, 0] [sa, sb])) htab (fun _ h => orcs_nil h) (KnownOk.append k4_ok (knV_ok (j := 1) (aG_ok (Y := (syL [ka, na, kb, nb, 0, 0, ky, ny, 0] [sa, sb])) (j := 1) rfl rfl rfl rfl hb) rfl rfl hb)) sNew_ok (isS_str (b := [126]) rfl) (aS_ok (Y := (syL [ka, na, kb, nb, 0, 0, ky, ny, 0] [sa, sb])) (j := 0) rfl ha) (aG_ok (Y := (syL [ka, na, kb, nb, 0, 0, ky, ny, 0] [sa, sb])) (j := 1) rfl rfl rfl rfl hb) rn38
theorem o_inv_SS (htab : Tab w) (ha : VS ka na sa) (hb : VS kb nb sb) : Says (bytesV [126]) ka na sa kb nb sb w := by
  exact fin_run (Y := (syL [ka, na, kb, nb, 0, 0, 0, 0, 0] [sa, sb])) htab (fun _ h => orcs_nil h) k4_ok sNew_ok (isS_str (b := [126]) rfl) (aS_ok (Y := (syL [ka, na, kb, nb, 0, 0, 0, 0, 0] [sa, sb])) (j := 0) rfl ha) (aS_ok (Y := (syL [ka, na, kb, nb, 0, 0, 0, 0, 0] [sa, sb])) (j := 1) rfl hb) rn39
theorem o_inv (htab : Tab w) (ha : VG ka na sa kx nx ∨ VS ka na sa) (hb : VG kb nb sb ky ny ∨ VS kb nb sb) : Says (bytesV [126]) ka na sa kb nb sb w := by
  rcases ha with ha | ha <;> rcases hb with hb | hb
  · exact o_inv_GG htab ha hb
  · exact o_inv_GS htab ha hb
  · exact o_inv_SG htab ha hb
  · exact o_inv_SS htab ha hb
theorem o_void_GG (htab : Tab w) (ha : VG ka na sa kx nx) (hb : VG kb nb sb ky ny) : Says (bytesV [118, 111, 105, 100]) ka na sa kb nb sb w := by
  exact fin_run (Y := (syL [ka, na, kb, nb, kx, nx, ky, ny, 0] [sa, sb])) htab (fun _ h => orcs_nil h) (KnownOk.append (KnownOk.append k4_ok (knV_ok (j := 0) (aG_ok (Y := (syL [ka, na, kb, nb, kx, nx, ky, ny, 0] [sa, sb])) (j := 0) rfl rfl rfl rfl ha) rfl rfl ha)) (knV_ok (j := 1) (aG_ok (Y := (syL [ka, na, kb, nb, kx, nx, ky, ny, 0] [sa, sb])) (j := 1) rfl rfl rfl rfl hb) rfl rfl hb)) sNew_ok (isS_str (b := [118, 111, 105, 100]) rfl) (aG_ok (Y := (syL [ka, na, kb, nb, kx, nx, ky, ny, 0] [sa, sb])) (j := 0) rfl rfl rfl rfl ha) (aG_ok (Y := (syL [ka, na, kb, nb, kx, nx, ky, ny, 0] [sa, sb])) (j := 1) rfl rfl rfl rfl hb) rn40
theorem o_void_GS (htab : Tab w) (ha : VG ka na sa kx nx) (hb : VS kb nb sb) : Says (bytesV [118, 111, 105, 100]) ka na sa kb nb sb w := by
  exact fin_run (Y := (syL [ka, na, kb, nb, kx, nx, 0, 0, 0] [sa, sb])) htab (fun _ h => orcs_nil h) (KnownOk.append k4_ok (knV_ok (j := 0) (aG_ok (Y := (syL [ka, na, kb, nb, kx, nx, 0, 0, 0] [sa, sb])) (j := 0) rfl rfl rfl rfl ha) rfl rfl ha)) sNew_ok (isS_str (b := [118, 111, 105, 100]) rfl) (aG_ok (Y := (syL [ka, na, kb, nb, kx, nx, 0, 0, 0] [sa, sb])) (j := 0) rfl rfl rfl rfl ha) (aS_ok (Y := (syL [ka, na, kb, nb, kx, nx, 0, 0, 0] [sa, sb])) (j := 1) rfl hb) rn41
theorem o_void_SG (htab : Tab w) (ha : VS ka na sa) (hb : VG kb nb sb ky ny) : Says (bytesV [118, 111, 105, 100]) ka na sa kb nb sb w := by
  exact fin_run (Y := (syL [ka, na, kb, nb, 0, 0, ky, ny, 0] [sa, sb])) htab (fun _ h => orcs_nil h) (KnownOk.append k4_ok (knV_ok (j := 1) (aG_ok (Y := (syL [ka, na, kb, nb, 0, 0, ky, ny, 0] [sa, sb])) (j := 1) rfl rfl rfl rfl hb) rfl rfl hb)) sNew_ok (isS_str (b := [118, 111, 105, 100]) rfl) (aS_ok (Y := (syL [ka, na, kb, nb, 0, 0, ky, ny, 0] [sa, sb])) (j := 0) rfl ha) (aG_ok (Y := (syL [ka, na, kb, nb, 0, 0, ky, ny, 0] [sa, sb])) (j := 1) rfl rfl rfl rfl hb) rn42
theorem o_void_SS (htab : Tab w) (ha : VS ka na sa) (hb : VS kb nb sb) : Says (bytesV [118, 111, 105, 100]) ka na sa kb nb sb w := by
  exact fin_run (Y := (syL [ka, na, kb, nb, 0, 0, 0, 0, 0] [sa, sb])) htab (fun _ h => orcs_nil h) k4_ok sNew_ok (isS_str (b := [118, 111, 105, 100]) rfl) (aS_ok (Y := (syL [ka, na, kb, nb, 0, 0, 0, 0, 0] [sa, sb])) (j := 0) rfl ha) (aS_ok (Y := (syL [ka, na, kb, nb, 0, 0, 0, 0, 0] [sa, sb])) (j := 1) rfl hb) rn43
theorem o_void (htab : Tab w) (ha : VG ka na sa kx nx ∨ VS ka na sa) (hb : VG kb nb sb ky ny ∨ VS kb nb sb) : Says (bytesV [118, 111, 105, 100]) ka na sa kb nb sb w := by
  rcases ha with ha | ha <;> rcases hb with hb | hb
  · exact o_void_GG htab ha hb
  · exact o_void_GS htab ha hb
  · exact o_void_SG htab ha hb
  · exact o_void_SS htab ha hb
theorem o_inst_GG (htab : Tab w) (ha : VG ka na sa kx nx) (hb : VG kb nb sb ky ny) : Says (bytesV [105, 110, 115, 116, 97, 110, 99, 101, 111, 102]) ka na sa kb nb sb w := by
  exact fin_run (Y := (syL [ka, na, kb, nb, kx, nx, ky, ny, 0] [sa, sb])) htab (fun _ h => orcs_nil h) (KnownOk.append (KnownOk.append k4_ok (knV_ok (j := 0) (aG_ok (Y := (syL [ka, na, kb, nb, kx, nx, ky, ny, 0] [sa, sb])) (j := 0) rfl rfl rfl rfl ha) rfl rfl ha)) (knV_ok (j := 1) (aG_ok (Y := (syL [ka, na, kb, nb, kx, nx, ky, ny, 0] [sa, sb])) (j := 1) rfl rfl rfl rfl hb) rfl rfl hb)) sNew_ok (isS_str (b := [105, 110, 115, 116, 97, 110, 99, 101, 111, 102]) rfl) (aG_ok (Y := (syL [ka, na, kb, nb, kx, nx, ky, ny, 0] [sa, sb])) (j := 0) rfl rfl rfl rfl ha) (aG_ok (Y := (syL [ka, na, kb, nb, kx, nx, ky, ny, 0] [sa, sb])) (j := 1) rfl rfl rfl rfl hb) rn44
theorem o_inst_GS (htab : Tab w) (ha : VG ka na sa kx nx) (hb : VS kb nb sb) : Says (bytesV [105, 110, 115, 116, 97, 110, 99, 101, 111, 102]) ka na sa kb nb sb w := by
  exact fin_run (Y := (syL [ka, na, kb, nb, kx, nx, 0, 0, 0] [sa, sb])) htab (fun _ h => orcs_nil h) (KnownOk.append k4_ok (knV_ok (j := 0) (aG_ok (Y := (syL [ka, na, kb, nb, kx, nx, 0, 0, 0] [sa, sb])) (j := 0) rfl rfl rfl rfl ha) rfl rfl ha)) sNew_ok (isS_str (b := [105, 110, 115, 116, 97, 110, 99, 101, 111, 102]) rfl) (aG_ok (Y := (syL [ka, na, kb, nb, kx, nx, 0, 0, 0] [sa, sb])) (j := 0) rfl rfl rfl rfl ha) (aS_ok (Y := (syL [ka, na, kb, nb, kx, nx, 0, 0, 0] [sa, sb])) (j := 1) rfl hb) rn45
theorem o_inst_SG (htab : Tab w) (ha : VS ka na sa) (hb : VG kb nb sb ky ny) : Says (bytesV [105, 110, 115, 116, 97, 110, 99, 101, 111, 102]) ka na sa kb nb sb w := by
  exact fin_run (Y := (syL [ka, na, kb, nb, 0, 0, ky, ny, 0] [sa, sb])) htab (fun _ h => orcs_nil h) (KnownOk.append k4_ok (knV_ok (j := 1) (aG_ok (Y := (syL [ka, na, kb, nb, 0, 0, ky, ny, 0] [sa, sb])) (j := 1) rfl rfl rfl rfl hb) rfl rfl hb)) sNew_ok (isS_str (b := [105, 110, 115, 116, 97, 110, 99, 101, 111, 102]) rfl) (aS_ok (Y := (syL [ka, na, kb, nb, 0, 0, ky, ny, 0] [sa, sb])) (j := 0) rfl ha) (aG_ok (Y := (syL [ka, na, kb, nb, 0, 0, ky, ny, 0] [sa, sb])) (j := 1) rfl rfl rfl rfl hb) rn46
theorem o_inst_SS (htab : Tab w) (ha : VS ka na sa) (hb : VS kb nb sb) : Says (bytesV [105, 110, 115, 116, 97, 110, 99, 101, 111, 102]) ka na sa kb nb sb w := by
  exact fin_run (Y := (syL [ka, na, kb, nb, 0, 0, 0, 0, 0] [sa, sb])) htab (fun _ h => orcs_nil h) k4_ok sNew_ok (isS_str (b := [105, 110, 115, 116, 97, 110, 99, 101, 111, 102]) rfl) (aS_ok (Y := (syL [ka, na, kb, nb, 0, 0, 0, 0, 0] [sa, sb])) (j := 0) rfl ha) (aS_ok (Y := (syL [ka, na, kb, nb, 0, 0, 0, 0, 0] [sa, sb])) (j := 1) rfl hb) rn47
theorem o_inst (htab : Tab w) (ha : VG ka na sa kx nx ∨ VS ka na sa) (hb : VG kb nb sb ky ny ∨ VS kb nb sb) : Says (bytesV [105, 110, 115, 116, 97, 110, 99, 101, 111, 102]) ka na sa kb nb sb w := by
  rcases ha with ha | ha <;> rcases hb with hb | hb
  · exact o_inst_GG htab ha hb
  · exact o_inst_GS htab ha hb
  · exact o_inst_SG htab ha hb
  · exact o_inst_SS htab ha hb
theorem o_isin_GG (htab : Tab w) (ha : VG ka na sa kx nx) (hb : VG kb nb sb ky ny) : Says (bytesV [105, 110]) ka na sa kb nb sb w := by
  exact fin_run (Y := (syL [ka, na, kb, nb, kx, nx, ky, ny, 0] [sa, sb])) htab (fun _ h => orcs_nil h) (KnownOk.append (KnownOk.append k4_ok (knV_ok (j := 0) (aG_ok (Y := (syL [ka, na, kb, nb, kx, nx, ky, ny, 0] [sa, sb])) (j := 0) rfl rfl rfl rfl ha) rfl rfl ha)) (knV_ok (j := 1) (aG_ok (Y := (syL [ka, na, kb, nb, kx, nx, ky, ny, 0] [sa, sb])) (j := 1) rfl rfl rfl rfl hb) rfl rfl hb)) sNew_ok (isS_str (b := [105, 110]) rfl) (aG_ok (Y := (syL [ka, na, kb, nb, kx, nx, ky, ny, 0] [sa, sb])) (j := 0) rfl rfl rfl rfl ha) (aG_ok (Y := (syL [ka, na, kb, nb, kx, nx, ky, ny, 0] [sa, sb])) (j := 1) rfl rfl rfl rfl hb) rn48
theorem o_isin_GS (htab : Tab w) (ha : VG ka na sa kx nx) (hb : VS kb nb sb) : Says (bytesV [105, 110]) ka na sa kb nb sb w := by
  exact fin_run (Y := (syL [ka, na, kb, nb, kx, nx, 0, 0, 0] [sa, sb])) htab (fun _ h => orcs_nil h) (KnownOk.append k4_ok (knV_ok (j := 0) (aG_ok (Y := (syL [ka, na, kb, nb, kx, nx, 0, 0, 0] [sa, sb])) (j := 0) rfl rfl rfl rfl ha) rfl rfl ha)) sNew_ok (isS_str (b := [105, 110]) rfl) (aG_ok (Y := (syL [ka, na, kb, nb, kx, nx, 0, 0, 0] [sa, sb])) (j := 0) rfl rfl rfl rfl ha) (aS_ok (Y := (syL [ka, na, kb, nb, kx, nx, 0, 0, 0] [sa, sb])) (j := 1) rfl hb) rn49
theorem o_isin_SG (htab : Tab w) (ha : VS ka na sa) (hb : VG kb nb sb ky ny) : Says (bytesV [105, 110]) ka na sa kb nb sb w := by
  exact fin_run (Y := (syL [ka, na, kb, nb, 0, 0, ky, ny, 0] [sa, sb])) htab (fun _ h => orcs_nil h) (KnownOk.append k4_ok (knV_ok (j := 1) (aG_ok (Y := (syL [ka, na, kb, nb, 0, 0, ky, ny, 0] [sa, sb])) (j := 1) rfl rfl rfl rfl hb) rfl rfl hb)) sNew_ok (isS_str (b := [105, 110]) rfl) (aS_ok (Y := (syL [ka, na, kb, nb, 0, 0, ky, ny, 0] [sa, sb])) (j := 0) rfl ha) (aG_ok (Y := (syL [ka, na, kb, nb, 0, 0, ky, ny, 0] [sa, sb])) (j := 1) rfl rfl rfl rfl hb) rn50
theorem o_isin_SS (htab : Tab w) (ha : VS ka na sa) (hb : VS kb nb sb) : Says (bytesV [105, 110]) ka na sa kb nb sb w := by
  exact fin_run (Y := (syL [ka, na, kb, nb, 0, 0, 0, 0, 0] [sa, sb])) htab (fun _ h => orcs_nil h) k4_ok sNew_ok (isS_str (b := [105, 110]) rfl) (aS_ok (Y := (syL [ka, na, kb, nb, 0, 0, 0, 0, 0] [sa, sb])) (j := 0) rfl ha) (aS_ok (Y := (syL [ka, na, kb, nb, 0, 0, 0, 0, 0] [sa, sb])) (j := 1) rfl hb) rn51
theorem o_isin (htab : Tab w) (ha : VG ka na sa kx nx ∨ VS ka na sa) (hb : VG kb nb sb ky ny ∨ VS kb nb sb) : Says (bytesV [105, 110]) ka na sa kb nb sb w := by
  rcases ha with ha | ha <;> rcases hb with hb | hb
  · exact o_isin_GG htab ha hb
  · exact o_isin_GS htab ha hb
  · exact o_isin_SG htab ha hb
  · exact o_isin_SS htab ha hb

theorem vs_pl {k n : Int} {s : ByteArray} (h : VS k n s) : Pl k n s := by
  obtain ⟨rfl, hn, rfl⟩ := h
  exact .s n hn
theorem vs_fit {k n : Int} {s : ByteArray} (h : VS k n s) : fits k n s := by
  obtain ⟨rfl, hn, rfl⟩ := h
  exact ⟨⟨by show (-9223372036854775808 : Int) ≤ 6; omega, by show (6 : Int) ≤ 9223372036854775807; omega⟩, ⟨by show (-9223372036854775808 : Int) ≤ n; omega, by show n ≤ (9223372036854775807 : Int); omega⟩, by decide⟩
theorem o_not_GG (htab : Tab w) (ha : VG ka na sa kx nx) (hb : VG kb nb sb ky ny) : Says (bytesV [33]) ka na sa kb nb sb w := by
  obtain ⟨r, hr⟩ := truth_any ha.pl
  cases r
  · exact fin_run (Y := (syL [ka, na, kb, nb, kx, nx, ky, ny, 0] [sa, sb])) htab (fun _ h => orcs_nil h) (KnownOk.append (KnownOk.append (KnownOk.append k4_ok (knV_ok (j := 0) (aG_ok (Y := (syL [ka, na, kb, nb, kx, nx, ky, ny, 0] [sa, sb])) (j := 0) rfl rfl rfl rfl ha) rfl rfl ha)) (knV_ok (j := 1) (aG_ok (Y := (syL [ka, na, kb, nb, kx, nx, ky, ny, 0] [sa, sb])) (j := 1) rfl rfl rfl rfl hb) rfl rfl hb)) (KnownOk.cons (hasG49 _) (gOf hr (concs1 (aG_ok (Y := (syL [ka, na, kb, nb, kx, nx, ky, ny, 0] [sa, sb])) (j := 0) rfl rfl rfl rfl ha)) rfl) KnownOk.nil)) sNew_ok (isS_str (b := [33]) rfl) (aG_ok (Y := (syL [ka, na, kb, nb, kx, nx, ky, ny, 0] [sa, sb])) (j := 0) rfl rfl rfl rfl ha) (aG_ok (Y := (syL [ka, na, kb, nb, kx, nx, ky, ny, 0] [sa, sb])) (j := 1) rfl rfl rfl rfl hb) rn52
  · exact fin_run (Y := (syL [ka, na, kb, nb, kx, nx, ky, ny, 0] [sa, sb])) htab (fun _ h => orcs_nil h) (KnownOk.append (KnownOk.append (KnownOk.append k4_ok (knV_ok (j := 0) (aG_ok (Y := (syL [ka, na, kb, nb, kx, nx, ky, ny, 0] [sa, sb])) (j := 0) rfl rfl rfl rfl ha) rfl rfl ha)) (knV_ok (j := 1) (aG_ok (Y := (syL [ka, na, kb, nb, kx, nx, ky, ny, 0] [sa, sb])) (j := 1) rfl rfl rfl rfl hb) rfl rfl hb)) (KnownOk.cons (hasG49 _) (gOf hr (concs1 (aG_ok (Y := (syL [ka, na, kb, nb, kx, nx, ky, ny, 0] [sa, sb])) (j := 0) rfl rfl rfl rfl ha)) rfl) KnownOk.nil)) sNew_ok (isS_str (b := [33]) rfl) (aG_ok (Y := (syL [ka, na, kb, nb, kx, nx, ky, ny, 0] [sa, sb])) (j := 0) rfl rfl rfl rfl ha) (aG_ok (Y := (syL [ka, na, kb, nb, kx, nx, ky, ny, 0] [sa, sb])) (j := 1) rfl rfl rfl rfl hb) rn53
theorem o_not_GS (htab : Tab w) (ha : VG ka na sa kx nx) (hb : VS kb nb sb) : Says (bytesV [33]) ka na sa kb nb sb w := by
  obtain ⟨r, hr⟩ := truth_any ha.pl
  cases r
  · exact fin_run (Y := (syL [ka, na, kb, nb, kx, nx, 0, 0, 0] [sa, sb])) htab (fun _ h => orcs_nil h) (KnownOk.append (KnownOk.append k4_ok (knV_ok (j := 0) (aG_ok (Y := (syL [ka, na, kb, nb, kx, nx, 0, 0, 0] [sa, sb])) (j := 0) rfl rfl rfl rfl ha) rfl rfl ha)) (KnownOk.cons (hasG49 _) (gOf hr (concs1 (aG_ok (Y := (syL [ka, na, kb, nb, kx, nx, 0, 0, 0] [sa, sb])) (j := 0) rfl rfl rfl rfl ha)) rfl) KnownOk.nil)) sNew_ok (isS_str (b := [33]) rfl) (aG_ok (Y := (syL [ka, na, kb, nb, kx, nx, 0, 0, 0] [sa, sb])) (j := 0) rfl rfl rfl rfl ha) (aS_ok (Y := (syL [ka, na, kb, nb, kx, nx, 0, 0, 0] [sa, sb])) (j := 1) rfl hb) rn54
  · exact fin_run (Y := (syL [ka, na, kb, nb, kx, nx, 0, 0, 0] [sa, sb])) htab (fun _ h => orcs_nil h) (KnownOk.append (KnownOk.append k4_ok (knV_ok (j := 0) (aG_ok (Y := (syL [ka, na, kb, nb, kx, nx, 0, 0, 0] [sa, sb])) (j := 0) rfl rfl rfl rfl ha) rfl rfl ha)) (KnownOk.cons (hasG49 _) (gOf hr (concs1 (aG_ok (Y := (syL [ka, na, kb, nb, kx, nx, 0, 0, 0] [sa, sb])) (j := 0) rfl rfl rfl rfl ha)) rfl) KnownOk.nil)) sNew_ok (isS_str (b := [33]) rfl) (aG_ok (Y := (syL [ka, na, kb, nb, kx, nx, 0, 0, 0] [sa, sb])) (j := 0) rfl rfl rfl rfl ha) (aS_ok (Y := (syL [ka, na, kb, nb, kx, nx, 0, 0, 0] [sa, sb])) (j := 1) rfl hb) rn55
theorem o_not_SG (htab : Tab w) (ha : VS ka na sa) (hb : VG kb nb sb ky ny) : Says (bytesV [33]) ka na sa kb nb sb w := by
  obtain ⟨r, hr⟩ := truth_any (vs_pl ha)
  cases r
  · exact fin_run (Y := (syL [ka, na, kb, nb, 0, 0, ky, ny, 0] [sa, sb])) htab (fun _ h => orcs_nil h) (KnownOk.append (KnownOk.append k4_ok (knV_ok (j := 1) (aG_ok (Y := (syL [ka, na, kb, nb, 0, 0, ky, ny, 0] [sa, sb])) (j := 1) rfl rfl rfl rfl hb) rfl rfl hb)) (KnownOk.cons (hasG49 _) (gOf hr (concs1 (aS_ok (Y := (syL [ka, na, kb, nb, 0, 0, ky, ny, 0] [sa, sb])) (j := 0) rfl ha)) rfl) KnownOk.nil)) sNew_ok (isS_str (b := [33]) rfl) (aS_ok (Y := (syL [ka, na, kb, nb, 0, 0, ky, ny, 0] [sa, sb])) (j := 0) rfl ha) (aG_ok (Y := (syL [ka, na, kb, nb, 0, 0, ky, ny, 0] [sa, sb])) (j := 1) rfl rfl rfl rfl hb) rn56
  · exact fin_run (Y := (syL [ka, na, kb, nb, 0, 0, ky, ny, 0] [sa, sb])) htab (fun _ h => orcs_nil h) (KnownOk.append (KnownOk.append k4_ok (knV_ok (j := 1) (aG_ok (Y := (syL [ka, na, kb, nb, 0, 0, ky, ny, 0] [sa, sb])) (j := 1) rfl rfl rfl rfl hb) rfl rfl hb)) (KnownOk.cons (hasG49 _) (gOf hr (concs1 (aS_ok (Y := (syL [ka, na, kb, nb, 0, 0, ky, ny, 0] [sa, sb])) (j := 0) rfl ha)) rfl) KnownOk.nil)) sNew_ok (isS_str (b := [33]) rfl) (aS_ok (Y := (syL [ka, na, kb, nb, 0, 0, ky, ny, 0] [sa, sb])) (j := 0) rfl ha) (aG_ok (Y := (syL [ka, na, kb, nb, 0, 0, ky, ny, 0] [sa, sb])) (j := 1) rfl rfl rfl rfl hb) rn57
theorem o_not_SS (htab : Tab w) (ha : VS ka na sa) (hb : VS kb nb sb) : Says (bytesV [33]) ka na sa kb nb sb w := by
  obtain ⟨r, hr⟩ := truth_any (vs_pl ha)
  cases r
  · exact fin_run (Y := (syL [ka, na, kb, nb, 0, 0, 0, 0, 0] [sa, sb])) htab (fun _ h => orcs_nil h) (KnownOk.append k4_ok (KnownOk.cons (hasG49 _) (gOf hr (concs1 (aS_ok (Y := (syL [ka, na, kb, nb, 0, 0, 0, 0, 0] [sa, sb])) (j := 0) rfl ha)) rfl) KnownOk.nil)) sNew_ok (isS_str (b := [33]) rfl) (aS_ok (Y := (syL [ka, na, kb, nb, 0, 0, 0, 0, 0] [sa, sb])) (j := 0) rfl ha) (aS_ok (Y := (syL [ka, na, kb, nb, 0, 0, 0, 0, 0] [sa, sb])) (j := 1) rfl hb) rn58
  · exact fin_run (Y := (syL [ka, na, kb, nb, 0, 0, 0, 0, 0] [sa, sb])) htab (fun _ h => orcs_nil h) (KnownOk.append k4_ok (KnownOk.cons (hasG49 _) (gOf hr (concs1 (aS_ok (Y := (syL [ka, na, kb, nb, 0, 0, 0, 0, 0] [sa, sb])) (j := 0) rfl ha)) rfl) KnownOk.nil)) sNew_ok (isS_str (b := [33]) rfl) (aS_ok (Y := (syL [ka, na, kb, nb, 0, 0, 0, 0, 0] [sa, sb])) (j := 0) rfl ha) (aS_ok (Y := (syL [ka, na, kb, nb, 0, 0, 0, 0, 0] [sa, sb])) (j := 1) rfl hb) rn59
theorem o_not (htab : Tab w) (ha : VG ka na sa kx nx ∨ VS ka na sa) (hb : VG kb nb sb ky ny ∨ VS kb nb sb) : Says (bytesV [33]) ka na sa kb nb sb w := by
  rcases ha with ha | ha <;> rcases hb with hb | hb
  · exact o_not_GG htab ha hb
  · exact o_not_GS htab ha hb
  · exact o_not_SG htab ha hb
  · exact o_not_SS htab ha hb
theorem o_same_GG (htab : Tab w) (ha : VG ka na sa kx nx) (hb : VG kb nb sb ky ny) : Says (bytesV [61, 61, 61]) ka na sa kb nb sb w := by
  obtain ⟨r, hr⟩ := strict_any ha.fit hb.fit
  cases r
  · exact fin_run (Y := (syL [ka, na, kb, nb, kx, nx, ky, ny, 0] [sa, sb])) htab (fun _ h => orcs_nil h) (KnownOk.append (KnownOk.append (KnownOk.append k4_ok (knV_ok (j := 0) (aG_ok (Y := (syL [ka, na, kb, nb, kx, nx, ky, ny, 0] [sa, sb])) (j := 0) rfl rfl rfl rfl ha) rfl rfl ha)) (knV_ok (j := 1) (aG_ok (Y := (syL [ka, na, kb, nb, kx, nx, ky, ny, 0] [sa, sb])) (j := 1) rfl rfl rfl rfl hb) rfl rfl hb)) (KnownOk.cons (hasG30 _) (gOf hr (concs2 (aG_ok (Y := (syL [ka, na, kb, nb, kx, nx, ky, ny, 0] [sa, sb])) (j := 0) rfl rfl rfl rfl ha) (aG_ok (Y := (syL [ka, na, kb, nb, kx, nx, ky, ny, 0] [sa, sb])) (j := 1) rfl rfl rfl rfl hb)) rfl) KnownOk.nil)) sNew_ok (isS_str (b := [61, 61, 61]) rfl) (aG_ok (Y := (syL [ka, na, kb, nb, kx, nx, ky, ny, 0] [sa, sb])) (j := 0) rfl rfl rfl rfl ha) (aG_ok (Y := (syL [ka, na, kb, nb, kx, nx, ky, ny, 0] [sa, sb])) (j := 1) rfl rfl rfl rfl hb) rn60
  · exact fin_run (Y := (syL [ka, na, kb, nb, kx, nx, ky, ny, 0] [sa, sb])) htab (fun _ h => orcs_nil h) (KnownOk.append (KnownOk.append (KnownOk.append k4_ok (knV_ok (j := 0) (aG_ok (Y := (syL [ka, na, kb, nb, kx, nx, ky, ny, 0] [sa, sb])) (j := 0) rfl rfl rfl rfl ha) rfl rfl ha)) (knV_ok (j := 1) (aG_ok (Y := (syL [ka, na, kb, nb, kx, nx, ky, ny, 0] [sa, sb])) (j := 1) rfl rfl rfl rfl hb) rfl rfl hb)) (KnownOk.cons (hasG30 _) (gOf hr (concs2 (aG_ok (Y := (syL [ka, na, kb, nb, kx, nx, ky, ny, 0] [sa, sb])) (j := 0) rfl rfl rfl rfl ha) (aG_ok (Y := (syL [ka, na, kb, nb, kx, nx, ky, ny, 0] [sa, sb])) (j := 1) rfl rfl rfl rfl hb)) rfl) KnownOk.nil)) sNew_ok (isS_str (b := [61, 61, 61]) rfl) (aG_ok (Y := (syL [ka, na, kb, nb, kx, nx, ky, ny, 0] [sa, sb])) (j := 0) rfl rfl rfl rfl ha) (aG_ok (Y := (syL [ka, na, kb, nb, kx, nx, ky, ny, 0] [sa, sb])) (j := 1) rfl rfl rfl rfl hb) rn61
theorem o_same_GS (htab : Tab w) (ha : VG ka na sa kx nx) (hb : VS kb nb sb) : Says (bytesV [61, 61, 61]) ka na sa kb nb sb w := by
  obtain ⟨r, hr⟩ := strict_any ha.fit (vs_fit hb)
  cases r
  · exact fin_run (Y := (syL [ka, na, kb, nb, kx, nx, 0, 0, 0] [sa, sb])) htab (fun _ h => orcs_nil h) (KnownOk.append (KnownOk.append k4_ok (knV_ok (j := 0) (aG_ok (Y := (syL [ka, na, kb, nb, kx, nx, 0, 0, 0] [sa, sb])) (j := 0) rfl rfl rfl rfl ha) rfl rfl ha)) (KnownOk.cons (hasG30 _) (gOf hr (concs2 (aG_ok (Y := (syL [ka, na, kb, nb, kx, nx, 0, 0, 0] [sa, sb])) (j := 0) rfl rfl rfl rfl ha) (aS_ok (Y := (syL [ka, na, kb, nb, kx, nx, 0, 0, 0] [sa, sb])) (j := 1) rfl hb)) rfl) KnownOk.nil)) sNew_ok (isS_str (b := [61, 61, 61]) rfl) (aG_ok (Y := (syL [ka, na, kb, nb, kx, nx, 0, 0, 0] [sa, sb])) (j := 0) rfl rfl rfl rfl ha) (aS_ok (Y := (syL [ka, na, kb, nb, kx, nx, 0, 0, 0] [sa, sb])) (j := 1) rfl hb) rn62
  · exact fin_run (Y := (syL [ka, na, kb, nb, kx, nx, 0, 0, 0] [sa, sb])) htab (fun _ h => orcs_nil h) (KnownOk.append (KnownOk.append k4_ok (knV_ok (j := 0) (aG_ok (Y := (syL [ka, na, kb, nb, kx, nx, 0, 0, 0] [sa, sb])) (j := 0) rfl rfl rfl rfl ha) rfl rfl ha)) (KnownOk.cons (hasG30 _) (gOf hr (concs2 (aG_ok (Y := (syL [ka, na, kb, nb, kx, nx, 0, 0, 0] [sa, sb])) (j := 0) rfl rfl rfl rfl ha) (aS_ok (Y := (syL [ka, na, kb, nb, kx, nx, 0, 0, 0] [sa, sb])) (j := 1) rfl hb)) rfl) KnownOk.nil)) sNew_ok (isS_str (b := [61, 61, 61]) rfl) (aG_ok (Y := (syL [ka, na, kb, nb, kx, nx, 0, 0, 0] [sa, sb])) (j := 0) rfl rfl rfl rfl ha) (aS_ok (Y := (syL [ka, na, kb, nb, kx, nx, 0, 0, 0] [sa, sb])) (j := 1) rfl hb) rn63
theorem o_same_SG (htab : Tab w) (ha : VS ka na sa) (hb : VG kb nb sb ky ny) : Says (bytesV [61, 61, 61]) ka na sa kb nb sb w := by
  obtain ⟨r, hr⟩ := strict_any (vs_fit ha) hb.fit
  cases r
  · exact fin_run (Y := (syL [ka, na, kb, nb, 0, 0, ky, ny, 0] [sa, sb])) htab (fun _ h => orcs_nil h) (KnownOk.append (KnownOk.append k4_ok (knV_ok (j := 1) (aG_ok (Y := (syL [ka, na, kb, nb, 0, 0, ky, ny, 0] [sa, sb])) (j := 1) rfl rfl rfl rfl hb) rfl rfl hb)) (KnownOk.cons (hasG30 _) (gOf hr (concs2 (aS_ok (Y := (syL [ka, na, kb, nb, 0, 0, ky, ny, 0] [sa, sb])) (j := 0) rfl ha) (aG_ok (Y := (syL [ka, na, kb, nb, 0, 0, ky, ny, 0] [sa, sb])) (j := 1) rfl rfl rfl rfl hb)) rfl) KnownOk.nil)) sNew_ok (isS_str (b := [61, 61, 61]) rfl) (aS_ok (Y := (syL [ka, na, kb, nb, 0, 0, ky, ny, 0] [sa, sb])) (j := 0) rfl ha) (aG_ok (Y := (syL [ka, na, kb, nb, 0, 0, ky, ny, 0] [sa, sb])) (j := 1) rfl rfl rfl rfl hb) rn64
  · exact fin_run (Y := (syL [ka, na, kb, nb, 0, 0, ky, ny, 0] [sa, sb])) htab (fun _ h => orcs_nil h) (KnownOk.append (KnownOk.append k4_ok (knV_ok (j := 1) (aG_ok (Y := (syL [ka, na, kb, nb, 0, 0, ky, ny, 0] [sa, sb])) (j := 1) rfl rfl rfl rfl hb) rfl rfl hb)) (KnownOk.cons (hasG30 _) (gOf hr (concs2 (aS_ok (Y := (syL [ka, na, kb, nb, 0, 0, ky, ny, 0] [sa, sb])) (j := 0) rfl ha) (aG_ok (Y := (syL [ka, na, kb, nb, 0, 0, ky, ny, 0] [sa, sb])) (j := 1) rfl rfl rfl rfl hb)) rfl) KnownOk.nil)) sNew_ok (isS_str (b := [61, 61, 61]) rfl) (aS_ok (Y := (syL [ka, na, kb, nb, 0, 0, ky, ny, 0] [sa, sb])) (j := 0) rfl ha) (aG_ok (Y := (syL [ka, na, kb, nb, 0, 0, ky, ny, 0] [sa, sb])) (j := 1) rfl rfl rfl rfl hb) rn65
theorem o_same_SS (htab : Tab w) (ha : VS ka na sa) (hb : VS kb nb sb) : Says (bytesV [61, 61, 61]) ka na sa kb nb sb w := by
  obtain ⟨r, hr⟩ := strict_any (vs_fit ha) (vs_fit hb)
  cases r
  · exact fin_run (Y := (syL [ka, na, kb, nb, 0, 0, 0, 0, 0] [sa, sb])) htab (fun _ h => orcs_nil h) (KnownOk.append k4_ok (KnownOk.cons (hasG30 _) (gOf hr (concs2 (aS_ok (Y := (syL [ka, na, kb, nb, 0, 0, 0, 0, 0] [sa, sb])) (j := 0) rfl ha) (aS_ok (Y := (syL [ka, na, kb, nb, 0, 0, 0, 0, 0] [sa, sb])) (j := 1) rfl hb)) rfl) KnownOk.nil)) sNew_ok (isS_str (b := [61, 61, 61]) rfl) (aS_ok (Y := (syL [ka, na, kb, nb, 0, 0, 0, 0, 0] [sa, sb])) (j := 0) rfl ha) (aS_ok (Y := (syL [ka, na, kb, nb, 0, 0, 0, 0, 0] [sa, sb])) (j := 1) rfl hb) rn66
  · exact fin_run (Y := (syL [ka, na, kb, nb, 0, 0, 0, 0, 0] [sa, sb])) htab (fun _ h => orcs_nil h) (KnownOk.append k4_ok (KnownOk.cons (hasG30 _) (gOf hr (concs2 (aS_ok (Y := (syL [ka, na, kb, nb, 0, 0, 0, 0, 0] [sa, sb])) (j := 0) rfl ha) (aS_ok (Y := (syL [ka, na, kb, nb, 0, 0, 0, 0, 0] [sa, sb])) (j := 1) rfl hb)) rfl) KnownOk.nil)) sNew_ok (isS_str (b := [61, 61, 61]) rfl) (aS_ok (Y := (syL [ka, na, kb, nb, 0, 0, 0, 0, 0] [sa, sb])) (j := 0) rfl ha) (aS_ok (Y := (syL [ka, na, kb, nb, 0, 0, 0, 0, 0] [sa, sb])) (j := 1) rfl hb) rn67
theorem o_same (htab : Tab w) (ha : VG ka na sa kx nx ∨ VS ka na sa) (hb : VG kb nb sb ky ny ∨ VS kb nb sb) : Says (bytesV [61, 61, 61]) ka na sa kb nb sb w := by
  rcases ha with ha | ha <;> rcases hb with hb | hb
  · exact o_same_GG htab ha hb
  · exact o_same_GS htab ha hb
  · exact o_same_SG htab ha hb
  · exact o_same_SS htab ha hb
theorem o_notsame_GG (htab : Tab w) (ha : VG ka na sa kx nx) (hb : VG kb nb sb ky ny) : Says (bytesV [33, 61, 61]) ka na sa kb nb sb w := by
  obtain ⟨r, hr⟩ := strict_any ha.fit hb.fit
  cases r
  · exact fin_run (Y := (syL [ka, na, kb, nb, kx, nx, ky, ny, 0] [sa, sb])) htab (fun _ h => orcs_nil h) (KnownOk.append (KnownOk.append (KnownOk.append k4_ok (knV_ok (j := 0) (aG_ok (Y := (syL [ka, na, kb, nb, kx, nx, ky, ny, 0] [sa, sb])) (j := 0) rfl rfl rfl rfl ha) rfl rfl ha)) (knV_ok (j := 1) (aG_ok (Y := (syL [ka, na, kb, nb, kx, nx, ky, ny, 0] [sa, sb])) (j := 1) rfl rfl rfl rfl hb) rfl rfl hb)) (KnownOk.cons (hasG30 _) (gOf hr (concs2 (aG_ok (Y := (syL [ka, na, kb, nb, kx, nx, ky, ny, 0] [sa, sb])) (j := 0) rfl rfl rfl rfl ha) (aG_ok (Y := (syL [ka, na, kb, nb, kx, nx, ky, ny, 0] [sa, sb])) (j := 1) rfl rfl rfl rfl hb)) rfl) KnownOk.nil)) sNew_ok (isS_str (b := [33, 61, 61]) rfl) (aG_ok (Y := (syL [ka, na, kb, nb, kx, nx, ky, ny, 0] [sa, sb])) (j := 0) rfl rfl rfl rfl ha) (aG_ok (Y := (syL [ka, na, kb, nb, kx, nx, ky, ny, 0] [sa, sb])) (j := 1) rfl rfl rfl rfl hb) rn68
  · exact fin_run (Y := (syL [ka, na, kb, nb, kx, nx, ky, ny, 0] [sa, sb])) htab (fun _ h => orcs_nil h) (KnownOk.append (KnownOk.append (KnownOk.append k4_ok (knV_ok (j := 0) (aG_ok (Y := (syL [ka, na, kb, nb, kx, nx, ky, ny, 0] [sa, sb])) (j := 0) rfl rfl rfl rfl ha) rfl rfl ha)) (knV_ok (j := 1) (aG_ok (Y := (syL [ka, na, kb, nb, kx, nx, ky, ny, 0] [sa, sb])) (j := 1) rfl rfl rfl rfl hb) rfl rfl hb)) (KnownOk.cons (hasG30 _) (gOf hr (concs2 (aG_ok (Y := (syL [ka, na, kb, nb, kx, nx, ky, ny, 0] [sa, sb])) (j := 0) rfl rfl rfl rfl ha) (aG_ok (Y := (syL [ka, na, kb, nb, kx, nx, ky, ny, 0] [sa, sb])) (j := 1) rfl rfl rfl rfl hb)) rfl) KnownOk.nil)) sNew_ok (isS_str (b := [33, 61, 61]) rfl) (aG_ok (Y := (syL [ka, na, kb, nb, kx, nx, ky, ny, 0] [sa, sb])) (j := 0) rfl rfl rfl rfl ha) (aG_ok (Y := (syL [ka, na, kb, nb, kx, nx, ky, ny, 0] [sa, sb])) (j := 1) rfl rfl rfl rfl hb) rn69
theorem o_notsame_GS (htab : Tab w) (ha : VG ka na sa kx nx) (hb : VS kb nb sb) : Says (bytesV [33, 61, 61]) ka na sa kb nb sb w := by
  obtain ⟨r, hr⟩ := strict_any ha.fit (vs_fit hb)
  cases r
  · exact fin_run (Y := (syL [ka, na, kb, nb, kx, nx, 0, 0, 0] [sa, sb])) htab (fun _ h => orcs_nil h) (KnownOk.append (KnownOk.append k4_ok (knV_ok (j := 0) (aG_ok (Y := (syL [ka, na, kb, nb, kx, nx, 0, 0, 0] [sa, sb])) (j := 0) rfl rfl rfl rfl ha) rfl rfl ha)) (KnownOk.cons (hasG30 _) (gOf hr (concs2 (aG_ok (Y := (syL [ka, na, kb, nb, kx, nx, 0, 0, 0] [sa, sb])) (j := 0) rfl rfl rfl rfl ha) (aS_ok (Y := (syL [ka, na, kb, nb, kx, nx, 0, 0, 0] [sa, sb])) (j := 1) rfl hb)) rfl) KnownOk.nil)) sNew_ok (isS_str (b := [33, 61, 61]) rfl) (aG_ok (Y := (syL [ka, na, kb, nb, kx, nx, 0, 0, 0] [sa, sb])) (j := 0) rfl rfl rfl rfl ha) (aS_ok (Y := (syL [ka, na, kb, nb, kx, nx, 0, 0, 0] [sa, sb])) (j := 1) rfl hb) rn70
  · exact fin_run (Y := (syL [ka, na, kb, nb, kx, nx, 0, 0, 0] [sa, sb])) htab (fun _ h => orcs_nil h) (KnownOk.append (KnownOk.append k4_ok (knV_ok (j := 0) (aG_ok (Y := (syL [ka, na, kb, nb, kx, nx, 0, 0, 0] [sa, sb])) (j := 0) rfl rfl rfl rfl ha) rfl rfl ha)) (KnownOk.cons (hasG30 _) (gOf hr (concs2 (aG_ok (Y := (syL [ka, na, kb, nb, kx, nx, 0, 0, 0] [sa, sb])) (j := 0) rfl rfl rfl rfl ha) (aS_ok (Y := (syL [ka, na, kb, nb, kx, nx, 0, 0, 0] [sa, sb])) (j := 1) rfl hb)) rfl) KnownOk.nil)) sNew_ok (isS_str (b := [33, 61, 61]) rfl) (aG_ok (Y := (syL [ka, na, kb, nb, kx, nx, 0, 0, 0] [sa, sb])) (j := 0) rfl rfl rfl rfl ha) (aS_ok (Y := (syL [ka, na, kb, nb, kx, nx, 0, 0, 0] [sa, sb])) (j := 1) rfl hb) rn71
theorem o_notsame_SG (htab : Tab w) (ha : VS ka na sa) (hb : VG kb nb sb ky ny) : Says (bytesV [33, 61, 61]) ka na sa kb nb sb w := by
  obtain ⟨r, hr⟩ := strict_any (vs_fit ha) hb.fit
  cases r
  · exact fin_run (Y := (syL [ka, na, kb, nb, 0, 0, ky, ny, 0] [sa, sb])) htab (fun _ h => orcs_nil h) (KnownOk.append (KnownOk.append k4_ok (knV_ok (j := 1) (aG_ok (Y := (syL [ka, na, kb, nb, 0, 0, ky, ny, 0] [sa, sb])) (j := 1) rfl rfl rfl rfl hb) rfl rfl hb)) (KnownOk.cons (hasG30 _) (gOf hr (concs2 (aS_ok (Y := (syL [ka, na, kb, nb, 0, 0, ky, ny, 0] [sa, sb])) (j := 0) rfl ha) (aG_ok (Y := (syL [ka, na, kb, nb, 0, 0, ky, ny, 0] [sa, sb])) (j := 1) rfl rfl rfl rfl hb)) rfl) KnownOk.nil)) sNew_ok (isS_str (b := [33, 61, 61]) rfl) (aS_ok (Y := (syL [ka, na, kb, nb, 0, 0, ky, ny, 0] [sa, sb])) (j := 0) rfl ha) (aG_ok (Y := (syL [ka, na, kb, nb, 0, 0, ky, ny, 0] [sa, sb])) (j := 1) rfl rfl rfl rfl hb) rn72
  · exact fin_run (Y := (syL [ka, na, kb, nb, 0, 0, ky, ny, 0] [sa, sb])) htab (fun _ h => orcs_nil h) (KnownOk.append (KnownOk.append k4_ok (knV_ok (j := 1) (aG_ok (Y := (syL [ka, na, kb, nb, 0, 0, ky, ny, 0] [sa, sb])) (j := 1) rfl rfl rfl rfl hb) rfl rfl hb)) (KnownOk.cons (hasG30 _) (gOf hr (concs2 (aS_ok (Y := (syL [ka, na, kb, nb, 0, 0, ky, ny, 0] [sa, sb])) (j := 0) rfl ha) (aG_ok (Y := (syL [ka, na, kb, nb, 0, 0, ky, ny, 0] [sa, sb])) (j := 1) rfl rfl rfl rfl hb)) rfl) KnownOk.nil)) sNew_ok (isS_str (b := [33, 61, 61]) rfl) (aS_ok (Y := (syL [ka, na, kb, nb, 0, 0, ky, ny, 0] [sa, sb])) (j := 0) rfl ha) (aG_ok (Y := (syL [ka, na, kb, nb, 0, 0, ky, ny, 0] [sa, sb])) (j := 1) rfl rfl rfl rfl hb) rn73
theorem o_notsame_SS (htab : Tab w) (ha : VS ka na sa) (hb : VS kb nb sb) : Says (bytesV [33, 61, 61]) ka na sa kb nb sb w := by
  obtain ⟨r, hr⟩ := strict_any (vs_fit ha) (vs_fit hb)
  cases r
  · exact fin_run (Y := (syL [ka, na, kb, nb, 0, 0, 0, 0, 0] [sa, sb])) htab (fun _ h => orcs_nil h) (KnownOk.append k4_ok (KnownOk.cons (hasG30 _) (gOf hr (concs2 (aS_ok (Y := (syL [ka, na, kb, nb, 0, 0, 0, 0, 0] [sa, sb])) (j := 0) rfl ha) (aS_ok (Y := (syL [ka, na, kb, nb, 0, 0, 0, 0, 0] [sa, sb])) (j := 1) rfl hb)) rfl) KnownOk.nil)) sNew_ok (isS_str (b := [33, 61, 61]) rfl) (aS_ok (Y := (syL [ka, na, kb, nb, 0, 0, 0, 0, 0] [sa, sb])) (j := 0) rfl ha) (aS_ok (Y := (syL [ka, na, kb, nb, 0, 0, 0, 0, 0] [sa, sb])) (j := 1) rfl hb) rn74
  · exact fin_run (Y := (syL [ka, na, kb, nb, 0, 0, 0, 0, 0] [sa, sb])) htab (fun _ h => orcs_nil h) (KnownOk.append k4_ok (KnownOk.cons (hasG30 _) (gOf hr (concs2 (aS_ok (Y := (syL [ka, na, kb, nb, 0, 0, 0, 0, 0] [sa, sb])) (j := 0) rfl ha) (aS_ok (Y := (syL [ka, na, kb, nb, 0, 0, 0, 0, 0] [sa, sb])) (j := 1) rfl hb)) rfl) KnownOk.nil)) sNew_ok (isS_str (b := [33, 61, 61]) rfl) (aS_ok (Y := (syL [ka, na, kb, nb, 0, 0, 0, 0, 0] [sa, sb])) (j := 0) rfl ha) (aS_ok (Y := (syL [ka, na, kb, nb, 0, 0, 0, 0, 0] [sa, sb])) (j := 1) rfl hb) rn75
theorem o_notsame (htab : Tab w) (ha : VG ka na sa kx nx ∨ VS ka na sa) (hb : VG kb nb sb ky ny ∨ VS kb nb sb) : Says (bytesV [33, 61, 61]) ka na sa kb nb sb w := by
  rcases ha with ha | ha <;> rcases hb with hb | hb
  · exact o_notsame_GG htab ha hb
  · exact o_notsame_GS htab ha hb
  · exact o_notsame_SG htab ha hb
  · exact o_notsame_SS htab ha hb
theorem o_eql_GG (htab : Tab w) (ha : VG ka na sa kx nx) (hb : VG kb nb sb ky ny) : Says (bytesV [61, 61]) ka na sa kb nb sb w := by
  obtain ⟨r, hr⟩ := loose_any ha.pl hb.pl
  cases r
  · exact fin_run (Y := (syL [ka, na, kb, nb, kx, nx, ky, ny, 0] [sa, sb])) htab (fun _ h => orcs_nil h) (KnownOk.append (KnownOk.append (KnownOk.append k4_ok (knV_ok (j := 0) (aG_ok (Y := (syL [ka, na, kb, nb, kx, nx, ky, ny, 0] [sa, sb])) (j := 0) rfl rfl rfl rfl ha) rfl rfl ha)) (knV_ok (j := 1) (aG_ok (Y := (syL [ka, na, kb, nb, kx, nx, ky, ny, 0] [sa, sb])) (j := 1) rfl rfl rfl rfl hb) rfl rfl hb)) (KnownOk.cons (hasG31 _) (gOf hr (concs2 (aG_ok (Y := (syL [ka, na, kb, nb, kx, nx, ky, ny, 0] [sa, sb])) (j := 0) rfl rfl rfl rfl ha) (aG_ok (Y := (syL [ka, na, kb, nb, kx, nx, ky, ny, 0] [sa, sb])) (j := 1) rfl rfl rfl rfl hb)) rfl) KnownOk.nil)) sNew_ok (isS_str (b := [61, 61]) rfl) (aG_ok (Y := (syL [ka, na, kb, nb, kx, nx, ky, ny, 0] [sa, sb])) (j := 0) rfl rfl rfl rfl ha) (aG_ok (Y := (syL [ka, na, kb, nb, kx, nx, ky, ny, 0] [sa, sb])) (j := 1) rfl rfl rfl rfl hb) rn76
  · exact fin_run (Y := (syL [ka, na, kb, nb, kx, nx, ky, ny, 0] [sa, sb])) htab (fun _ h => orcs_nil h) (KnownOk.append (KnownOk.append (KnownOk.append k4_ok (knV_ok (j := 0) (aG_ok (Y := (syL [ka, na, kb, nb, kx, nx, ky, ny, 0] [sa, sb])) (j := 0) rfl rfl rfl rfl ha) rfl rfl ha)) (knV_ok (j := 1) (aG_ok (Y := (syL [ka, na, kb, nb, kx, nx, ky, ny, 0] [sa, sb])) (j := 1) rfl rfl rfl rfl hb) rfl rfl hb)) (KnownOk.cons (hasG31 _) (gOf hr (concs2 (aG_ok (Y := (syL [ka, na, kb, nb, kx, nx, ky, ny, 0] [sa, sb])) (j := 0) rfl rfl rfl rfl ha) (aG_ok (Y := (syL [ka, na, kb, nb, kx, nx, ky, ny, 0] [sa, sb])) (j := 1) rfl rfl rfl rfl hb)) rfl) KnownOk.nil)) sNew_ok (isS_str (b := [61, 61]) rfl) (aG_ok (Y := (syL [ka, na, kb, nb, kx, nx, ky, ny, 0] [sa, sb])) (j := 0) rfl rfl rfl rfl ha) (aG_ok (Y := (syL [ka, na, kb, nb, kx, nx, ky, ny, 0] [sa, sb])) (j := 1) rfl rfl rfl rfl hb) rn77
theorem o_eql_GS (htab : Tab w) (ha : VG ka na sa kx nx) (hb : VS kb nb sb) : Says (bytesV [61, 61]) ka na sa kb nb sb w := by
  obtain ⟨r, hr⟩ := loose_any ha.pl (vs_pl hb)
  cases r
  · exact fin_run (Y := (syL [ka, na, kb, nb, kx, nx, 0, 0, 0] [sa, sb])) htab (fun _ h => orcs_nil h) (KnownOk.append (KnownOk.append k4_ok (knV_ok (j := 0) (aG_ok (Y := (syL [ka, na, kb, nb, kx, nx, 0, 0, 0] [sa, sb])) (j := 0) rfl rfl rfl rfl ha) rfl rfl ha)) (KnownOk.cons (hasG31 _) (gOf hr (concs2 (aG_ok (Y := (syL [ka, na, kb, nb, kx, nx, 0, 0, 0] [sa, sb])) (j := 0) rfl rfl rfl rfl ha) (aS_ok (Y := (syL [ka, na, kb, nb, kx, nx, 0, 0, 0] [sa, sb])) (j := 1) rfl hb)) rfl) KnownOk.nil)) sNew_ok (isS_str (b := [61, 61]) rfl) (aG_ok (Y := (syL [ka, na, kb, nb, kx, nx, 0, 0, 0] [sa, sb])) (j := 0) rfl rfl rfl rfl ha) (aS_ok (Y := (syL [ka, na, kb, nb, kx, nx, 0, 0, 0] [sa, sb])) (j := 1) rfl hb) rn78
  · exact fin_run (Y := (syL [ka, na, kb, nb, kx, nx, 0, 0, 0] [sa, sb])) htab (fun _ h => orcs_nil h) (KnownOk.append (KnownOk.append k4_ok (knV_ok (j := 0) (aG_ok (Y := (syL [ka, na, kb, nb, kx, nx, 0, 0, 0] [sa, sb])) (j := 0) rfl rfl rfl rfl ha) rfl rfl ha)) (KnownOk.cons (hasG31 _) (gOf hr (concs2 (aG_ok (Y := (syL [ka, na, kb, nb, kx, nx, 0, 0, 0] [sa, sb])) (j := 0) rfl rfl rfl rfl ha) (aS_ok (Y := (syL [ka, na, kb, nb, kx, nx, 0, 0, 0] [sa, sb])) (j := 1) rfl hb)) rfl) KnownOk.nil)) sNew_ok (isS_str (b := [61, 61]) rfl) (aG_ok (Y := (syL [ka, na, kb, nb, kx, nx, 0, 0, 0] [sa, sb])) (j := 0) rfl rfl rfl rfl ha) (aS_ok (Y := (syL [ka, na, kb, nb, kx, nx, 0, 0, 0] [sa, sb])) (j := 1) rfl hb) rn79
theorem o_eql_SG (htab : Tab w) (ha : VS ka na sa) (hb : VG kb nb sb ky ny) : Says (bytesV [61, 61]) ka na sa kb nb sb w := by
  obtain ⟨r, hr⟩ := loose_any (vs_pl ha) hb.pl
  cases r
  · exact fin_run (Y := (syL [ka, na, kb, nb, 0, 0, ky, ny, 0] [sa, sb])) htab (fun _ h => orcs_nil h) (KnownOk.append (KnownOk.append k4_ok (knV_ok (j := 1) (aG_ok (Y := (syL [ka, na, kb, nb, 0, 0, ky, ny, 0] [sa, sb])) (j := 1) rfl rfl rfl rfl hb) rfl rfl hb)) (KnownOk.cons (hasG31 _) (gOf hr (concs2 (aS_ok (Y := (syL [ka, na, kb, nb, 0, 0, ky, ny, 0] [sa, sb])) (j := 0) rfl ha) (aG_ok (Y := (syL [ka, na, kb, nb, 0, 0, ky, ny, 0] [sa, sb])) (j := 1) rfl rfl rfl rfl hb)) rfl) KnownOk.nil)) sNew_ok (isS_str (b := [61, 61]) rfl) (aS_ok (Y := (syL [ka, na, kb, nb, 0, 0, ky, ny, 0] [sa, sb])) (j := 0) rfl ha) (aG_ok (Y := (syL [ka, na, kb, nb, 0, 0, ky, ny, 0] [sa, sb])) (j := 1) rfl rfl rfl rfl hb) rn80
  · exact fin_run (Y := (syL [ka, na, kb, nb, 0, 0, ky, ny, 0] [sa, sb])) htab (fun _ h => orcs_nil h) (KnownOk.append (KnownOk.append k4_ok (knV_ok (j := 1) (aG_ok (Y := (syL [ka, na, kb, nb, 0, 0, ky, ny, 0] [sa, sb])) (j := 1) rfl rfl rfl rfl hb) rfl rfl hb)) (KnownOk.cons (hasG31 _) (gOf hr (concs2 (aS_ok (Y := (syL [ka, na, kb, nb, 0, 0, ky, ny, 0] [sa, sb])) (j := 0) rfl ha) (aG_ok (Y := (syL [ka, na, kb, nb, 0, 0, ky, ny, 0] [sa, sb])) (j := 1) rfl rfl rfl rfl hb)) rfl) KnownOk.nil)) sNew_ok (isS_str (b := [61, 61]) rfl) (aS_ok (Y := (syL [ka, na, kb, nb, 0, 0, ky, ny, 0] [sa, sb])) (j := 0) rfl ha) (aG_ok (Y := (syL [ka, na, kb, nb, 0, 0, ky, ny, 0] [sa, sb])) (j := 1) rfl rfl rfl rfl hb) rn81
theorem o_eql_SS (htab : Tab w) (ha : VS ka na sa) (hb : VS kb nb sb) : Says (bytesV [61, 61]) ka na sa kb nb sb w := by
  obtain ⟨r, hr⟩ := loose_any (vs_pl ha) (vs_pl hb)
  cases r
  · exact fin_run (Y := (syL [ka, na, kb, nb, 0, 0, 0, 0, 0] [sa, sb])) htab (fun _ h => orcs_nil h) (KnownOk.append k4_ok (KnownOk.cons (hasG31 _) (gOf hr (concs2 (aS_ok (Y := (syL [ka, na, kb, nb, 0, 0, 0, 0, 0] [sa, sb])) (j := 0) rfl ha) (aS_ok (Y := (syL [ka, na, kb, nb, 0, 0, 0, 0, 0] [sa, sb])) (j := 1) rfl hb)) rfl) KnownOk.nil)) sNew_ok (isS_str (b := [61, 61]) rfl) (aS_ok (Y := (syL [ka, na, kb, nb, 0, 0, 0, 0, 0] [sa, sb])) (j := 0) rfl ha) (aS_ok (Y := (syL [ka, na, kb, nb, 0, 0, 0, 0, 0] [sa, sb])) (j := 1) rfl hb) rn82
  · exact fin_run (Y := (syL [ka, na, kb, nb, 0, 0, 0, 0, 0] [sa, sb])) htab (fun _ h => orcs_nil h) (KnownOk.append k4_ok (KnownOk.cons (hasG31 _) (gOf hr (concs2 (aS_ok (Y := (syL [ka, na, kb, nb, 0, 0, 0, 0, 0] [sa, sb])) (j := 0) rfl ha) (aS_ok (Y := (syL [ka, na, kb, nb, 0, 0, 0, 0, 0] [sa, sb])) (j := 1) rfl hb)) rfl) KnownOk.nil)) sNew_ok (isS_str (b := [61, 61]) rfl) (aS_ok (Y := (syL [ka, na, kb, nb, 0, 0, 0, 0, 0] [sa, sb])) (j := 0) rfl ha) (aS_ok (Y := (syL [ka, na, kb, nb, 0, 0, 0, 0, 0] [sa, sb])) (j := 1) rfl hb) rn83
theorem o_eql (htab : Tab w) (ha : VG ka na sa kx nx ∨ VS ka na sa) (hb : VG kb nb sb ky ny ∨ VS kb nb sb) : Says (bytesV [61, 61]) ka na sa kb nb sb w := by
  rcases ha with ha | ha <;> rcases hb with hb | hb
  · exact o_eql_GG htab ha hb
  · exact o_eql_GS htab ha hb
  · exact o_eql_SG htab ha hb
  · exact o_eql_SS htab ha hb
theorem o_neq_GG (htab : Tab w) (ha : VG ka na sa kx nx) (hb : VG kb nb sb ky ny) : Says (bytesV [33, 61]) ka na sa kb nb sb w := by
  obtain ⟨r, hr⟩ := loose_any ha.pl hb.pl
  cases r
  · exact fin_run (Y := (syL [ka, na, kb, nb, kx, nx, ky, ny, 0] [sa, sb])) htab (fun _ h => orcs_nil h) (KnownOk.append (KnownOk.append (KnownOk.append k4_ok (knV_ok (j := 0) (aG_ok (Y := (syL [ka, na, kb, nb, kx, nx, ky, ny, 0] [sa, sb])) (j := 0) rfl rfl rfl rfl ha) rfl rfl ha)) (knV_ok (j := 1) (aG_ok (Y := (syL [ka, na, kb, nb, kx, nx, ky, ny, 0] [sa, sb])) (j := 1) rfl rfl rfl rfl hb) rfl rfl hb)) (KnownOk.cons (hasG31 _) (gOf hr (concs2 (aG_ok (Y := (syL [ka, na, kb, nb, kx, nx, ky, ny, 0] [sa, sb])) (j := 0) rfl rfl rfl rfl ha) (aG_ok (Y := (syL [ka, na, kb, nb, kx, nx, ky, ny, 0] [sa, sb])) (j := 1) rfl rfl rfl rfl hb)) rfl) KnownOk.nil)) sNew_ok (isS_str (b := [33, 61]) rfl) (aG_ok (Y := (syL [ka, na, kb, nb, kx, nx, ky, ny, 0] [sa, sb])) (j := 0) rfl rfl rfl rfl ha) (aG_ok (Y := (syL [ka, na, kb, nb, kx, nx, ky, ny, 0] [sa, sb])) (j := 1) rfl rfl rfl rfl hb) rn84
  · exact fin_run (Y := (syL [ka, na, kb, nb, kx, nx, ky, ny, 0] [sa, sb])) htab (fun _ h => orcs_nil h) (KnownOk.append (KnownOk.append (KnownOk.append k4_ok (knV_ok (j := 0) (aG_ok (Y := (syL [ka, na, kb, nb, kx, nx, ky, ny, 0] [sa, sb])) (j := 0) rfl rfl rfl rfl ha) rfl rfl ha)) (knV_ok (j := 1) (aG_ok (Y := (syL [ka, na, kb, nb, kx, nx, ky, ny, 0] [sa, sb])) (j := 1) rfl rfl rfl rfl hb) rfl rfl hb)) (KnownOk.cons (hasG31 _) (gOf hr (concs2 (aG_ok (Y := (syL [ka, na, kb, nb, kx, nx, ky, ny, 0] [sa, sb])) (j := 0) rfl rfl rfl rfl ha) (aG_ok (Y := (syL [ka, na, kb, nb, kx, nx, ky, ny, 0] [sa, sb])) (j := 1) rfl rfl rfl rfl hb)) rfl) KnownOk.nil)) sNew_ok (isS_str (b := [33, 61]) rfl) (aG_ok (Y := (syL [ka, na, kb, nb, kx, nx, ky, ny, 0] [sa, sb])) (j := 0) rfl rfl rfl rfl ha) (aG_ok (Y := (syL [ka, na, kb, nb, kx, nx, ky, ny, 0] [sa, sb])) (j := 1) rfl rfl rfl rfl hb) rn85
theorem o_neq_GS (htab : Tab w) (ha : VG ka na sa kx nx) (hb : VS kb nb sb) : Says (bytesV [33, 61]) ka na sa kb nb sb w := by
  obtain ⟨r, hr⟩ := loose_any ha.pl (vs_pl hb)
  cases r
  · exact fin_run (Y := (syL [ka, na, kb, nb, kx, nx, 0, 0, 0] [sa, sb])) htab (fun _ h => orcs_nil h) (KnownOk.append (KnownOk.append k4_ok (knV_ok (j := 0) (aG_ok (Y := (syL [ka, na, kb, nb, kx, nx, 0, 0, 0] [sa, sb])) (j := 0) rfl rfl rfl rfl ha) rfl rfl ha)) (KnownOk.cons (hasG31 _) (gOf hr (concs2 (aG_ok (Y := (syL [ka, na, kb, nb, kx, nx, 0, 0, 0] [sa, sb])) (j := 0) rfl rfl rfl rfl ha) (aS_ok (Y := (syL [ka, na, kb, nb, kx, nx, 0, 0, 0] [sa, sb])) (j := 1) rfl hb)) rfl) KnownOk.nil)) sNew_ok (isS_str (b := [33, 61]) rfl) (aG_ok (Y := (syL [ka, na, kb, nb, kx, nx, 0, 0, 0] [sa, sb])) (j := 0) rfl rfl rfl rfl ha) (aS_ok (Y := (syL [ka, na, kb, nb, kx, nx, 0, 0, 0] [sa, sb])) (j := 1) rfl hb) rn86
  · exact fin_run (Y := (syL [ka, na, kb, nb, kx, nx, 0, 0, 0] [sa, sb])) htab (fun _ h => orcs_nil h) (KnownOk.append (KnownOk.append k4_ok (knV_ok (j := 0) (aG_ok (Y := (syL [ka, na, kb, nb, kx, nx, 0, 0, 0] [sa, sb])) (j := 0) rfl rfl rfl rfl ha) rfl rfl ha)) (KnownOk.cons (hasG31 _) (gOf hr (concs2 (aG_ok (Y := (syL [ka, na, kb, nb, kx, nx, 0, 0, 0] [sa, sb])) (j := 0) rfl rfl rfl rfl ha) (aS_ok (Y := (syL [ka, na, kb, nb, kx, nx, 0, 0, 0] [sa, sb])) (j := 1) rfl hb)) rfl) KnownOk.nil)) sNew_ok (isS_str (b := [33, 61]) rfl) (aG_ok (Y := (syL [ka, na, kb, nb, kx, nx, 0, 0, 0] [sa, sb])) (j := 0) rfl rfl rfl rfl ha) (aS_ok (Y := (syL [ka, na, kb, nb, kx, nx, 0, 0, 0] [sa, sb])) (j := 1) rfl hb) rn87
theorem o_neq_SG (htab : Tab w) (ha : VS ka na sa) (hb : VG kb nb sb ky ny) : Says (bytesV [33, 61]) ka na sa kb nb sb w := by
  obtain ⟨r, hr⟩ := loose_any (vs_pl ha) hb.pl
  cases r
  · exact fin_run (Y := (syL [ka, na, kb, nb, 0, 0, ky, ny, 0] [sa, sb])) htab (fun _ h => orcs_nil h) (KnownOk.append (KnownOk.append k4_ok (knV_ok (j := 1) (aG_ok (Y := (syL [ka, na, kb, nb, 0, 0, ky, ny, 0] [sa, sb])) (j := 1) rfl rfl rfl rfl hb) rfl rfl hb)) (KnownOk.cons (hasG31 _) (gOf hr (concs2 (aS_ok (Y := (syL [ka, na, kb, nb, 0, 0, ky, ny, 0] [sa, sb])) (j := 0) rfl ha) (aG_ok (Y := (syL [ka, na, kb, nb, 0, 0, ky, ny, 0] [sa, sb])) (j := 1) rfl rfl rfl rfl hb)) rfl) KnownOk.nil)) sNew_ok (isS_str (b := [33, 61]) rfl) (aS_ok (Y := (syL [ka, na, kb, nb, 0, 0, ky, ny, 0] [sa, sb])) (j := 0) rfl ha) (aG_ok (Y := (syL [ka, na, kb, nb, 0, 0, ky, ny, 0] [sa, sb])) (j := 1) rfl rfl rfl rfl hb) rn88
  · exact fin_run (Y := (syL [ka, na, kb, nb, 0, 0, ky, ny, 0] [sa, sb])) htab (fun _ h => orcs_nil h) (KnownOk.append (KnownOk.append k4_ok (knV_ok (j := 1) (aG_ok (Y := (syL [ka, na, kb, nb, 0, 0, ky, ny, 0] [sa, sb])) (j := 1) rfl rfl rfl rfl hb) rfl rfl hb)) (KnownOk.cons (hasG31 _) (gOf hr (concs2 (aS_ok (Y := (syL [ka, na, kb, nb, 0, 0, ky, ny, 0] [sa, sb])) (j := 0) rfl ha) (aG_ok (Y := (syL [ka, na, kb, nb, 0, 0, ky, ny, 0] [sa, sb])) (j := 1) rfl rfl rfl rfl hb)) rfl) KnownOk.nil)) sNew_ok (isS_str (b := [33, 61]) rfl) (aS_ok (Y := (syL [ka, na, kb, nb, 0, 0, ky, ny, 0] [sa, sb])) (j := 0) rfl ha) (aG_ok (Y := (syL [ka, na, kb, nb, 0, 0, ky, ny, 0] [sa, sb])) (j := 1) rfl rfl rfl rfl hb) rn89
theorem o_neq_SS (htab : Tab w) (ha : VS ka na sa) (hb : VS kb nb sb) : Says (bytesV [33, 61]) ka na sa kb nb sb w := by
  obtain ⟨r, hr⟩ := loose_any (vs_pl ha) (vs_pl hb)
  cases r
  · exact fin_run (Y := (syL [ka, na, kb, nb, 0, 0, 0, 0, 0] [sa, sb])) htab (fun _ h => orcs_nil h) (KnownOk.append k4_ok (KnownOk.cons (hasG31 _) (gOf hr (concs2 (aS_ok (Y := (syL [ka, na, kb, nb, 0, 0, 0, 0, 0] [sa, sb])) (j := 0) rfl ha) (aS_ok (Y := (syL [ka, na, kb, nb, 0, 0, 0, 0, 0] [sa, sb])) (j := 1) rfl hb)) rfl) KnownOk.nil)) sNew_ok (isS_str (b := [33, 61]) rfl) (aS_ok (Y := (syL [ka, na, kb, nb, 0, 0, 0, 0, 0] [sa, sb])) (j := 0) rfl ha) (aS_ok (Y := (syL [ka, na, kb, nb, 0, 0, 0, 0, 0] [sa, sb])) (j := 1) rfl hb) rn90
  · exact fin_run (Y := (syL [ka, na, kb, nb, 0, 0, 0, 0, 0] [sa, sb])) htab (fun _ h => orcs_nil h) (KnownOk.append k4_ok (KnownOk.cons (hasG31 _) (gOf hr (concs2 (aS_ok (Y := (syL [ka, na, kb, nb, 0, 0, 0, 0, 0] [sa, sb])) (j := 0) rfl ha) (aS_ok (Y := (syL [ka, na, kb, nb, 0, 0, 0, 0, 0] [sa, sb])) (j := 1) rfl hb)) rfl) KnownOk.nil)) sNew_ok (isS_str (b := [33, 61]) rfl) (aS_ok (Y := (syL [ka, na, kb, nb, 0, 0, 0, 0, 0] [sa, sb])) (j := 0) rfl ha) (aS_ok (Y := (syL [ka, na, kb, nb, 0, 0, 0, 0, 0] [sa, sb])) (j := 1) rfl hb) rn91
theorem o_neq (htab : Tab w) (ha : VG ka na sa kx nx ∨ VS ka na sa) (hb : VG kb nb sb ky ny ∨ VS kb nb sb) : Says (bytesV [33, 61]) ka na sa kb nb sb w := by
  rcases ha with ha | ha <;> rcases hb with hb | hb
  · exact o_neq_GG htab ha hb
  · exact o_neq_GS htab ha hb
  · exact o_neq_SG htab ha hb
  · exact o_neq_SS htab ha hb
theorem o_lss_PP (htab : Tab w) (ha : VG ka na sa kx nx) (ta : ka ≠ 5) (hb : VG kb nb sb ky ny) (tb : kb ≠ 5) : Says (bytesV [60]) ka na sa kb nb sb w := by
  obtain ⟨kv, nv, v1, v2, v3, v4, hv⟩ := lss_any ha.num hb.num
  exact fin_run (Y := (syL [ka, na, kb, nb, kx, nx, ky, ny, kv, nv] [sa, sb])) htab (fun _ h => orcs_nil h) (KnownOk.append (KnownOk.append (KnownOk.append k4_ok (knV_ok (j := 0) (aP_ok (Y := (syL [ka, na, kb, nb, kx, nx, ky, ny, kv, nv] [sa, sb])) (j := 0) rfl rfl ha ta) rfl rfl ha)) (knV_ok (j := 1) (aP_ok (Y := (syL [ka, na, kb, nb, kx, nx, ky, ny, kv, nv] [sa, sb])) (j := 1) rfl rfl hb tb) rfl rfl hb)) (KnownOk.cons (hasG36 _) (gOf hv (concs3 (isS_str rfl) (xA_ok (j := 0) rfl rfl ha.num) (xA_ok (j := 1) rfl rfl hb.num)) (rA_ok (Y := (syL [ka, na, kb, nb, kx, nx, ky, ny, kv, nv] [sa, sb])) (i := 8) rfl rfl v1 v2 v3 v4 _)) KnownOk.nil)) sNew_ok (isS_str (b := [60]) rfl) (aP_ok (Y := (syL [ka, na, kb, nb, kx, nx, ky, ny, kv, nv] [sa, sb])) (j := 0) rfl rfl ha ta) (aP_ok (Y := (syL [ka, na, kb, nb, kx, nx, ky, ny, kv, nv] [sa, sb])) (j := 1) rfl rfl hb tb) rn92
theorem o_lss_PT (htab : Tab w) (ha : VG ka na sa kx nx) (ta : ka ≠ 5) (hb : VG 5 nb sb ky ny) : Says (bytesV [60]) ka na sa 5 nb sb w := by
  obtain ⟨kv, nv, v1, v2, v3, v4, hv⟩ := lss_any ha.num hb.num
  exact fin_run (Y := (syL [ka, na, 5, nb, kx, nx, ky, ny, kv, nv] [sa, sb])) htab (fun _ h => orcs_nil h) (KnownOk.append (KnownOk.append (KnownOk.append k4_ok (knV_ok (j := 0) (aP_ok (Y := (syL [ka, na, 5, nb, kx, nx, ky, ny, kv, nv] [sa, sb])) (j := 0) rfl rfl ha ta) rfl rfl ha)) (knV_ok (j := 1) (aT_ok (Y := (syL [ka, na, 5, nb, kx, nx, ky, ny, kv, nv] [sa, sb])) (j := 1) rfl rfl hb) rfl rfl hb)) (KnownOk.cons (hasG36 _) (gOf hv (concs3 (isS_str rfl) (xA_ok (j := 0) rfl rfl ha.num) (xA_ok (j := 1) rfl rfl hb.num)) (rA_ok (Y := (syL [ka, na, 5, nb, kx, nx, ky, ny, kv, nv] [sa, sb])) (i := 8) rfl rfl v1 v2 v3 v4 _)) KnownOk.nil)) sNew_ok (isS_str (b := [60]) rfl) (aP_ok (Y := (syL [ka, na, 5, nb, kx, nx, ky, ny, kv, nv] [sa, sb])) (j := 0) rfl rfl ha ta) (aT_ok (Y := (syL [ka, na, 5, nb, kx, nx, ky, ny, kv, nv] [sa, sb])) (j := 1) rfl rfl hb) rn93
theorem o_lss_TP (htab : Tab w) (ha : VG 5 na sa kx nx) (hb : VG kb nb sb ky ny) (tb : kb ≠ 5) : Says (bytesV [60]) 5 na sa kb nb sb w := by
  obtain ⟨kv, nv, v1, v2, v3, v4, hv⟩ := lss_any ha.num hb.num
  exact fin_run (Y := (syL [5, na, kb, nb, kx, nx, ky, ny, kv, nv] [sa, sb])) htab (fun _ h => orcs_nil h) (KnownOk.append (KnownOk.append (KnownOk.append k4_ok (knV_ok (j := 0) (aT_ok (Y := (syL [5, na, kb, nb, kx, nx, ky, ny, kv, nv] [sa, sb])) (j := 0) rfl rfl ha) rfl rfl ha)) (knV_ok (j := 1) (aP_ok (Y := (syL [5, na, kb, nb, kx, nx, ky, ny, kv, nv] [sa, sb])) (j := 1) rfl rfl hb tb) rfl rfl hb)) (KnownOk.cons (hasG36 _) (gOf hv (concs3 (isS_str rfl) (xA_ok (j := 0) rfl rfl ha.num) (xA_ok (j := 1) rfl rfl hb.num)) (rA_ok (Y := (syL [5, na, kb, nb, kx, nx, ky, ny, kv, nv] [sa, sb])) (i := 8) rfl rfl v1 v2 v3 v4 _)) KnownOk.nil)) sNew_ok (isS_str (b := [60]) rfl) (aT_ok (Y := (syL [5, na, kb, nb, kx, nx, ky, ny, kv, nv] [sa, sb])) (j := 0) rfl rfl ha) (aP_ok (Y := (syL [5, na, kb, nb, kx, nx, ky, ny, kv, nv] [sa, sb])) (j := 1) rfl rfl hb tb) rn94
theorem o_lss_TT (htab : Tab w) (ha : VG 5 na sa kx nx) (hb : VG 5 nb sb ky ny) : Says (bytesV [60]) 5 na sa 5 nb sb w := by
  have hc := compare_ret sa sb
  rcases cmp_in sa.data.toList sb.data.toList with hq | hq | hq
  · have e : cmpW sa sb = (-1) := hq
    rw [e] at hc
    exact fin_run (Y := (syL [5, na, 5, nb, kx, nx, ky, ny, 0] [sa, sb])) htab (fun _ h => orcs_nil h) (KnownOk.append (KnownOk.append (KnownOk.append k4_ok (knV_ok (j := 0) (aT_ok (Y := (syL [5, na, 5, nb, kx, nx, ky, ny, 0] [sa, sb])) (j := 0) rfl rfl ha) rfl rfl ha)) (knV_ok (j := 1) (aT_ok (Y := (syL [5, na, 5, nb, kx, nx, ky, ny, 0] [sa, sb])) (j := 1) rfl rfl hb) rfl rfl hb)) (KnownOk.cons (hasG34 _) (gOf hc (concs2 (isS_sym (Y := (syL [5, na, 5, nb, kx, nx, ky, ny, 0] [sa, sb])) (i := 0) (s := sa) rfl (Nat.zero_le _) ha.size.2 rfl) (isS_sym (Y := (syL [5, na, 5, nb, kx, nx, ky, ny, 0] [sa, sb])) (i := 1) (s := sb) rfl (Nat.zero_le _) hb.size.2 rfl)) rfl) KnownOk.nil)) sNew_ok (isS_str (b := [60]) rfl) (aT_ok (Y := (syL [5, na, 5, nb, kx, nx, ky, ny, 0] [sa, sb])) (j := 0) rfl rfl ha) (aT_ok (Y := (syL [5, na, 5, nb, kx, nx, ky, ny, 0] [sa, sb])) (j := 1) rfl rfl hb) rn95
  · have e : cmpW sa sb = 0 := hq
    rw [e] at hc
    exact fin_run (Y := (syL [5, na, 5, nb, kx, nx, ky, ny, 0] [sa, sb])) htab (fun _ h => orcs_nil h) (KnownOk.append (KnownOk.append (KnownOk.append k4_ok (knV_ok (j := 0) (aT_ok (Y := (syL [5, na, 5, nb, kx, nx, ky, ny, 0] [sa, sb])) (j := 0) rfl rfl ha) rfl rfl ha)) (knV_ok (j := 1) (aT_ok (Y := (syL [5, na, 5, nb, kx, nx, ky, ny, 0] [sa, sb])) (j := 1) rfl rfl hb) rfl rfl hb)) (KnownOk.cons (hasG34 _) (gOf hc (concs2 (isS_sym (Y := (syL [5, na, 5, nb, kx, nx, ky, ny, 0] [sa, sb])) (i := 0) (s := sa) rfl (Nat.zero_le _) ha.size.2 rfl) (isS_sym (Y := (syL [5, na, 5, nb, kx, nx, ky, ny, 0] [sa, sb])) (i := 1) (s := sb) rfl (Nat.zero_le _) hb.size.2 rfl)) rfl) KnownOk.nil)) sNew_ok (isS_str (b := [60]) rfl) (aT_ok (Y := (syL [5, na, 5, nb, kx, nx, ky, ny, 0] [sa, sb])) (j := 0) rfl rfl ha) (aT_ok (Y := (syL [5, na, 5, nb, kx, nx, ky, ny, 0] [sa, sb])) (j := 1) rfl rfl hb) rn96
  · have e : cmpW sa sb = 1 := hq
    rw [e] at hc
    exact fin_run (Y := (syL [5, na, 5, nb, kx, nx, ky, ny, 0] [sa, sb])) htab (fun _ h => orcs_nil h) (KnownOk.append (KnownOk.append (KnownOk.append k4_ok (knV_ok (j := 0) (aT_ok (Y := (syL [5, na, 5, nb, kx, nx, ky, ny, 0] [sa, sb])) (j := 0) rfl rfl ha) rfl rfl ha)) (knV_ok (j := 1) (aT_ok (Y := (syL [5, na, 5, nb, kx, nx, ky, ny, 0] [sa, sb])) (j := 1) rfl rfl hb) rfl rfl hb)) (KnownOk.cons (hasG34 _) (gOf hc (concs2 (isS_sym (Y := (syL [5, na, 5, nb, kx, nx, ky, ny, 0] [sa, sb])) (i := 0) (s := sa) rfl (Nat.zero_le _) ha.size.2 rfl) (isS_sym (Y := (syL [5, na, 5, nb, kx, nx, ky, ny, 0] [sa, sb])) (i := 1) (s := sb) rfl (Nat.zero_le _) hb.size.2 rfl)) rfl) KnownOk.nil)) sNew_ok (isS_str (b := [60]) rfl) (aT_ok (Y := (syL [5, na, 5, nb, kx, nx, ky, ny, 0] [sa, sb])) (j := 0) rfl rfl ha) (aT_ok (Y := (syL [5, na, 5, nb, kx, nx, ky, ny, 0] [sa, sb])) (j := 1) rfl rfl hb) rn97
theorem o_lss_SG (htab : Tab w) (ha : VS ka na sa) (hb : VG kb nb sb ky ny) : Says (bytesV [60]) ka na sa kb nb sb w := by
  exact fin_run (Y := (syL [ka, na, kb, nb, 0, 0, ky, ny, 0] [sa, sb])) htab (fun _ h => orcs_nil h) (KnownOk.append k4_ok (knV_ok (j := 1) (aG_ok (Y := (syL [ka, na, kb, nb, 0, 0, ky, ny, 0] [sa, sb])) (j := 1) rfl rfl rfl rfl hb) rfl rfl hb)) sNew_ok (isS_str (b := [60]) rfl) (aS_ok (Y := (syL [ka, na, kb, nb, 0, 0, ky, ny, 0] [sa, sb])) (j := 0) rfl ha) (aG_ok (Y := (syL [ka, na, kb, nb, 0, 0, ky, ny, 0] [sa, sb])) (j := 1) rfl rfl rfl rfl hb) rn98
theorem o_lss_SS (htab : Tab w) (ha : VS ka na sa) (hb : VS kb nb sb) : Says (bytesV [60]) ka na sa kb nb sb w := by
  exact fin_run (Y := (syL [ka, na, kb, nb, 0, 0, 0, 0, 0] [sa, sb])) htab (fun _ h => orcs_nil h) k4_ok sNew_ok (isS_str (b := [60]) rfl) (aS_ok (Y := (syL [ka, na, kb, nb, 0, 0, 0, 0, 0] [sa, sb])) (j := 0) rfl ha) (aS_ok (Y := (syL [ka, na, kb, nb, 0, 0, 0, 0, 0] [sa, sb])) (j := 1) rfl hb) rn99
theorem o_lss_PS (htab : Tab w) (ha : VG ka na sa kx nx) (ta : ka ≠ 5) (hb : VS kb nb sb) : Says (bytesV [60]) ka na sa kb nb sb w := by
  exact fin_run (Y := (syL [ka, na, kb, nb, kx, nx, 0, 0, 0] [sa, sb])) htab (fun _ h => orcs_nil h) (KnownOk.append k4_ok (knV_ok (j := 0) (aP_ok (Y := (syL [ka, na, kb, nb, kx, nx, 0, 0, 0] [sa, sb])) (j := 0) rfl rfl ha ta) rfl rfl ha)) sNew_ok (isS_str (b := [60]) rfl) (aP_ok (Y := (syL [ka, na, kb, nb, kx, nx, 0, 0, 0] [sa, sb])) (j := 0) rfl rfl ha ta) (aS_ok (Y := (syL [ka, na, kb, nb, kx, nx, 0, 0, 0] [sa, sb])) (j := 1) rfl hb) rn100
theorem o_lss_TS (htab : Tab w) (ha : VG 5 na sa kx nx) (hb : VS kb nb sb) : Says (bytesV [60]) 5 na sa kb nb sb w := by
  exact fin_run (Y := (syL [5, na, kb, nb, kx, nx, 0, 0, 0] [sa, sb])) htab (fun _ h => orcs_nil h) (KnownOk.append k4_ok (knV_ok (j := 0) (aT_ok (Y := (syL [5, na, kb, nb, kx, nx, 0, 0, 0] [sa, sb])) (j := 0) rfl rfl ha) rfl rfl ha)) sNew_ok (isS_str (b := [60]) rfl) (aT_ok (Y := (syL [5, na, kb, nb, kx, nx, 0, 0, 0] [sa, sb])) (j := 0) rfl rfl ha) (aS_ok (Y := (syL [5, na, kb, nb, kx, nx, 0, 0, 0] [sa, sb])) (j := 1) rfl hb) rn101
theorem o_lss (htab : Tab w) (ha : VG ka na sa kx nx ∨ VS ka na sa) (hb : VG kb nb sb ky ny ∨ VS kb nb sb) : Says (bytesV [60]) ka na sa kb nb sb w := by
  rcases ha with ha | ha
  · by_cases ta : ka = 5
    · subst ta
      rcases hb with hb | hb
      · by_cases tb : kb = 5
        · subst tb
          exact o_lss_TT htab ha hb
        · exact o_lss_TP htab ha hb tb
      · exact o_lss_TS htab ha hb
    · rcases hb with hb | hb
      · by_cases tb : kb = 5
        · subst tb
          exact o_lss_PT htab ha ta hb
        · exact o_lss_PP htab ha ta hb tb
      · exact o_lss_PS htab ha ta hb
  · rcases hb with hb | hb
    · exact o_lss_SG htab ha hb
    · exact o_lss_SS htab ha hb
theorem o_gtr_PP (htab : Tab w) (ha : VG ka na sa kx nx) (ta : ka ≠ 5) (hb : VG kb nb sb ky ny) (tb : kb ≠ 5) : Says (bytesV [62]) ka na sa kb nb sb w := by
  obtain ⟨kv, nv, v1, v2, v3, v4, hv⟩ := gtr_any ha.num hb.num
  exact fin_run (Y := (syL [ka, na, kb, nb, kx, nx, ky, ny, kv, nv] [sa, sb])) htab (fun _ h => orcs_nil h) (KnownOk.append (KnownOk.append (KnownOk.append k4_ok (knV_ok (j := 0) (aP_ok (Y := (syL [ka, na, kb, nb, kx, nx, ky, ny, kv, nv] [sa, sb])) (j := 0) rfl rfl ha ta) rfl rfl ha)) (knV_ok (j := 1) (aP_ok (Y := (syL [ka, na, kb, nb, kx, nx, ky, ny, kv, nv] [sa, sb])) (j := 1) rfl rfl hb tb) rfl rfl hb)) (KnownOk.cons (hasG36 _) (gOf hv (concs3 (isS_str rfl) (xA_ok (j := 0) rfl rfl ha.num) (xA_ok (j := 1) rfl rfl hb.num)) (rA_ok (Y := (syL [ka, na, kb, nb, kx, nx, ky, ny, kv, nv] [sa, sb])) (i := 8) rfl rfl v1 v2 v3 v4 _)) KnownOk.nil)) sNew_ok (isS_str (b := [62]) rfl) (aP_ok (Y := (syL [ka, na, kb, nb, kx, nx, ky, ny, kv, nv] [sa, sb])) (j := 0) rfl rfl ha ta) (aP_ok (Y := (syL [ka, na, kb, nb, kx, nx, ky, ny, kv, nv] [sa, sb])) (j := 1) rfl rfl hb tb) rn102
theorem o_gtr_PT (htab : Tab w) (ha : VG ka na sa kx nx) (ta : ka ≠ 5) (hb : VG 5 nb sb ky ny) : Says (bytesV [62]) ka na sa 5 nb sb w := by
  obtain ⟨kv, nv, v1, v2, v3, v4, hv⟩ := gtr_any ha.num hb.num
  exact fin_run (Y := (syL [ka, na, 5, nb, kx, nx, ky, ny, kv, nv] [sa, sb])) htab (fun _ h => orcs_nil h) (KnownOk.append (KnownOk.append (KnownOk.append k4_ok (knV_ok (j := 0) (aP_ok (Y := (syL [ka, na, 5, nb, kx, nx, ky, ny, kv, nv] [sa, sb])) (j := 0) rfl rfl ha ta) rfl rfl ha)) (knV_ok (j := 1) (aT_ok (Y := (syL [ka, na, 5, nb, kx, nx, ky, ny, kv, nv] [sa, sb])) (j := 1) rfl rfl hb) rfl rfl hb)) (KnownOk.cons (hasG36 _) (gOf hv (concs3 (isS_str rfl) (xA_ok (j := 0) rfl rfl ha.num) (xA_ok (j := 1) rfl rfl hb.num)) (rA_ok (Y := (syL [ka, na, 5, nb, kx, nx, ky, ny, kv, nv] [sa, sb])) (i := 8) rfl rfl v1 v2 v3 v4 _)) KnownOk.nil)) sNew_ok (isS_str (b := [62]) rfl) (aP_ok (Y := (syL [ka, na, 5, nb, kx, nx, ky, ny, kv, nv] [sa, sb])) (j := 0) rfl rfl ha ta) (aT_ok (Y := (syL [ka, na, 5, nb, kx, nx, ky, ny, kv, nv] [sa, sb])) (j := 1) rfl rfl hb) rn103
theorem o_gtr_TP (htab : Tab w) (ha : VG 5 na sa kx nx) (hb : VG kb nb sb ky ny) (tb : kb ≠ 5) : Says (bytesV [62]) 5 na sa kb nb sb w := by
  obtain ⟨kv, nv, v1, v2, v3, v4, hv⟩ := gtr_any ha.num hb.num
  exact fin_run (Y := (syL [5, na, kb, nb, kx, nx, ky, ny, kv, nv] [sa, sb])) htab (fun _ h => orcs_nil h) (KnownOk.append (KnownOk.append (KnownOk.append k4_ok (knV_ok (j := 0) (aT_ok (Y := (syL [5, na, kb, nb, kx, nx, ky, ny, kv, nv] [sa, sb])) (j := 0) rfl rfl ha) rfl rfl ha)) (knV_ok (j := 1) (aP_ok (Y := (syL [5, na, kb, nb, kx, nx, ky, ny, kv, nv] [sa, sb])) (j := 1) rfl rfl hb tb) rfl rfl hb)) (KnownOk.cons (hasG36 _) (gOf hv (concs3 (isS_str rfl) (xA_ok (j := 0) rfl rfl ha.num) (xA_ok (j := 1) rfl rfl hb.num)) (rA_ok (Y := (syL [5, na, kb, nb, kx, nx, ky, ny, kv, nv] [sa, sb])) (i := 8) rfl rfl v1 v2 v3 v4 _)) KnownOk.nil)) sNew_ok (isS_str (b := [62]) rfl) (aT_ok (Y := (syL [5, na, kb, nb, kx, nx, ky, ny, kv, nv] [sa, sb])) (j := 0) rfl rfl ha) (aP_ok (Y := (syL [5, na, kb, nb, kx, nx, ky, ny, kv, nv] [sa, sb])) (j := 1) rfl rfl hb tb) rn104
theorem o_gtr_TT (htab : Tab w) (ha : VG 5 na sa kx nx) (hb : VG 5 nb sb ky ny) : Says (bytesV [62]) 5 na sa 5 nb sb w := by
  have hc := compare_ret sa sb
  rcases cmp_in sa.data.toList sb.data.toList with hq | hq | hq
  · have e : cmpW sa sb = (-1) := hq
    rw [e] at hc
    exact fin_run (Y := (syL [5, na, 5, nb, kx, nx, ky, ny, 0] [sa, sb])) htab (fun _ h => orcs_nil h) (KnownOk.append (KnownOk.append (KnownOk.append k4_ok (knV_ok (j := 0) (aT_ok (Y := (syL [5, na, 5, nb, kx, nx, ky, ny, 0] [sa, sb])) (j := 0) rfl rfl ha) rfl rfl ha)) (knV_ok (j := 1) (aT_ok (Y := (syL [5, na, 5, nb, kx, nx, ky, ny, 0] [sa, sb])) (j := 1) rfl rfl hb) rfl rfl hb)) (KnownOk.cons (hasG34 _) (gOf hc (concs2 (isS_sym (Y := (syL [5, na, 5, nb, kx, nx, ky, ny, 0] [sa, sb])) (i := 0) (s := sa) rfl (Nat.zero_le _) ha.size.2 rfl) (isS_sym (Y := (syL [5, na, 5, nb, kx, nx, ky, ny, 0] [sa, sb])) (i := 1) (s := sb) rfl (Nat.zero_le _) hb.size.2 rfl)) rfl) KnownOk.nil)) sNew_ok (isS_str (b := [62]) rfl) (aT_ok (Y := (syL [5, na, 5, nb, kx, nx, ky, ny, 0] [sa, sb])) (j := 0) rfl rfl ha) (aT_ok (Y := (syL [5, na, 5, nb, kx, nx, ky, ny, 0] [sa, sb])) (j := 1) rfl rfl hb) rn105
  · have e : cmpW sa sb = 0 := hq
    rw [e] at hc
    exact fin_run (Y := (syL [5, na, 5, nb, kx, nx, ky, ny, 0] [sa, sb])) htab (fun _ h => orcs_nil h) (KnownOk.append (KnownOk.append (KnownOk.append k4_ok (knV_ok (j := 0) (aT_ok (Y := (syL [5, na, 5, nb, kx, nx, ky, ny, 0] [sa, sb])) (j := 0) rfl rfl ha) rfl rfl ha)) (knV_ok (j := 1) (aT_ok (Y := (syL [5, na, 5, nb, kx, nx, ky, ny, 0] [sa, sb])) (j := 1) rfl rfl hb) rfl rfl hb)) (KnownOk.cons (hasG34 _) (gOf hc (concs2 (isS_sym (Y := (syL [5, na, 5, nb, kx, nx, ky, ny, 0] [sa, sb])) (i := 0) (s := sa) rfl (Nat.zero_le _) ha.size.2 rfl) (isS_sym (Y := (syL [5, na, 5, nb, kx, nx, ky, ny, 0] [sa, sb])) (i := 1) (s := sb) rfl (Nat.zero_le _) hb.size.2 rfl)) rfl) KnownOk.nil)) sNew_ok (isS_str (b := [62]) rfl) (aT_ok (Y := (syL [5, na, 5, nb, kx, nx, ky, ny, 0] [sa, sb])) (j := 0) rfl rfl ha) (aT_ok (Y := (syL [5, na, 5, nb, kx, nx, ky, ny, 0] [sa, sb])) (j := 1) rfl rfl hb) rn106
  · have e : cmpW sa sb = 1 := hq
    rw [e] at hc
    exact fin_run (Y := (syL [5, na, 5, nb, kx, nx, ky, ny, 0] [sa, sb])) htab (fun _ h => orcs_nil h) (KnownOk.append (KnownOk.append (KnownOk.append k4_ok (knV_ok (j := 0) (aT_ok (Y := (syL [5, na, 5, nb, kx, nx, ky, ny, 0] [sa, sb])) (j := 0) rfl rfl ha) rfl rfl ha)) (knV_ok (j := 1) (aT_ok (Y := (syL [5, na, 5, nb, kx, nx, ky, ny, 0] [sa, sb])) (j := 1) rfl rfl hb) rfl rfl hb)) (KnownOk.cons (hasG34 _) (gOf hc (concs2 (isS_sym (Y := (syL [5, na, 5, nb, kx, nx, ky, ny, 0] [sa, sb])) (i := 0) (s := sa) rfl (Nat.zero_le _) ha.size.2 rfl) (isS_sym (Y := (syL [5, na, 5, nb, kx, nx, ky, ny, 0] [sa, sb])) (i := 1) (s := sb) rfl (Nat.zero_le _) hb.size.2 rfl)) rfl) KnownOk.nil)) sNew_ok (isS_str (b := [62]) rfl) (aT_ok (Y := (syL [5, na, 5, nb, kx, nx, ky, ny, 0] [sa, sb])) (j := 0) rfl rfl ha) (aT_ok (Y := (syL [5, na, 5, nb, kx, nx, ky, ny, 0] [sa, sb])) (j := 1) rfl rfl hb) rn107
theorem o_gtr_SG (htab : Tab w) (ha : VS ka na sa) (hb : VG kb nb sb ky ny) : Says (bytesV [62]) ka na sa kb nb sb w := by
  exact fin_run (Y := (syL [ka, na, kb, nb, 0, 0, ky, ny, 0] [sa, sb])) htab (fun _ h => orcs_nil h) (KnownOk.append k4_ok (knV_ok (j := 1) (aG_ok (Y := (syL [ka, na, kb, nb, 0, 0, ky, ny, 0] [sa, sb])) (j := 1) rfl rfl rfl rfl hb) rfl rfl hb)) sNew_ok (isS_str (b := [62]) rfl) (aS_ok (Y := (syL [ka, na, kb, nb, 0, 0, ky, ny, 0] [sa, sb])) (j := 0) rfl ha) (aG_ok (Y := (syL [ka, na, kb, nb, 0, 0, ky, ny, 0] [sa, sb])) (j := 1) rfl rfl rfl rfl hb) rn108
theorem o_gtr_SS (htab : Tab w) (ha : VS ka na sa) (hb : VS kb nb sb) : Says (bytesV [62]) ka na sa kb nb sb w := by
  exact fin_run (Y := (syL [ka, na, kb, nb, 0, 0, 0, 0, 0] [sa, sb])) htab (fun _ h => orcs_nil h) k4_ok sNew_ok (isS_str (b := [62]) rfl) (aS_ok (Y := (syL [ka, na, kb, nb, 0, 0, 0, 0, 0] [sa, sb])) (j := 0) rfl ha) (aS_ok (Y := (syL [ka, na, kb, nb, 0, 0, 0, 0, 0] [sa, sb])) (j := 1) rfl hb) rn109
theorem o_gtr_PS (htab : Tab w) (ha : VG ka na sa kx nx) (ta : ka ≠ 5) (hb : VS kb nb sb) : Says (bytesV [62]) ka na sa kb nb sb w := by
  exact fin_run (Y := (syL [ka, na, kb, nb, kx, nx, 0, 0, 0] [sa, sb])) htab (fun _ h => orcs_nil h) (KnownOk.append k4_ok (knV_ok (j := 0) (aP_ok (Y := (syL [ka, na, kb, nb, kx, nx, 0, 0, 0] [sa, sb])) (j := 0) rfl rfl ha ta) rfl rfl ha)) sNew_ok (isS_str (b := [62]) rfl) (aP_ok (Y := (syL [ka, na, kb, nb, kx, nx, 0, 0, 0] [sa, sb])) (j := 0) rfl rfl ha ta) (aS_ok (Y := (syL [ka, na, kb, nb, kx, nx, 0, 0, 0] [sa, sb])) (j := 1) rfl hb) rn110
theorem o_gtr_TS (htab : Tab w) (ha : VG 5 na sa kx nx) (hb : VS kb nb sb) : Says (bytesV [62]) 5 na sa kb nb sb w := by
  exact fin_run (Y := (syL [5, na, kb, nb, kx, nx, 0, 0, 0] [sa, sb])) htab (fun _ h => orcs_nil h) (KnownOk.append k4_ok (knV_ok (j := 0) (aT_ok (Y := (syL [5, na, kb, nb, kx, nx, 0, 0, 0] [sa, sb])) (j := 0) rfl rfl ha) rfl rfl ha)) sNew_ok (isS_str (b := [62]) rfl) (aT_ok (Y := (syL [5, na, kb, nb, kx, nx, 0, 0, 0] [sa, sb])) (j := 0) rfl rfl ha) (aS_ok (Y := (syL [5, na, kb, nb, kx, nx, 0, 0, 0] [sa, sb])) (j := 1) rfl hb) rn111
theorem o_gtr (htab : Tab w) (ha : VG ka na sa kx nx ∨ VS ka na sa) (hb : VG kb nb sb ky ny ∨ VS kb nb sb) : Says (bytesV [62]) ka na sa kb nb sb w := by
  rcases ha with ha | ha
  · by_cases ta : ka = 5
    · subst ta
      rcases hb with hb | hb
      · by_cases tb : kb = 5
        · subst tb
          exact o_gtr_TT htab ha hb
        · exact o_gtr_TP htab ha hb tb
      · exact o_gtr_TS htab ha hb
    · rcases hb with hb | hb
      · by_cases tb : kb = 5
        · subst tb
          exact o_gtr_PT htab ha ta hb
        · exact o_gtr_PP htab ha ta hb tb
      · exact o_gtr_PS htab ha ta hb
  · rcases hb with hb | hb
    · exact o_gtr_SG htab ha hb
    · exact o_gtr_SS htab ha hb
theorem o_leq_PP (htab : Tab w) (ha : VG ka na sa kx nx) (ta : ka ≠ 5) (hb : VG kb nb sb ky ny) (tb : kb ≠ 5) : Says (bytesV [60, 61]) ka na sa kb nb sb w := by
  obtain ⟨kv, nv, v1, v2, v3, v4, hv⟩ := leq_any ha.num hb.num
  exact fin_run (Y := (syL [ka, na, kb, nb, kx, nx, ky, ny, kv, nv] [sa, sb])) htab (fun _ h => orcs_nil h) (KnownOk.append (KnownOk.append (KnownOk.append k4_ok (knV_ok (j := 0) (aP_ok (Y := (syL [ka, na, kb, nb, kx, nx, ky, ny, kv, nv] [sa, sb])) (j := 0) rfl rfl ha ta) rfl rfl ha)) (knV_ok (j := 1) (aP_ok (Y := (syL [ka, na, kb, nb, kx, nx, ky, ny, kv, nv] [sa, sb])) (j := 1) rfl rfl hb tb) rfl rfl hb)) (KnownOk.cons (hasG36 _) (gOf hv (concs3 (isS_str rfl) (xA_ok (j := 0) rfl rfl ha.num) (xA_ok (j := 1) rfl rfl hb.num)) (rA_ok (Y := (syL [ka, na, kb, nb, kx, nx, ky, ny, kv, nv] [sa, sb])) (i := 8) rfl rfl v1 v2 v3 v4 _)) KnownOk.nil)) sNew_ok (isS_str (b := [60, 61]) rfl) (aP_ok (Y := (syL [ka, na, kb, nb, kx, nx, ky, ny, kv, nv] [sa, sb])) (j := 0) rfl rfl ha ta) (aP_ok (Y := (syL [ka, na, kb, nb, kx, nx, ky, ny, kv, nv] [sa, sb])) (j := 1) rfl rfl hb tb) rn112
theorem o_leq_PT (htab : Tab w) (ha : VG ka na sa kx nx) (ta : ka ≠ 5) (hb : VG 5 nb sb ky ny) : Says (bytesV [60, 61]) ka na sa 5 nb sb w := by
  obtain ⟨kv, nv, v1, v2, v3, v4, hv⟩ := leq_any ha.num hb.num
  exact fin_run (Y := (syL [ka, na, 5, nb, kx, nx, ky, ny, kv, nv] [sa, sb])) htab (fun _ h => orcs_nil h) (KnownOk.append (KnownOk.append (KnownOk.append k4_ok (knV_ok (j := 0) (aP_ok (Y := (syL [ka, na, 5, nb, kx, nx, ky, ny, kv, nv] [sa, sb])) (j := 0) rfl rfl ha ta) rfl rfl ha)) (knV_ok (j := 1) (aT_ok (Y := (syL [ka, na, 5, nb, kx, nx, ky, ny, kv, nv] [sa, sb])) (j := 1) rfl rfl hb) rfl rfl hb)) (KnownOk.cons (hasG36 _) (gOf hv (concs3 (isS_str rfl) (xA_ok (j := 0) rfl rfl ha.num) (xA_ok (j := 1) rfl rfl hb.num)) (rA_ok (Y := (syL [ka, na, 5, nb, kx, nx, ky, ny, kv, nv] [sa, sb])) (i := 8) rfl rfl v1 v2 v3 v4 _)) KnownOk.nil)) sNew_ok (isS_str (b := [60, 61]) rfl) (aP_ok (Y := (syL [ka, na, 5, nb, kx, nx, ky, ny, kv, nv] [sa, sb])) (j := 0) rfl rfl ha ta) (aT_ok (Y := (syL [ka, na, 5, nb, kx, nx, ky, ny, kv, nv] [sa, sb])) (j := 1) rfl rfl hb) rn113
theorem o_leq_TP (htab : Tab w) (ha : VG 5 na sa kx nx) (hb : VG kb nb sb ky ny) (tb : kb ≠ 5) : Says (bytesV [60, 61]) 5 na sa kb nb sb w := by
  obtain ⟨kv, nv, v1, v2, v3, v4, hv⟩ := leq_any ha.num hb.num
  exact fin_run (Y := (syL [5, na, kb, nb, kx, nx, ky, ny, kv, nv] [sa, sb])) htab (fun _ h => orcs_nil h) (KnownOk.append (KnownOk.append (KnownOk.append k4_ok (knV_ok (j := 0) (aT_ok (Y := (syL [5, na, kb, nb, kx, nx, ky, ny, kv, nv] [sa, sb])) (j := 0) rfl rfl ha) rfl rfl ha)) (knV_ok (j := 1) (aP_ok (Y := (syL [5, na, kb, nb, kx, nx, ky, ny, kv, nv] [sa, sb])) (j := 1) rfl rfl hb tb) rfl rfl hb)) (KnownOk.cons (hasG36 _) (gOf hv (concs3 (isS_str rfl) (xA_ok (j := 0) rfl rfl ha.num) (xA_ok (j := 1) rfl rfl hb.num)) (rA_ok (Y := (syL [5, na, kb, nb, kx, nx, ky, ny, kv, nv] [sa, sb])) (i := 8) rfl rfl v1 v2 v3 v4 _)) KnownOk.nil)) sNew_ok (isS_str (b := [60, 61]) rfl) (aT_ok (Y := (syL [5, na, kb, nb, kx, nx, ky, ny, kv, nv] [sa, sb])) (j := 0) rfl rfl ha) (aP_ok (Y := (syL [5, na, kb, nb, kx, nx, ky, ny, kv, nv] [sa, sb])) (j := 1) rfl rfl hb tb) rn114
theorem o_leq_TT (htab : Tab w) (ha : VG 5 na sa kx nx) (hb : VG 5 nb sb ky ny) : Says (bytesV [60, 61]) 5 na sa 5 nb sb w := by
  have hc := compare_ret sa sb
  rcases cmp_in sa.data.toList sb.data.toList with hq | hq | hq
  · have e : cmpW sa sb = (-1) := hq
    rw [e] at hc
    exact fin_run (Y := (syL [5, na, 5, nb, kx, nx, ky, ny, 0] [sa, sb])) htab (fun _ h => orcs_nil h) (KnownOk.append (KnownOk.append (KnownOk.append k4_ok (knV_ok (j := 0) (aT_ok (Y := (syL [5, na, 5, nb, kx, nx, ky, ny, 0] [sa, sb])) (j := 0) rfl rfl ha) rfl rfl ha)) (knV_ok (j := 1) (aT_ok (Y := (syL [5, na, 5, nb, kx, nx, ky, ny, 0] [sa, sb])) (j := 1) rfl rfl hb) rfl rfl hb)) (KnownOk.cons (hasG34 _) (gOf hc (concs2 (isS_sym (Y := (syL [5, na, 5, nb, kx, nx, ky, ny, 0] [sa, sb])) (i := 0) (s := sa) rfl (Nat.zero_le _) ha.size.2 rfl) (isS_sym (Y := (syL [5, na, 5, nb, kx, nx, ky, ny, 0] [sa, sb])) (i := 1) (s := sb) rfl (Nat.zero_le _) hb.size.2 rfl)) rfl) KnownOk.nil)) sNew_ok (isS_str (b := [60, 61]) rfl) (aT_ok (Y := (syL [5, na, 5, nb, kx, nx, ky, ny, 0] [sa, sb])) (j := 0) rfl rfl ha) (aT_ok (Y := (syL [5, na, 5, nb, kx, nx, ky, ny, 0] [sa, sb])) (j := 1) rfl rfl hb) rn115
  · have e : cmpW sa sb = 0 := hq
    rw [e] at hc
    exact fin_run (Y := (syL [5, na, 5, nb, kx, nx, ky, ny, 0] [sa, sb])) htab (fun _ h => orcs_nil h) (KnownOk.append (KnownOk.append (KnownOk.append k4_ok (knV_ok (j := 0) (aT_ok (Y := (syL [5, na, 5, nb, kx, nx, ky, ny, 0] [sa, sb])) (j := 0) rfl rfl ha) rfl rfl ha)) (knV_ok (j := 1) (aT_ok (Y := (syL [5, na, 5, nb, kx, nx, ky, ny, 0] [sa, sb])) (j := 1) rfl rfl hb) rfl rfl hb)) (KnownOk.cons (hasG34 _) (gOf hc (concs2 (isS_sym (Y := (syL [5, na, 5, nb, kx, nx, ky, ny, 0] [sa, sb])) (i := 0) (s := sa) rfl (Nat.zero_le _) ha.size.2 rfl) (isS_sym (Y := (syL [5, na, 5, nb, kx, nx, ky, ny, 0] [sa, sb])) (i := 1) (s := sb) rfl (Nat.zero_le _) hb.size.2 rfl)) rfl) KnownOk.nil)) sNew_ok (isS_str (b := [60, 61]) rfl) (aT_ok (Y := (syL [5, na, 5, nb, kx, nx, ky, ny, 0] [sa, sb])) (j := 0) rfl rfl ha) (aT_ok (Y := (syL [5, na, 5, nb, kx, nx, ky, ny, 0] [sa, sb])) (j := 1) rfl rfl hb) rn116
  · have e : cmpW sa sb = 1 := hq
    rw [e] at hc
    exact fin_run (Y := (syL [5, na, 5, nb, kx, nx, ky, ny, 0] [sa, sb])) htab (fun _ h => orcs_nil h) (KnownOk.append (KnownOk.append (KnownOk.append k4_ok (knV_ok (j := 0) (aT_ok (Y := (syL [5, na, 5, nb, kx, nx, ky, ny, 0] [sa, sb])) (j := 0) rfl rfl ha) rfl rfl ha)) (knV_ok (j := 1) (aT_ok (Y := (syL [5, na, 5, nb, kx, nx, ky, ny, 0] [sa, sb])) (j := 1) rfl rfl hb) rfl rfl hb)) (KnownOk.cons (hasG34 _) (gOf hc (concs2 (isS_sym (Y := (syL [5, na, 5, nb, kx, nx, ky, ny, 0] [sa, sb])) (i := 0) (s := sa) rfl (Nat.zero_le _) ha.size.2 rfl) (isS_sym (Y := (syL [5, na, 5, nb, kx, nx, ky, ny, 0] [sa, sb])) (i := 1) (s := sb) rfl (Nat.zero_le _) hb.size.2 rfl)) rfl) KnownOk.nil)) sNew_ok (isS_str (b := [60, 61]) rfl) (aT_ok (Y := (syL [5, na, 5, nb, kx, nx, ky, ny, 0] [sa, sb])) (j := 0) rfl rfl ha) (aT_ok (Y := (syL [5, na, 5, nb, kx, nx, ky, ny, 0] [sa, sb])) (j := 1) rfl rfl hb) rn117
theorem o_leq_SG (htab : Tab w) (ha : VS ka na sa) (hb : VG kb nb sb ky ny) : Says (bytesV [60, 61]) ka na sa kb nb sb w := by
  exact fin_run (Y := (syL [ka, na, kb, nb, 0, 0, ky, ny, 0] [sa, sb])) htab (fun _ h => orcs_nil h) (KnownOk.append k4_ok (knV_ok (j := 1) (aG_ok (Y := (syL [ka, na, kb, nb, 0, 0, ky, ny, 0] [sa, sb])) (j := 1) rfl rfl rfl rfl hb) rfl rfl hb)) sNew_ok (isS_str (b := [60, 61]) rfl) (aS_ok (Y := (syL [ka, na, kb, nb, 0, 0, ky, ny, 0] [sa, sb])) (j := 0) rfl ha) (aG_ok (Y := (syL [ka, na, kb, nb, 0, 0, ky, ny, 0] [sa, sb])) (j := 1) rfl rfl rfl rfl hb) rn118
theorem o_leq_SS (htab : Tab w) (ha : VS ka na sa) (hb : VS kb nb sb) : Says (bytesV [60, 61]) ka na sa kb nb sb w := by
  exact fin_run (Y := (syL [ka, na, kb, nb, 0, 0, 0, 0, 0] [sa, sb])) htab (fun _ h => orcs_nil h) k4_ok sNew_ok (isS_str (b := [60, 61]) rfl) (aS_ok (Y := (syL [ka, na, kb, nb, 0, 0, 0, 0, 0] [sa, sb])) (j := 0) rfl ha) (aS_ok (Y := (syL [ka, na, kb, nb, 0, 0, 0, 0, 0] [sa, sb])) (j := 1) rfl hb) rn119
theorem o_leq_PS (htab : Tab w) (ha : VG ka na sa kx nx) (ta : ka ≠ 5) (hb : VS kb nb sb) : Says (bytesV [60, 61]) ka na sa kb nb sb w := by
  exact fin_run (Y := (syL [ka, na, kb, nb, kx, nx, 0, 0, 0] [sa, sb])) htab (fun _ h => orcs_nil h) (KnownOk.append k4_ok (knV_ok (j := 0) (aP_ok (Y := (syL [ka, na, kb, nb, kx, nx, 0, 0, 0] [sa, sb])) (j := 0) rfl rfl ha ta) rfl rfl ha)) sNew_ok (isS_str (b := [60, 61]) rfl) (aP_ok (Y := (syL [ka, na, kb, nb, kx, nx, 0, 0, 0] [sa, sb])) (j := 0) rfl rfl ha ta) (aS_ok (Y := (syL [ka, na, kb, nb, kx, nx, 0, 0, 0] [sa, sb])) (j := 1) rfl hb) rn120
theorem o_leq_TS (htab : Tab w) (ha : VG 5 na sa kx nx) (hb : VS kb nb sb) : Says (bytesV [60, 61]) 5 na sa kb nb sb w := by
  exact fin_run (Y := (syL [5, na, kb, nb, kx, nx, 0, 0, 0] [sa, sb])) htab (fun _ h => orcs_nil h) (KnownOk.append k4_ok (knV_ok (j := 0) (aT_ok (Y := (syL [5, na, kb, nb, kx, nx, 0, 0, 0] [sa, sb])) (j := 0) rfl rfl ha) rfl rfl ha)) sNew_ok (isS_str (b := [60, 61]) rfl) (aT_ok (Y := (syL [5, na, kb, nb, kx, nx, 0, 0, 0] [sa, sb])) (j := 0) rfl rfl ha) (aS_ok (Y := (syL [5, na, kb, nb, kx, nx, 0, 0, 0] [sa, sb])) (j := 1) rfl hb) rn121
theorem o_leq (htab : Tab w) (ha : VG ka na sa kx nx ∨ VS ka na sa) (hb : VG kb nb sb ky ny ∨ VS kb nb sb) : Says (bytesV [60, 61]) ka na sa kb nb sb w := by
  rcases ha with ha | ha
  · by_cases ta : ka = 5
    · subst ta
      rcases hb with hb | hb
      · by_cases tb : kb = 5
        · subst tb
          exact o_leq_TT htab ha hb
        · exact o_leq_TP htab ha hb tb
      · exact o_leq_TS htab ha hb
    · rcases hb with hb | hb
      · by_cases tb : kb = 5
        · subst tb
          exact o_leq_PT htab ha ta hb
        · exact o_leq_PP htab ha ta hb tb
      · exact o_leq_PS htab ha ta hb
  · rcases hb with hb | hb
    · exact o_leq_SG htab ha hb
    · exact o_leq_SS htab ha hb
theorem o_geq_PP (htab : Tab w) (ha : VG ka na sa kx nx) (ta : ka ≠ 5) (hb : VG kb nb sb ky ny) (tb : kb ≠ 5) : Says (bytesV [62, 61]) ka na sa kb nb sb w := by
  obtain ⟨kv, nv, v1, v2, v3, v4, hv⟩ := geq_any ha.num hb.num
  exact fin_run (Y := (syL [ka, na, kb, nb, kx, nx, ky, ny, kv, nv] [sa, sb])) htab (fun _ h => orcs_nil h) (KnownOk.append (KnownOk.append (KnownOk.append k4_ok (knV_ok (j := 0) (aP_ok (Y := (syL [ka, na, kb, nb, kx, nx, ky, ny, kv, nv] [sa, sb])) (j := 0) rfl rfl ha ta) rfl rfl ha)) (knV_ok (j := 1) (aP_ok (Y := (syL [ka, na, kb, nb, kx, nx, ky, ny, kv, nv] [sa, sb])) (j := 1) rfl rfl hb tb) rfl rfl hb)) (KnownOk.cons (hasG36 _) (gOf hv (concs3 (isS_str rfl) (xA_ok (j := 0) rfl rfl ha.num) (xA_ok (j := 1) rfl rfl hb.num)) (rA_ok (Y := (syL [ka, na, kb, nb, kx, nx, ky, ny, kv, nv] [sa, sb])) (i := 8) rfl rfl v1 v2 v3 v4 _)) KnownOk.nil)) sNew_ok (isS_str (b := [62, 61]) rfl) (aP_ok (Y := (syL [ka, na, kb, nb, kx, nx, ky, ny, kv, nv] [sa, sb])) (j := 0) rfl rfl ha ta) (aP_ok (Y := (syL [ka, na, kb, nb, kx, nx, ky, ny, kv, nv] [sa, sb])) (j := 1) rfl rfl hb tb) rn122
theorem o_geq_PT (htab : Tab w) (ha : VG ka na sa kx nx) (ta : ka ≠ 5) (hb : VG 5 nb sb ky ny) : Says (bytesV [62, 61]) ka na sa 5 nb sb w := by
  obtain ⟨kv, nv, v1, v2, v3, v4, hv⟩ := geq_any ha.num hb.num
  exact fin_run (Y := (syL [ka, na, 5, nb, kx, nx, ky, ny, kv, nv] [sa, sb])) htab (fun _ h => orcs_nil h) (KnownOk.append (KnownOk.append (KnownOk.append k4_ok (knV_ok (j := 0) (aP_ok (Y := (syL [ka, na, 5, nb, kx, nx, ky, ny, kv, nv] [sa, sb])) (j := 0) rfl rfl ha ta) rfl rfl ha)) (knV_ok (j := 1) (aT_ok (Y := (syL [ka, na, 5, nb, kx, nx, ky, ny, kv, nv] [sa, sb])) (j := 1) rfl rfl hb) rfl rfl hb)) (KnownOk.cons (hasG36 _) (gOf hv (concs3 (isS_str rfl) (xA_ok (j := 0) rfl rfl ha.num) (xA_ok (j := 1) rfl rfl hb.num)) (rA_ok (Y := (syL [ka, na, 5, nb, kx, nx, ky, ny, kv, nv] [sa, sb])) (i := 8) rfl rfl v1 v2 v3 v4 _)) KnownOk.nil)) sNew_ok (isS_str (b := [62, 61]) rfl) (aP_ok (Y := (syL [ka, na, 5, nb, kx, nx, ky, ny, kv, nv] [sa, sb])) (j := 0) rfl rfl ha ta) (aT_ok (Y := (syL [ka, na, 5, nb, kx, nx, ky, ny, kv, nv] [sa, sb])) (j := 1) rfl rfl hb) rn123
theorem o_geq_TP (htab : Tab w) (ha : VG 5 na sa kx nx) (hb : VG kb nb sb ky ny) (tb : kb ≠ 5) : Says (bytesV [62, 61]) 5 na sa kb nb sb w := by
  obtain ⟨kv, nv, v1, v2, v3, v4, hv⟩ := geq_any ha.num hb.num
  exact fin_run (Y := (syL [5, na, kb, nb, kx, nx, ky, ny, kv, nv] [sa, sb])) htab (fun _ h => orcs_nil h) (KnownOk.append (KnownOk.append (KnownOk.append k4_ok (knV_ok (j := 0) (aT_ok (Y := (syL [5, na, kb, nb, kx, nx, ky, ny, kv, nv] [sa, sb])) (j := 0) rfl rfl ha) rfl rfl ha)) (knV_ok (j := 1) (aP_ok (Y := (syL [5, na, kb, nb, kx, nx, ky, ny, kv, nv] [sa, sb])) (j := 1) rfl rfl hb tb) rfl rfl hb)) (KnownOk.cons (hasG36 _) (gOf hv (concs3 (isS_str rfl) (xA_ok (j := 0) rfl rfl ha.num) (xA_ok (j := 1) rfl rfl hb.num)) (rA_ok (Y := (syL [5, na, kb, nb, kx, nx, ky, ny, kv, nv] [sa, sb])) (i := 8) rfl rfl v1 v2 v3 v4 _)) KnownOk.nil)) sNew_ok (isS_str (b := [62, 61]) rfl) (aT_ok (Y := (syL [5, na, kb, nb, kx, nx, ky, ny, kv, nv] [sa, sb])) (j := 0) rfl rfl ha) (aP_ok (Y := (syL [5, na, kb, nb, kx, nx, ky, ny, kv, nv] [sa, sb])) (j := 1) rfl rfl hb tb) rn124
theorem o_geq_TT (htab : Tab w) (ha : VG 5 na sa kx nx) (hb : VG 5 nb sb ky ny) : Says (bytesV [62, 61]) 5 na sa 5 nb sb w := by
  have hc := compare_ret sa sb
  rcases cmp_in sa.data.toList sb.data.toList with hq | hq | hq
  · have e : cmpW sa sb = (-1) := hq
    rw [e] at hc
    exact fin_run (Y := (syL [5, na, 5, nb, kx, nx, ky, ny, 0] [sa, sb])) htab (fun _ h => orcs_nil h) (KnownOk.append (KnownOk.append (KnownOk.append k4_ok (knV_ok (j := 0) (aT_ok (Y := (syL [5, na, 5, nb, kx, nx, ky, ny, 0] [sa, sb])) (j := 0) rfl rfl ha) rfl rfl ha)) (knV_ok (j := 1) (aT_ok (Y := (syL [5, na, 5, nb, kx, nx, ky, ny, 0] [sa, sb])) (j := 1) rfl rfl hb) rfl rfl hb)) (KnownOk.cons (hasG34 _) (gOf hc (concs2 (isS_sym (Y := (syL [5, na, 5, nb, kx, nx, ky, ny, 0] [sa, sb])) (i := 0) (s := sa) rfl (Nat.zero_le _) ha.size.2 rfl) (isS_sym (Y := (syL [5, na, 5, nb, kx, nx, ky, ny, 0] [sa, sb])) (i := 1) (s := sb) rfl (Nat.zero_le _) hb.size.2 rfl)) rfl) KnownOk.nil)) sNew_ok (isS_str (b := [62, 61]) rfl) (aT_ok (Y := (syL [5, na, 5, nb, kx, nx, ky, ny, 0] [sa, sb])) (j := 0) rfl rfl ha) (aT_ok (Y := (syL [5, na, 5, nb, kx, nx, ky, ny, 0] [sa, sb])) (j := 1) rfl rfl hb) rn125
  · have e : cmpW sa sb = 0 := hq
    rw [e] at hc
    exact fin_run (Y := (syL [5, na, 5, nb, kx, nx, ky, ny, 0] [sa, sb])) htab (fun _ h => orcs_nil h) (KnownOk.append (KnownOk.append (KnownOk.append k4_ok (knV_ok (j := 0) (aT_ok (Y := (syL [5, na, 5, nb, kx, nx, ky, ny, 0] [sa, sb])) (j := 0) rfl rfl ha) rfl rfl ha)) (knV_ok (j := 1) (aT_ok (Y := (syL [5, na, 5, nb, kx, nx, ky, ny, 0] [sa, sb])) (j := 1) rfl rfl hb) rfl rfl hb)) (KnownOk.cons (hasG34 _) (gOf hc (concs2 (isS_sym (Y := (syL [5, na, 5, nb, kx, nx, ky, ny, 0] [sa, sb])) (i := 0) (s := sa) rfl (Nat.zero_le _) ha.size.2 rfl) (isS_sym (Y := (syL [5, na, 5, nb, kx, nx, ky, ny, 0] [sa, sb])) (i := 1) (s := sb) rfl (Nat.zero_le _) hb.size.2 rfl)) rfl) KnownOk.nil)) sNew_ok (isS_str (b := [62, 61]) rfl) (aT_ok (Y := (syL [5, na, 5, nb, kx, nx, ky, ny, 0] [sa, sb])) (j := 0) rfl rfl ha) (aT_ok (Y := (syL [5, na, 5, nb, kx, nx, ky, ny, 0] [sa, sb])) (j := 1) rfl rfl hb) rn126
  · have e : cmpW sa sb = 1 := hq
    rw [e] at hc
    exact fin_run (Y := (syL [5, na, 5, nb, kx, nx, ky, ny, 0] [sa, sb])) htab (fun _ h => orcs_nil h) (KnownOk.append (KnownOk.append (KnownOk.append k4_ok (knV_ok (j := 0) (aT_ok (Y := (syL [5, na, 5, nb, kx, nx, ky, ny, 0] [sa, sb])) (j := 0) rfl rfl ha) rfl rfl ha)) (knV_ok (j := 1) (aT_ok (Y := (syL [5, na, 5, nb, kx, nx, ky, ny, 0] [sa, sb])) (j := 1) rfl rfl hb) rfl rfl hb)) (KnownOk.cons (hasG34 _) (gOf hc (concs2 (isS_sym (Y := (syL [5, na, 5, nb, kx, nx, ky, ny, 0] [sa, sb])) (i := 0) (s := sa) rfl (Nat.zero_le _) ha.size.2 rfl) (isS_sym (Y := (syL [5, na, 5, nb, kx, nx, ky, ny, 0] [sa, sb])) (i := 1) (s := sb) rfl (Nat.zero_le _) hb.size.2 rfl)) rfl) KnownOk.nil)) sNew_ok (isS_str (b := [62, 61]) rfl) (aT_ok (Y := (syL [5, na, 5, nb, kx, nx, ky, ny, 0] [sa, sb])) (j := 0) rfl rfl ha) (aT_ok (Y := (syL [5, na, 5, nb, kx, nx, ky, ny, 0] [sa, sb])) (j := 1) rfl rfl hb) rn127
theorem o_geq_SG (htab : Tab w) (ha : VS ka na sa) (hb : VG kb nb sb ky ny) : Says (bytesV [62, 61]) ka na sa kb nb sb w := by
  exact fin_run (Y := (syL [ka, na, kb, nb, 0, 0, ky, ny, 0] [sa, sb])) htab (fun _ h => orcs_nil h) (KnownOk.append k4_ok (knV_ok (j := 1) (aG_ok (Y := (syL [ka, na, kb, nb, 0, 0, ky, ny, 0] [sa, sb])) (j := 1) rfl rfl rfl rfl hb) rfl rfl hb)) sNew_ok (isS_str (b := [62, 61]) rfl) (aS_ok (Y := (syL [ka, na, kb, nb, 0, 0, ky, ny, 0] [sa, sb])) (j := 0) rfl ha) (aG_ok (Y := (syL [ka, na, kb, nb, 0, 0, ky, ny, 0] [sa, sb])) (j := 1) rfl rfl rfl rfl hb) rn128
theorem o_geq_SS (htab : Tab w) (ha : VS ka na sa) (hb : VS kb nb sb) : Says (bytesV [62, 61]) ka na sa kb nb sb w := by
  exact fin_run (Y := (syL [ka, na, kb, nb, 0, 0, 0, 0, 0] [sa, sb])) htab (fun _ h => orcs_nil h) k4_ok sNew_ok (isS_str (b := [62, 61]) rfl) (aS_ok (Y := (syL [ka, na, kb, nb, 0, 0, 0, 0, 0] [sa, sb])) (j := 0) rfl ha) (aS_ok (Y := (syL [ka, na, kb, nb, 0, 0, 0, 0, 0] [sa, sb])) (j := 1) rfl hb) rn129
theorem o_geq_PS (htab : Tab w) (ha : VG ka na sa kx nx) (ta : ka ≠ 5) (hb : VS kb nb sb) : Says (bytesV [62, 61]) ka na sa kb nb sb w := by
  exact fin_run (Y := (syL [ka, na, kb, nb, kx, nx, 0, 0, 0] [sa, sb])) htab (fun _ h => orcs_nil h) (KnownOk.append k4_ok (knV_ok (j := 0) (aP_ok (Y := (syL [ka, na, kb, nb, kx, nx, 0, 0, 0] [sa, sb])) (j := 0) rfl rfl ha ta) rfl rfl ha)) sNew_ok (isS_str (b := [62, 61]) rfl) (aP_ok (Y := (syL [ka, na, kb, nb, kx, nx, 0, 0, 0] [sa, sb])) (j := 0) rfl rfl ha ta) (aS_ok (Y := (syL [ka, na, kb, nb, kx, nx, 0, 0, 0] [sa, sb])) (j := 1) rfl hb) rn130
theorem o_geq_TS (htab : Tab w) (ha : VG 5 na sa kx nx) (hb : VS kb nb sb) : Says (bytesV [62, 61]) 5 na sa kb nb sb w := by
  exact fin_run (Y := (syL [5, na, kb, nb, kx, nx, 0, 0, 0] [sa, sb])) htab (fun _ h => orcs_nil h) (KnownOk.append k4_ok (knV_ok (j := 0) (aT_ok (Y := (syL [5, na, kb, nb, kx, nx, 0, 0, 0] [sa, sb])) (j := 0) rfl rfl ha) rfl rfl ha)) sNew_ok (isS_str (b := [62, 61]) rfl) (aT_ok (Y := (syL [5, na, kb, nb, kx, nx, 0, 0, 0] [sa, sb])) (j := 0) rfl rfl ha) (aS_ok (Y := (syL [5, na, kb, nb, kx, nx, 0, 0, 0] [sa, sb])) (j := 1) rfl hb) rn131
theorem o_geq (htab : Tab w) (ha : VG ka na sa kx nx ∨ VS ka na sa) (hb : VG kb nb sb ky ny ∨ VS kb nb sb) : Says (bytesV [62, 61]) ka na sa kb nb sb w := by
  rcases ha with ha | ha
  · by_cases ta : ka = 5
    · subst ta
      rcases hb with hb | hb
      · by_cases tb : kb = 5
        · subst tb
          exact o_geq_TT htab ha hb
        · exact o_geq_TP htab ha hb tb
      · exact o_geq_TS htab ha hb
    · rcases hb with hb | hb
      · by_cases tb : kb = 5
        · subst tb
          exact o_geq_PT htab ha ta hb
        · exact o_geq_PP htab ha ta hb tb
      · exact o_geq_PS htab ha ta hb
  · rcases hb with hb | hb
    · exact o_geq_SG htab ha hb
    · exact o_geq_SS htab ha hb
theorem o_add_PP (htab : Tab w) (ha : VG ka na sa kx nx) (ta : ka ≠ 5) (hb : VG kb nb sb ky ny) (tb : kb ≠ 5) : Says (bytesV [43]) ka na sa kb nb sb w := by
  obtain ⟨kv, nv, v1, v2, v3, v4, hv⟩ := add_any ha.num hb.num
  exact fin_run (Y := (syL [ka, na, kb, nb, kx, nx, ky, ny, kv, nv] [sa, sb])) htab (fun _ h => orcs_nil h) (KnownOk.append (KnownOk.append (KnownOk.append k4_ok (knV_ok (j := 0) (aP_ok (Y := (syL [ka, na, kb, nb, kx, nx, ky, ny, kv, nv] [sa, sb])) (j := 0) rfl rfl ha ta) rfl rfl ha)) (knV_ok (j := 1) (aP_ok (Y := (syL [ka, na, kb, nb, kx, nx, ky, ny, kv, nv] [sa, sb])) (j := 1) rfl rfl hb tb) rfl rfl hb)) (KnownOk.cons (hasG36 _) (gOf hv (concs3 (isS_str rfl) (xA_ok (j := 0) rfl rfl ha.num) (xA_ok (j := 1) rfl rfl hb.num)) (rA_ok (Y := (syL [ka, na, kb, nb, kx, nx, ky, ny, kv, nv] [sa, sb])) (i := 8) rfl rfl v1 v2 v3 v4 _)) KnownOk.nil)) sNew_ok (isS_str (b := [43]) rfl) (aP_ok (Y := (syL [ka, na, kb, nb, kx, nx, ky, ny, kv, nv] [sa, sb])) (j := 0) rfl rfl ha ta) (aP_ok (Y := (syL [ka, na, kb, nb, kx, nx, ky, ny, kv, nv] [sa, sb])) (j := 1) rfl rfl hb tb) rn132
theorem o_add_SP (htab : Tab w) (ha : VS ka na sa) (hb : VG kb nb sb ky ny) (tb : kb ≠ 5) : Says (bytesV [43]) ka na sa kb nb sb w := by
  exact fin_run (Y := (syL [ka, na, kb, nb, 0, 0, ky, ny, 0] [sa, sb])) htab (fun _ h => orcs_nil h) (KnownOk.append k4_ok (knV_ok (j := 1) (aP_ok (Y := (syL [ka, na, kb, nb, 0, 0, ky, ny, 0] [sa, sb])) (j := 1) rfl rfl hb tb) rfl rfl hb)) sNew_ok (isS_str (b := [43]) rfl) (aS_ok (Y := (syL [ka, na, kb, nb, 0, 0, ky, ny, 0] [sa, sb])) (j := 0) rfl ha) (aP_ok (Y := (syL [ka, na, kb, nb, 0, 0, ky, ny, 0] [sa, sb])) (j := 1) rfl rfl hb tb) rn133
theorem o_add_ST (htab : Tab w) (ha : VS ka na sa) (hb : VG 5 nb sb ky ny) : Says (bytesV [43]) ka na sa 5 nb sb w := by
  exact fin_run (Y := (syL [ka, na, 5, nb, 0, 0, ky, ny, 0] [sa, sb])) htab (fun _ h => orcs_nil h) (KnownOk.append k4_ok (knV_ok (j := 1) (aT_ok (Y := (syL [ka, na, 5, nb, 0, 0, ky, ny, 0] [sa, sb])) (j := 1) rfl rfl hb) rfl rfl hb)) sNew_ok (isS_str (b := [43]) rfl) (aS_ok (Y := (syL [ka, na, 5, nb, 0, 0, ky, ny, 0] [sa, sb])) (j := 0) rfl ha) (aT_ok (Y := (syL [ka, na, 5, nb, 0, 0, ky, ny, 0] [sa, sb])) (j := 1) rfl rfl hb) rn134
theorem o_add_SS (htab : Tab w) (ha : VS ka na sa) (hb : VS kb nb sb) : Says (bytesV [43]) ka na sa kb nb sb w := by
  exact fin_run (Y := (syL [ka, na, kb, nb, 0, 0, 0, 0, 0] [sa, sb])) htab (fun _ h => orcs_nil h) k4_ok sNew_ok (isS_str (b := [43]) rfl) (aS_ok (Y := (syL [ka, na, kb, nb, 0, 0, 0, 0, 0] [sa, sb])) (j := 0) rfl ha) (aS_ok (Y := (syL [ka, na, kb, nb, 0, 0, 0, 0, 0] [sa, sb])) (j := 1) rfl hb) rn135
theorem o_add_PS (htab : Tab w) (ha : VG ka na sa kx nx) (ta : ka ≠ 5) (hb : VS kb nb sb) : Says (bytesV [43]) ka na sa kb nb sb w := by
  exact fin_run (Y := (syL [ka, na, kb, nb, kx, nx, 0, 0, 0] [sa, sb])) htab (fun _ h => orcs_nil h) (KnownOk.append k4_ok (knV_ok (j := 0) (aP_ok (Y := (syL [ka, na, kb, nb, kx, nx, 0, 0, 0] [sa, sb])) (j := 0) rfl rfl ha ta) rfl rfl ha)) sNew_ok (isS_str (b := [43]) rfl) (aP_ok (Y := (syL [ka, na, kb, nb, kx, nx, 0, 0, 0] [sa, sb])) (j := 0) rfl rfl ha ta) (aS_ok (Y := (syL [ka, na, kb, nb, kx, nx, 0, 0, 0] [sa, sb])) (j := 1) rfl hb) rn136
theorem o_add_TS (htab : Tab w) (ha : VG 5 na sa kx nx) (hb : VS kb nb sb) : Says (bytesV [43]) 5 na sa kb nb sb w := by
  exact fin_run (Y := (syL [5, na, kb, nb, kx, nx, 0, 0, 0] [sa, sb])) htab (fun _ h => orcs_nil h) (KnownOk.append k4_ok (knV_ok (j := 0) (aT_ok (Y := (syL [5, na, kb, nb, kx, nx, 0, 0, 0] [sa, sb])) (j := 0) rfl rfl ha) rfl rfl ha)) sNew_ok (isS_str (b := [43]) rfl) (aT_ok (Y := (syL [5, na, kb, nb, kx, nx, 0, 0, 0] [sa, sb])) (j := 0) rfl rfl ha) (aS_ok (Y := (syL [5, na, kb, nb, kx, nx, 0, 0, 0] [sa, sb])) (j := 1) rfl hb) rn137
theorem o_add_TT (htab : Tab w) (ha : VG 5 na sa kx nx) (hb : VG 5 nb sb ky ny) : Says (bytesV [43]) 5 na sa 5 nb sb w := by
  exact fin_run (Y := (syL [5, na, 5, nb, kx, nx, ky, ny, 0] [sa, sb, sa ++ sb])) htab (orcs_cons (orc_cat (isS_sym (Y := (syL [5, na, 5, nb, kx, nx, ky, ny, 0] [sa, sb, sa ++ sb])) (i := 0) (s := sa) rfl (Nat.zero_le _) ha.size.2 rfl) (isS_sym (Y := (syL [5, na, 5, nb, kx, nx, ky, ny, 0] [sa, sb, sa ++ sb])) (i := 1) (s := sb) rfl (Nat.zero_le _) hb.size.2 rfl) (by have := ha.size.2; have := hb.size.2; omega) (isS_sym (i := 2) (s := sa ++ sb) rfl (Nat.zero_le _) (by rw [ByteArray.size_append]; have := ha.size.2; have := hb.size.2; omega) rfl)) (fun _ h => orcs_nil h)) (KnownOk.append (KnownOk.append k4_ok (knV_ok (j := 0) (aT_ok (Y := (syL [5, na, 5, nb, kx, nx, ky, ny, 0] [sa, sb, sa ++ sb])) (j := 0) rfl rfl ha) rfl rfl ha)) (knV_ok (j := 1) (aT_ok (Y := (syL [5, na, 5, nb, kx, nx, ky, ny, 0] [sa, sb, sa ++ sb])) (j := 1) rfl rfl hb) rfl rfl hb)) sNew_ok (isS_str (b := [43]) rfl) (aT_ok (Y := (syL [5, na, 5, nb, kx, nx, ky, ny, 0] [sa, sb, sa ++ sb])) (j := 0) rfl rfl ha) (aT_ok (Y := (syL [5, na, 5, nb, kx, nx, ky, ny, 0] [sa, sb, sa ++ sb])) (j := 1) rfl rfl hb) rn138
theorem o_add_TP (htab : Tab w) (ha : VG 5 na sa kx nx) (hb : VG kb nb sb ky ny) (tb : kb ≠ 5) : Says (bytesV [43]) 5 na sa kb nb sb w := by
  have ht := ha.size.2
  cases hb.pl with
  | u => exact fin_run (Y := (syL [5, na, 0, 0, kx, nx, ky, ny, 0] [sa, ByteArray.empty, sa ++ (bytesV [117, 110, 100, 101, 102, 105, 110, 101, 100])])) htab (orcs_cons (orc_cat (isS_sym (Y := (syL [5, na, 0, 0, kx, nx, ky, ny, 0] [sa, ByteArray.empty, sa ++ (bytesV [117, 110, 100, 101, 102, 105, 110, 101, 100])])) (i := 0) (s := sa) rfl (Nat.zero_le _) ha.size.2 rfl) (isS_str (b := [117, 110, 100, 101, 102, 105, 110, 101, 100]) rfl) (by have h20 : (bytesV [117, 110, 100, 101, 102, 105, 110, 101, 100]).size ≤ 20 := (by decide); omega) (isS_sym (i := 2) (s := sa ++ (bytesV [117, 110, 100, 101, 102, 105, 110, 101, 100])) rfl (Nat.zero_le _) (by rw [ByteArray.size_append]; have h20 : (bytesV [117, 110, 100, 101, 102, 105, 110, 101, 100]).size ≤ 20 := (by decide); omega) rfl)) (fun _ h => orcs_nil h)) (KnownOk.append (KnownOk.append k4_ok (knV_ok (Y := (syL [5, na, 0, 0, kx, nx, ky, ny, 0] [sa, ByteArray.empty, sa ++ (bytesV [117, 110, 100, 101, 102, 105, 110, 101, 100])])) (j := 0) (a := aT 0) (aT_ok (Y := (syL [5, na, 0, 0, kx, nx, ky, ny, 0] [sa, ByteArray.empty, sa ++ (bytesV [117, 110, 100, 101, 102, 105, 110, 101, 100])])) (j := 0) rfl rfl ha) rfl rfl ha)) (knV_ok (Y := (syL [5, na, 0, 0, kx, nx, ky, ny, 0] [sa, ByteArray.empty, sa ++ (bytesV [117, 110, 100, 101, 102, 105, 110, 101, 100])])) (j := 1) (a := aC 0 0) (fun _ => rfl) rfl rfl hb)) sNew_ok (isS_str (b := [43]) rfl) (aT_ok (Y := (syL [5, na, 0, 0, kx, nx, ky, ny, 0] [sa, ByteArray.empty, sa ++ (bytesV [117, 110, 100, 101, 102, 105, 110, 101, 100])])) (j := 0) rfl rfl ha) (fun _ => rfl) rn139
  | l => exact fin_run (Y := (syL [5, na, 1, 0, kx, nx, ky, ny, 0] [sa, ByteArray.empty, sa ++ (bytesV [110, 117, 108, 108])])) htab (orcs_cons (orc_cat (isS_sym (Y := (syL [5, na, 1, 0, kx, nx, ky, ny, 0] [sa, ByteArray.empty, sa ++ (bytesV [110, 117, 108, 108])])) (i := 0) (s := sa) rfl (Nat.zero_le _) ha.size.2 rfl) (isS_str (b := [110, 117, 108, 108]) rfl) (by have h20 : (bytesV [110, 117, 108, 108]).size ≤ 20 := (by decide); omega) (isS_sym (i := 2) (s := sa ++ (bytesV [110, 117, 108, 108])) rfl (Nat.zero_le _) (by rw [ByteArray.size_append]; have h20 : (bytesV [110, 117, 108, 108]).size ≤ 20 := (by decide); omega) rfl)) (fun _ h => orcs_nil h)) (KnownOk.append (KnownOk.append k4_ok (knV_ok (Y := (syL [5, na, 1, 0, kx, nx, ky, ny, 0] [sa, ByteArray.empty, sa ++ (bytesV [110, 117, 108, 108])])) (j := 0) (a := aT 0) (aT_ok (Y := (syL [5, na, 1, 0, kx, nx, ky, ny, 0] [sa, ByteArray.empty, sa ++ (bytesV [110, 117, 108, 108])])) (j := 0) rfl rfl ha) rfl rfl ha)) (knV_ok (Y := (syL [5, na, 1, 0, kx, nx, ky, ny, 0] [sa, ByteArray.empty, sa ++ (bytesV [110, 117, 108, 108])])) (j := 1) (a := aC 1 0) (fun _ => rfl) rfl rfl hb)) sNew_ok (isS_str (b := [43]) rfl) (aT_ok (Y := (syL [5, na, 1, 0, kx, nx, ky, ny, 0] [sa, ByteArray.empty, sa ++ (bytesV [110, 117, 108, 108])])) (j := 0) rfl rfl ha) (fun _ => rfl) rn140
  | b _ hm =>
    have : nb = 0 ∨ nb = 1 := by omega
    rcases this with rfl | rfl
    · exact fin_run (Y := (syL [5, na, 2, 0, kx, nx, ky, ny, 0] [sa, ByteArray.empty, sa ++ (bytesV [102, 97, 108, 115, 101])])) htab (orcs_cons (orc_cat (isS_sym (Y := (syL [5, na, 2, 0, kx, nx, ky, ny, 0] [sa, ByteArray.empty, sa ++ (bytesV [102, 97, 108, 115, 101])])) (i := 0) (s := sa) rfl (Nat.zero_le _) ha.size.2 rfl) (isS_str (b := [102, 97, 108, 115, 101]) rfl) (by have h20 : (bytesV [102, 97, 108, 115, 101]).size ≤ 20 := (by decide); omega) (isS_sym (i := 2) (s := sa ++ (bytesV [102, 97, 108, 115, 101])) rfl (Nat.zero_le _) (by rw [ByteArray.size_append]; have h20 : (bytesV [102, 97, 108, 115, 101]).size ≤ 20 := (by decide); omega) rfl)) (fun _ h => orcs_nil h)) (KnownOk.append (KnownOk.append k4_ok (knV_ok (Y := (syL [5, na, 2, 0, kx, nx, ky, ny, 0] [sa, ByteArray.empty, sa ++ (bytesV [102, 97, 108, 115, 101])])) (j := 0) (a := aT 0) (aT_ok (Y := (syL [5, na, 2, 0, kx, nx, ky, ny, 0] [sa, ByteArray.empty, sa ++ (bytesV [102, 97, 108, 115, 101])])) (j := 0) rfl rfl ha) rfl rfl ha)) (knV_ok (Y := (syL [5, na, 2, 0, kx, nx, ky, ny, 0] [sa, ByteArray.empty, sa ++ (bytesV [102, 97, 108, 115, 101])])) (j := 1) (a := aC 2 0) (fun _ => rfl) rfl rfl hb)) sNew_ok (isS_str (b := [43]) rfl) (aT_ok (Y := (syL [5, na, 2, 0, kx, nx, ky, ny, 0] [sa, ByteArray.empty, sa ++ (bytesV [102, 97, 108, 115, 101])])) (j := 0) rfl rfl ha) (fun _ => rfl) rn141
    · exact fin_run (Y := (syL [5, na, 2, 1, kx, nx, ky, ny, 0] [sa, ByteArray.empty, sa ++ (bytesV [116, 114, 117, 101])])) htab (orcs_cons (orc_cat (isS_sym (Y := (syL [5, na, 2, 1, kx, nx, ky, ny, 0] [sa, ByteArray.empty, sa ++ (bytesV [116, 114, 117, 101])])) (i := 0) (s := sa) rfl (Nat.zero_le _) ha.size.2 rfl) (isS_str (b := [116, 114, 117, 101]) rfl) (by have h20 : (bytesV [116, 114, 117, 101]).size ≤ 20 := (by decide); omega) (isS_sym (i := 2) (s := sa ++ (bytesV [116, 114, 117, 101])) rfl (Nat.zero_le _) (by rw [ByteArray.size_append]; have h20 : (bytesV [116, 114, 117, 101]).size ≤ 20 := (by decide); omega) rfl)) (fun _ h => orcs_nil h)) (KnownOk.append (KnownOk.append k4_ok (knV_ok (Y := (syL [5, na, 2, 1, kx, nx, ky, ny, 0] [sa, ByteArray.empty, sa ++ (bytesV [116, 114, 117, 101])])) (j := 0) (a := aT 0) (aT_ok (Y := (syL [5, na, 2, 1, kx, nx, ky, ny, 0] [sa, ByteArray.empty, sa ++ (bytesV [116, 114, 117, 101])])) (j := 0) rfl rfl ha) rfl rfl ha)) (knV_ok (Y := (syL [5, na, 2, 1, kx, nx, ky, ny, 0] [sa, ByteArray.empty, sa ++ (bytesV [116, 114, 117, 101])])) (j := 1) (a := aC 2 1) (fun _ => rfl) rfl rfl hb)) sNew_ok (isS_str (b := [43]) rfl) (aT_ok (Y := (syL [5, na, 2, 1, kx, nx, ky, ny, 0] [sa, ByteArray.empty, sa ++ (bytesV [116, 114, 117, 101])])) (j := 0) rfl rfl ha) (fun _ => rfl) rn142
  | n _ hm =>
    have hi := itoa_size nb (by omega) (by omega)
    exact fin_run (Y := (syL [5, na, 3, nb, kx, nx, ky, ny, 0] [sa, ByteArray.empty, sa ++ (⟨(Lib.itoa nb).toArray⟩ : ByteArray), (⟨(Lib.itoa nb).toArray⟩ : ByteArray)])) htab (orcs_cons (orc_cat (isS_sym (Y := (syL [5, na, 3, nb, kx, nx, ky, ny, 0] [sa, ByteArray.empty, sa ++ (⟨(Lib.itoa nb).toArray⟩ : ByteArray), (⟨(Lib.itoa nb).toArray⟩ : ByteArray)])) (i := 0) (s := sa) rfl (Nat.zero_le _) ha.size.2 rfl) (isS_sym (Y := (syL [5, na, 3, nb, kx, nx, ky, ny, 0] [sa, ByteArray.empty, sa ++ (⟨(Lib.itoa nb).toArray⟩ : ByteArray), (⟨(Lib.itoa nb).toArray⟩ : ByteArray)])) (i := 3) (s := (⟨(Lib.itoa nb).toArray⟩ : ByteArray)) rfl hi.1 hi.2 rfl) (by omega) (isS_sym (i := 2) (s := sa ++ (⟨(Lib.itoa nb).toArray⟩ : ByteArray)) rfl (Nat.zero_le _) (by rw [ByteArray.size_append]; omega) rfl)) (fun _ h => orcs_nil h)) (KnownOk.append (KnownOk.append k4_ok (knV_ok (Y := (syL [5, na, 3, nb, kx, nx, ky, ny, 0] [sa, ByteArray.empty, sa ++ (⟨(Lib.itoa nb).toArray⟩ : ByteArray), (⟨(Lib.itoa nb).toArray⟩ : ByteArray)])) (j := 0) (a := aT 0) (aT_ok (Y := (syL [5, na, 3, nb, kx, nx, ky, ny, 0] [sa, ByteArray.empty, sa ++ (⟨(Lib.itoa nb).toArray⟩ : ByteArray), (⟨(Lib.itoa nb).toArray⟩ : ByteArray)])) (j := 0) rfl rfl ha) rfl rfl ha)) (knV_ok (Y := (syL [5, na, 3, nb, kx, nx, ky, ny, 0] [sa, ByteArray.empty, sa ++ (⟨(Lib.itoa nb).toArray⟩ : ByteArray), (⟨(Lib.itoa nb).toArray⟩ : ByteArray)])) (j := 1) (a := aN 1) (resN_ok (Y := (syL [5, na, 3, nb, kx, nx, ky, ny, 0] [sa, ByteArray.empty, sa ++ (⟨(Lib.itoa nb).toArray⟩ : ByteArray), (⟨(Lib.itoa nb).toArray⟩ : ByteArray)])) (e := .var 3) (n := nb) rfl hm.1 hm.2) rfl rfl hb)) (SumsOk.cons (qItoa_ok (isI_sym (Y := (syL [5, na, 3, nb, kx, nx, ky, ny, 0] [sa, ByteArray.empty, sa ++ (⟨(Lib.itoa nb).toArray⟩ : ByteArray), (⟨(Lib.itoa nb).toArray⟩ : ByteArray)])) (n := nb) rfl hm.1 hm.2) (by omega) (by omega) rfl rfl 0) (SumsOk.cons (qItoa_ok (isI_sym (Y := (syL [5, na, 3, nb, kx, nx, ky, ny, 0] [sa, ByteArray.empty, sa ++ (⟨(Lib.itoa nb).toArray⟩ : ByteArray), (⟨(Lib.itoa nb).toArray⟩ : ByteArray)])) (n := nb) rfl hm.1 hm.2) (by omega) (by omega) rfl rfl 1) (SumsOk.cons (qItoa_ok (isI_sym (Y := (syL [5, na, 3, nb, kx, nx, ky, ny, 0] [sa, ByteArray.empty, sa ++ (⟨(Lib.itoa nb).toArray⟩ : ByteArray), (⟨(Lib.itoa nb).toArray⟩ : ByteArray)])) (n := nb) rfl hm.1 hm.2) (by omega) (by omega) rfl rfl 2) (SumsOk.cons (qItoa_ok (isI_sym (Y := (syL [5, na, 3, nb, kx, nx, ky, ny, 0] [sa, ByteArray.empty, sa ++ (⟨(Lib.itoa nb).toArray⟩ : ByteArray), (⟨(Lib.itoa nb).toArray⟩ : ByteArray)])) (n := nb) rfl hm.1 hm.2) (by omega) (by omega) rfl rfl 3) sNew_ok)))) (isS_str (b := [43]) rfl) (aT_ok (Y := (syL [5, na, 3, nb, kx, nx, ky, ny, 0] [sa, ByteArray.empty, sa ++ (⟨(Lib.itoa nb).toArray⟩ : ByteArray), (⟨(Lib.itoa nb).toArray⟩ : ByteArray)])) (j := 0) rfl rfl ha) (resN_ok (Y := (syL [5, na, 3, nb, kx, nx, ky, ny, 0] [sa, ByteArray.empty, sa ++ (⟨(Lib.itoa nb).toArray⟩ : ByteArray), (⟨(Lib.itoa nb).toArray⟩ : ByteArray)])) (e := .var 3) (n := nb) rfl hm.1 hm.2) rn143
  | q => exact fin_run (Y := (syL [5, na, 4, 0, kx, nx, ky, ny, 0] [sa, ByteArray.empty, sa ++ (bytesV [78, 97, 78])])) htab (orcs_cons (orc_cat (isS_sym (Y := (syL [5, na, 4, 0, kx, nx, ky, ny, 0] [sa, ByteArray.empty, sa ++ (bytesV [78, 97, 78])])) (i := 0) (s := sa) rfl (Nat.zero_le _) ha.size.2 rfl) (isS_str (b := [78, 97, 78]) rfl) (by have h20 : (bytesV [78, 97, 78]).size ≤ 20 := (by decide); omega) (isS_sym (i := 2) (s := sa ++ (bytesV [78, 97, 78])) rfl (Nat.zero_le _) (by rw [ByteArray.size_append]; have h20 : (bytesV [78, 97, 78]).size ≤ 20 := (by decide); omega) rfl)) (fun _ h => orcs_nil h)) (KnownOk.append (KnownOk.append k4_ok (knV_ok (Y := (syL [5, na, 4, 0, kx, nx, ky, ny, 0] [sa, ByteArray.empty, sa ++ (bytesV [78, 97, 78])])) (j := 0) (a := aT 0) (aT_ok (Y := (syL [5, na, 4, 0, kx, nx, ky, ny, 0] [sa, ByteArray.empty, sa ++ (bytesV [78, 97, 78])])) (j := 0) rfl rfl ha) rfl rfl ha)) (knV_ok (Y := (syL [5, na, 4, 0, kx, nx, ky, ny, 0] [sa, ByteArray.empty, sa ++ (bytesV [78, 97, 78])])) (j := 1) (a := aC 4 0) (fun _ => rfl) rfl rfl hb)) sNew_ok (isS_str (b := [43]) rfl) (aT_ok (Y := (syL [5, na, 4, 0, kx, nx, ky, ny, 0] [sa, ByteArray.empty, sa ++ (bytesV [78, 97, 78])])) (j := 0) rfl rfl ha) (fun _ => rfl) rn144
  | t _ _ => exact absurd rfl tb
  | s _ _ => exact absurd hb.low (by omega)
theorem o_add_PT (htab : Tab w) (ha : VG ka na sa kx nx) (ta : ka ≠ 5) (hb : VG 5 nb sb ky ny) : Says (bytesV [43]) ka na sa 5 nb sb w := by
  have ht := hb.size.2
  cases ha.pl with
  | u => exact fin_run (Y := (syL [0, 0, 5, nb, kx, nx, ky, ny, 0] [ByteArray.empty, sb, (bytesV [117, 110, 100, 101, 102, 105, 110, 101, 100]) ++ sb])) htab (orcs_cons (orc_cat (isS_str (b := [117, 110, 100, 101, 102, 105, 110, 101, 100]) rfl) (isS_sym (Y := (syL [0, 0, 5, nb, kx, nx, ky, ny, 0] [ByteArray.empty, sb, (bytesV [117, 110, 100, 101, 102, 105, 110, 101, 100]) ++ sb])) (i := 1) (s := sb) rfl (Nat.zero_le _) hb.size.2 rfl) (by have h20 : (bytesV [117, 110, 100, 101, 102, 105, 110, 101, 100]).size ≤ 20 := (by decide); omega) (isS_sym (i := 2) (s := (bytesV [117, 110, 100, 101, 102, 105, 110, 101, 100]) ++ sb) rfl (Nat.zero_le _) (by rw [ByteArray.size_append]; have h20 : (bytesV [117, 110, 100, 101, 102, 105, 110, 101, 100]).size ≤ 20 := (by decide); omega) rfl)) (fun _ h => orcs_nil h)) (KnownOk.append (KnownOk.append k4_ok (knV_ok (Y := (syL [0, 0, 5, nb, kx, nx, ky, ny, 0] [ByteArray.empty, sb, (bytesV [117, 110, 100, 101, 102, 105, 110, 101, 100]) ++ sb])) (j := 0) (a := aC 0 0) (fun _ => rfl) rfl rfl ha)) (knV_ok (Y := (syL [0, 0, 5, nb, kx, nx, ky, ny, 0] [ByteArray.empty, sb, (bytesV [117, 110, 100, 101, 102, 105, 110, 101, 100]) ++ sb])) (j := 1) (a := aT 1) (aT_ok (Y := (syL [0, 0, 5, nb, kx, nx, ky, ny, 0] [ByteArray.empty, sb, (bytesV [117, 110, 100, 101, 102, 105, 110, 101, 100]) ++ sb])) (j := 1) rfl rfl hb) rfl rfl hb)) sNew_ok (isS_str (b := [43]) rfl) (fun _ => rfl) (aT_ok (Y := (syL [0, 0, 5, nb, kx, nx, ky, ny, 0] [ByteArray.empty, sb, (bytesV [117, 110, 100, 101, 102, 105, 110, 101, 100]) ++ sb])) (j := 1) rfl rfl hb) rn145
  | l => exact fin_run (Y := (syL [1, 0, 5, nb, kx, nx, ky, ny, 0] [ByteArray.empty, sb, (bytesV [110, 117, 108, 108]) ++ sb])) htab (orcs_cons (orc_cat (isS_str (b := [110, 117, 108, 108]) rfl) (isS_sym (Y := (syL [1, 0, 5, nb, kx, nx, ky, ny, 0] [ByteArray.empty, sb, (bytesV [110, 117, 108, 108]) ++ sb])) (i := 1) (s := sb) rfl (Nat.zero_le _) hb.size.2 rfl) (by have h20 : (bytesV [110, 117, 108, 108]).size ≤ 20 := (by decide); omega) (isS_sym (i := 2) (s := (bytesV [110, 117, 108, 108]) ++ sb) rfl (Nat.zero_le _) (by rw [ByteArray.size_append]; have h20 : (bytesV [110, 117, 108, 108]).size ≤ 20 := (by decide); omega) rfl)) (fun _ h => orcs_nil h)) (KnownOk.append (KnownOk.append k4_ok (knV_ok (Y := (syL [1, 0, 5, nb, kx, nx, ky, ny, 0] [ByteArray.empty, sb, (bytesV [110, 117, 108, 108]) ++ sb])) (j := 0) (a := aC 1 0) (fun _ => rfl) rfl rfl ha)) (knV_ok (Y := (syL [1, 0, 5, nb, kx, nx, ky, ny, 0] [ByteArray.empty, sb, (bytesV [110, 117, 108, 108]) ++ sb])) (j := 1) (a := aT 1) (aT_ok (Y := (syL [1, 0, 5, nb, kx, nx, ky, ny, 0] [ByteArray.empty, sb, (bytesV [110, 117, 108, 108]) ++ sb])) (j := 1) rfl rfl hb) rfl rfl hb)) sNew_ok (isS_str (b := [43]) rfl) (fun _ => rfl) (aT_ok (Y := (syL [1, 0, 5, nb, kx, nx, ky, ny, 0] [ByteArray.empty, sb, (bytesV [110, 117, 108, 108]) ++ sb])) (j := 1) rfl rfl hb) rn146
  | b _ hm =>
    have : na = 0 ∨ na = 1 := by omega
    rcases this with rfl | rfl
    · exact fin_run (Y := (syL [2, 0, 5, nb, kx, nx, ky, ny, 0] [ByteArray.empty, sb, (bytesV [102, 97, 108, 115, 101]) ++ sb])) htab (orcs_cons (orc_cat (isS_str (b := [102, 97, 108, 115, 101]) rfl) (isS_sym (Y := (syL [2, 0, 5, nb, kx, nx, ky, ny, 0] [ByteArray.empty, sb, (bytesV [102, 97, 108, 115, 101]) ++ sb])) (i := 1) (s := sb) rfl (Nat.zero_le _) hb.size.2 rfl) (by have h20 : (bytesV [102, 97, 108, 115, 101]).size ≤ 20 := (by decide); omega) (isS_sym (i := 2) (s := (bytesV [102, 97, 108, 115, 101]) ++ sb) rfl (Nat.zero_le _) (by rw [ByteArray.size_append]; have h20 : (bytesV [102, 97, 108, 115, 101]).size ≤ 20 := (by decide); omega) rfl)) (fun _ h => orcs_nil h)) (KnownOk.append (KnownOk.append k4_ok (knV_ok (Y := (syL [2, 0, 5, nb, kx, nx, ky, ny, 0] [ByteArray.empty, sb, (bytesV [102, 97, 108, 115, 101]) ++ sb])) (j := 0) (a := aC 2 0) (fun _ => rfl) rfl rfl ha)) (knV_ok (Y := (syL [2, 0, 5, nb, kx, nx, ky, ny, 0] [ByteArray.empty, sb, (bytesV [102, 97, 108, 115, 101]) ++ sb])) (j := 1) (a := aT 1) (aT_ok (Y := (syL [2, 0, 5, nb, kx, nx, ky, ny, 0] [ByteArray.empty, sb, (bytesV [102, 97, 108, 115, 101]) ++ sb])) (j := 1) rfl rfl hb) rfl rfl hb)) sNew_ok (isS_str (b := [43]) rfl) (fun _ => rfl) (aT_ok (Y := (syL [2, 0, 5, nb, kx, nx, ky, ny, 0] [ByteArray.empty, sb, (bytesV [102, 97, 108, 115, 101]) ++ sb])) (j := 1) rfl rfl hb) rn147
    · exact fin_run (Y := (syL [2, 1, 5, nb, kx, nx, ky, ny, 0] [ByteArray.empty, sb, (bytesV [116, 114, 117, 101]) ++ sb])) htab (orcs_cons (orc_cat (isS_str (b := [116, 114, 117, 101]) rfl) (isS_sym (Y := (syL [2, 1, 5, nb, kx, nx, ky, ny, 0] [ByteArray.empty, sb, (bytesV [116, 114, 117, 101]) ++ sb])) (i := 1) (s := sb) rfl (Nat.zero_le _) hb.size.2 rfl) (by have h20 : (bytesV [116, 114, 117, 101]).size ≤ 20 := (by decide); omega) (isS_sym (i := 2) (s := (bytesV [116, 114, 117, 101]) ++ sb) rfl (Nat.zero_le _) (by rw [ByteArray.size_append]; have h20 : (bytesV [116, 114, 117, 101]).size ≤ 20 := (by decide); omega) rfl)) (fun _ h => orcs_nil h)) (KnownOk.append (KnownOk.append k4_ok (knV_ok (Y := (syL [2, 1, 5, nb, kx, nx, ky, ny, 0] [ByteArray.empty, sb, (bytesV [116, 114, 117, 101]) ++ sb])) (j := 0) (a := aC 2 1) (fun _ => rfl) rfl rfl ha)) (knV_ok (Y := (syL [2, 1, 5, nb, kx, nx, ky, ny, 0] [ByteArray.empty, sb, (bytesV [116, 114, 117, 101]) ++ sb])) (j := 1) (a := aT 1) (aT_ok (Y := (syL [2, 1, 5, nb, kx, nx, ky, ny, 0] [ByteArray.empty, sb, (bytesV [116, 114, 117, 101]) ++ sb])) (j := 1) rfl rfl hb) rfl rfl hb)) sNew_ok (isS_str (b := [43]) rfl) (fun _ => rfl) (aT_ok (Y := (syL [2, 1, 5, nb, kx, nx, ky, ny, 0] [ByteArray.empty, sb, (bytesV [116, 114, 117, 101]) ++ sb])) (j := 1) rfl rfl hb) rn148
  | n _ hm =>
    have hi := itoa_size na (by omega) (by omega)
    exact fin_run (Y := (syL [3, na, 5, nb, kx, nx, ky, ny, 0] [ByteArray.empty, sb, (⟨(Lib.itoa na).toArray⟩ : ByteArray) ++ sb, (⟨(Lib.itoa na).toArray⟩ : ByteArray)])) htab (orcs_cons (orc_cat (isS_sym (Y := (syL [3, na, 5, nb, kx, nx, ky, ny, 0] [ByteArray.empty, sb, (⟨(Lib.itoa na).toArray⟩ : ByteArray) ++ sb, (⟨(Lib.itoa na).toArray⟩ : ByteArray)])) (i := 3) (s := (⟨(Lib.itoa na).toArray⟩ : ByteArray)) rfl hi.1 hi.2 rfl) (isS_sym (Y := (syL [3, na, 5, nb, kx, nx, ky, ny, 0] [ByteArray.empty, sb, (⟨(Lib.itoa na).toArray⟩ : ByteArray) ++ sb, (⟨(Lib.itoa na).toArray⟩ : ByteArray)])) (i := 1) (s := sb) rfl (Nat.zero_le _) hb.size.2 rfl) (by omega) (isS_sym (i := 2) (s := (⟨(Lib.itoa na).toArray⟩ : ByteArray) ++ sb) rfl (Nat.zero_le _) (by rw [ByteArray.size_append]; omega) rfl)) (fun _ h => orcs_nil h)) (KnownOk.append (KnownOk.append k4_ok (knV_ok (Y := (syL [3, na, 5, nb, kx, nx, ky, ny, 0] [ByteArray.empty, sb, (⟨(Lib.itoa na).toArray⟩ : ByteArray) ++ sb, (⟨(Lib.itoa na).toArray⟩ : ByteArray)])) (j := 0) (a := aN 0) (resN_ok (Y := (syL [3, na, 5, nb, kx, nx, ky, ny, 0] [ByteArray.empty, sb, (⟨(Lib.itoa na).toArray⟩ : ByteArray) ++ sb, (⟨(Lib.itoa na).toArray⟩ : ByteArray)])) (e := .var 1) (n := na) rfl hm.1 hm.2) rfl rfl ha)) (knV_ok (Y := (syL [3, na, 5, nb, kx, nx, ky, ny, 0] [ByteArray.empty, sb, (⟨(Lib.itoa na).toArray⟩ : ByteArray) ++ sb, (⟨(Lib.itoa na).toArray⟩ : ByteArray)])) (j := 1) (a := aT 1) (aT_ok (Y := (syL [3, na, 5, nb, kx, nx, ky, ny, 0] [ByteArray.empty, sb, (⟨(Lib.itoa na).toArray⟩ : ByteArray) ++ sb, (⟨(Lib.itoa na).toArray⟩ : ByteArray)])) (j := 1) rfl rfl hb) rfl rfl hb)) (SumsOk.cons (qItoa_ok (isI_sym (Y := (syL [3, na, 5, nb, kx, nx, ky, ny, 0] [ByteArray.empty, sb, (⟨(Lib.itoa na).toArray⟩ : ByteArray) ++ sb, (⟨(Lib.itoa na).toArray⟩ : ByteArray)])) (n := na) rfl hm.1 hm.2) (by omega) (by omega) rfl rfl 0) (SumsOk.cons (qItoa_ok (isI_sym (Y := (syL [3, na, 5, nb, kx, nx, ky, ny, 0] [ByteArray.empty, sb, (⟨(Lib.itoa na).toArray⟩ : ByteArray) ++ sb, (⟨(Lib.itoa na).toArray⟩ : ByteArray)])) (n := na) rfl hm.1 hm.2) (by omega) (by omega) rfl rfl 1) (SumsOk.cons (qItoa_ok (isI_sym (Y := (syL [3, na, 5, nb, kx, nx, ky, ny, 0] [ByteArray.empty, sb, (⟨(Lib.itoa na).toArray⟩ : ByteArray) ++ sb, (⟨(Lib.itoa na).toArray⟩ : ByteArray)])) (n := na) rfl hm.1 hm.2) (by omega) (by omega) rfl rfl 2) (SumsOk.cons (qItoa_ok (isI_sym (Y := (syL [3, na, 5, nb, kx, nx, ky, ny, 0] [ByteArray.empty, sb, (⟨(Lib.itoa na).toArray⟩ : ByteArray) ++ sb, (⟨(Lib.itoa na).toArray⟩ : ByteArray)])) (n := na) rfl hm.1 hm.2) (by omega) (by omega) rfl rfl 3) sNew_ok)))) (isS_str (b := [43]) rfl) (resN_ok (Y := (syL [3, na, 5, nb, kx, nx, ky, ny, 0] [ByteArray.empty, sb, (⟨(Lib.itoa na).toArray⟩ : ByteArray) ++ sb, (⟨(Lib.itoa na).toArray⟩ : ByteArray)])) (e := .var 1) (n := na) rfl hm.1 hm.2) (aT_ok (Y := (syL [3, na, 5, nb, kx, nx, ky, ny, 0] [ByteArray.empty, sb, (⟨(Lib.itoa na).toArray⟩ : ByteArray) ++ sb, (⟨(Lib.itoa na).toArray⟩ : ByteArray)])) (j := 1) rfl rfl hb) rn149
  | q => exact fin_run (Y := (syL [4, 0, 5, nb, kx, nx, ky, ny, 0] [ByteArray.empty, sb, (bytesV [78, 97, 78]) ++ sb])) htab (orcs_cons (orc_cat (isS_str (b := [78, 97, 78]) rfl) (isS_sym (Y := (syL [4, 0, 5, nb, kx, nx, ky, ny, 0] [ByteArray.empty, sb, (bytesV [78, 97, 78]) ++ sb])) (i := 1) (s := sb) rfl (Nat.zero_le _) hb.size.2 rfl) (by have h20 : (bytesV [78, 97, 78]).size ≤ 20 := (by decide); omega) (isS_sym (i := 2) (s := (bytesV [78, 97, 78]) ++ sb) rfl (Nat.zero_le _) (by rw [ByteArray.size_append]; have h20 : (bytesV [78, 97, 78]).size ≤ 20 := (by decide); omega) rfl)) (fun _ h => orcs_nil h)) (KnownOk.append (KnownOk.append k4_ok (knV_ok (Y := (syL [4, 0, 5, nb, kx, nx, ky, ny, 0] [ByteArray.empty, sb, (bytesV [78, 97, 78]) ++ sb])) (j := 0) (a := aC 4 0) (fun _ => rfl) rfl rfl ha)) (knV_ok (Y := (syL [4, 0, 5, nb, kx, nx, ky, ny, 0] [ByteArray.empty, sb, (bytesV [78, 97, 78]) ++ sb])) (j := 1) (a := aT 1) (aT_ok (Y := (syL [4, 0, 5, nb, kx, nx, ky, ny, 0] [ByteArray.empty, sb, (bytesV [78, 97, 78]) ++ sb])) (j := 1) rfl rfl hb) rfl rfl hb)) sNew_ok (isS_str (b := [43]) rfl) (fun _ => rfl) (aT_ok (Y := (syL [4, 0, 5, nb, kx, nx, ky, ny, 0] [ByteArray.empty, sb, (bytesV [78, 97, 78]) ++ sb])) (j := 1) rfl rfl hb) rn150
  | t _ _ => exact absurd rfl ta
  | s _ _ => exact absurd ha.low (by omega)
theorem o_add (htab : Tab w) (ha : VG ka na sa kx nx ∨ VS ka na sa) (hb : VG kb nb sb ky ny ∨ VS kb nb sb) : Says (bytesV [43]) ka na sa kb nb sb w := by
  rcases ha with ha | ha
  · by_cases ta : ka = 5
    · subst ta
      rcases hb with hb | hb
      · by_cases tb : kb = 5
        · subst tb
          exact o_add_TT htab ha hb
        · exact o_add_TP htab ha hb tb
      · exact o_add_TS htab ha hb
    · rcases hb with hb | hb
      · by_cases tb : kb = 5
        · subst tb
          exact o_add_PT htab ha ta hb
        · exact o_add_PP htab ha ta hb tb
      · exact o_add_PS htab ha ta hb
  · rcases hb with hb | hb
    · by_cases tb : kb = 5
      · subst tb
        exact o_add_ST htab ha hb
      · exact o_add_SP htab ha hb tb
    · exact o_add_SS htab ha hb
theorem o_none_GG {op : ByteArray} (hop : op.size ≤ 9223372036854775807) (hno : neOk 100 op = true) (htab : Tab w) (ha : VG ka na sa kx nx) (hb : VG kb nb sb ky ny) : Says op ka na sa kb nb sb w := by
  exact fin_run (Y := (syN ka na kb nb kx nx ky ny op sa sb)) htab (fun _ h => orcs_nil h) (KnownOk.append (KnownOk.append k4_ok (knV_ok (j := 0) (aG_ok (Y := (syN ka na kb nb kx nx ky ny op sa sb)) (j := 0) rfl rfl rfl rfl ha) rfl rfl ha)) (knV_ok (j := 1) (aG_ok (Y := (syN ka na kb nb kx nx ky ny op sa sb)) (j := 1) rfl rfl rfl rfl hb) rfl rfl hb)) sNew_ok (opN_ok hop hno) (aG_ok (Y := (syN ka na kb nb kx nx ky ny op sa sb)) (j := 0) rfl rfl rfl rfl ha) (aG_ok (Y := (syN ka na kb nb kx nx ky ny op sa sb)) (j := 1) rfl rfl rfl rfl hb) rn151
theorem o_none_GS {op : ByteArray} (hop : op.size ≤ 9223372036854775807) (hno : neOk 100 op = true) (htab : Tab w) (ha : VG ka na sa kx nx) (hb : VS kb nb sb) : Says op ka na sa kb nb sb w := by
  exact fin_run (Y := (syN ka na kb nb kx nx 0 0 op sa sb)) htab (fun _ h => orcs_nil h) (KnownOk.append k4_ok (knV_ok (j := 0) (aG_ok (Y := (syN ka na kb nb kx nx 0 0 op sa sb)) (j := 0) rfl rfl rfl rfl ha) rfl rfl ha)) sNew_ok (opN_ok hop hno) (aG_ok (Y := (syN ka na kb nb kx nx 0 0 op sa sb)) (j := 0) rfl rfl rfl rfl ha) (aS_ok (Y := (syN ka na kb nb kx nx 0 0 op sa sb)) (j := 1) rfl hb) rn152
theorem o_none_SG {op : ByteArray} (hop : op.size ≤ 9223372036854775807) (hno : neOk 100 op = true) (htab : Tab w) (ha : VS ka na sa) (hb : VG kb nb sb ky ny) : Says op ka na sa kb nb sb w := by
  exact fin_run (Y := (syN ka na kb nb 0 0 ky ny op sa sb)) htab (fun _ h => orcs_nil h) (KnownOk.append k4_ok (knV_ok (j := 1) (aG_ok (Y := (syN ka na kb nb 0 0 ky ny op sa sb)) (j := 1) rfl rfl rfl rfl hb) rfl rfl hb)) sNew_ok (opN_ok hop hno) (aS_ok (Y := (syN ka na kb nb 0 0 ky ny op sa sb)) (j := 0) rfl ha) (aG_ok (Y := (syN ka na kb nb 0 0 ky ny op sa sb)) (j := 1) rfl rfl rfl rfl hb) rn153
theorem o_none_SS {op : ByteArray} (hop : op.size ≤ 9223372036854775807) (hno : neOk 100 op = true) (htab : Tab w) (ha : VS ka na sa) (hb : VS kb nb sb) : Says op ka na sa kb nb sb w := by
  exact fin_run (Y := (syN ka na kb nb 0 0 0 0 op sa sb)) htab (fun _ h => orcs_nil h) k4_ok sNew_ok (opN_ok hop hno) (aS_ok (Y := (syN ka na kb nb 0 0 0 0 op sa sb)) (j := 0) rfl ha) (aS_ok (Y := (syN ka na kb nb 0 0 0 0 op sa sb)) (j := 1) rfl hb) rn154
theorem o_none {op : ByteArray} (hop : op.size ≤ 9223372036854775807) (hno : neOk 100 op = true) (htab : Tab w) (ha : VG ka na sa kx nx ∨ VS ka na sa) (hb : VG kb nb sb ky ny ∨ VS kb nb sb) : Says op ka na sa kb nb sb w := by
  rcases ha with ha | ha <;> rcases hb with hb | hb
  · exact o_none_GG hop hno htab ha hb
  · exact o_none_GS hop hno htab ha hb
  · exact o_none_SG hop hno htab ha hb
  · exact o_none_SS hop hno htab ha hb

theorem o_len_GG (htab : Tab w) (ha : VG ka na sa kx nx) (hb : VG kb nb sb ky ny) : Says (bytesV [108, 101, 110, 103, 116, 104]) ka na sa kb nb sb w := by
  exact fin_run (Y := (syL [ka, na, kb, nb, kx, nx, ky, ny, 0] [sa, sb])) htab (fun _ h => orcs_nil h) (KnownOk.append (KnownOk.append k4_ok (knV_ok (j := 0) (aG_ok (Y := (syL [ka, na, kb, nb, kx, nx, ky, ny, 0] [sa, sb])) (j := 0) rfl rfl rfl rfl ha) rfl rfl ha)) (knV_ok (j := 1) (aG_ok (Y := (syL [ka, na, kb, nb, kx, nx, ky, ny, 0] [sa, sb])) (j := 1) rfl rfl rfl rfl hb) rfl rfl hb)) sNew_ok (isS_str (b := [108, 101, 110, 103, 116, 104]) rfl) (aG_ok (Y := (syL [ka, na, kb, nb, kx, nx, ky, ny, 0] [sa, sb])) (j := 0) rfl rfl rfl rfl ha) (aG_ok (Y := (syL [ka, na, kb, nb, kx, nx, ky, ny, 0] [sa, sb])) (j := 1) rfl rfl rfl rfl hb) rn155
theorem o_len_GS (htab : Tab w) (ha : VG ka na sa kx nx) (hb : VS kb nb sb) : Says (bytesV [108, 101, 110, 103, 116, 104]) ka na sa kb nb sb w := by
  exact fin_run (Y := (syL [ka, na, kb, nb, kx, nx, 0, 0, 0] [sa, sb])) htab (fun _ h => orcs_nil h) (KnownOk.append k4_ok (knV_ok (j := 0) (aG_ok (Y := (syL [ka, na, kb, nb, kx, nx, 0, 0, 0] [sa, sb])) (j := 0) rfl rfl rfl rfl ha) rfl rfl ha)) sNew_ok (isS_str (b := [108, 101, 110, 103, 116, 104]) rfl) (aG_ok (Y := (syL [ka, na, kb, nb, kx, nx, 0, 0, 0] [sa, sb])) (j := 0) rfl rfl rfl rfl ha) (aS_ok (Y := (syL [ka, na, kb, nb, kx, nx, 0, 0, 0] [sa, sb])) (j := 1) rfl hb) rn156
theorem o_len_SG (htab : Tab w) (ha : VS ka na sa) (hb : VG kb nb sb ky ny) : Says (bytesV [108, 101, 110, 103, 116, 104]) ka na sa kb nb sb w := by
  exact fin_run (Y := (syL [ka, na, kb, nb, 0, 0, ky, ny, 0] [sa, sb])) htab (fun _ h => orcs_nil h) (KnownOk.append k4_ok (knV_ok (j := 1) (aG_ok (Y := (syL [ka, na, kb, nb, 0, 0, ky, ny, 0] [sa, sb])) (j := 1) rfl rfl rfl rfl hb) rfl rfl hb)) sNew_ok (isS_str (b := [108, 101, 110, 103, 116, 104]) rfl) (aS_ok (Y := (syL [ka, na, kb, nb, 0, 0, ky, ny, 0] [sa, sb])) (j := 0) rfl ha) (aG_ok (Y := (syL [ka, na, kb, nb, 0, 0, ky, ny, 0] [sa, sb])) (j := 1) rfl rfl rfl rfl hb) rn157
theorem o_len_SS (htab : Tab w) (ha : VS ka na sa) (hb : VS kb nb sb) : Says (bytesV [108, 101, 110, 103, 116, 104]) ka na sa kb nb sb w := by
  exact fin_run (Y := (syL [ka, na, kb, nb, 0, 0, 0, 0, 0] [sa, sb])) htab (fun _ h => orcs_nil h) k4_ok sNew_ok (isS_str (b := [108, 101, 110, 103, 116, 104]) rfl) (aS_ok (Y := (syL [ka, na, kb, nb, 0, 0, 0, 0, 0] [sa, sb])) (j := 0) rfl ha) (aS_ok (Y := (syL [ka, na, kb, nb, 0, 0, 0, 0, 0] [sa, sb])) (j := 1) rfl hb) rn158
theorem o_len (htab : Tab w) (ha : VG ka na sa kx nx ∨ VS ka na sa) (hb : VG kb nb sb ky ny ∨ VS kb nb sb) : Says (bytesV [108, 101, 110, 103, 116, 104]) ka na sa kb nb sb w := by
  rcases ha with ha | ha <;> rcases hb with hb | hb
  · exact o_len_GG htab ha hb
  · exact o_len_GS htab ha hb
  · exact o_len_SG htab ha hb
  · exact o_len_SS htab ha hb

/-- every operator, and every other string -/
theorem o_any {op : ByteArray} (hop : op.size ≤ 9223372036854775807) (htab : Tab w) (ha : VG ka na sa kx nx ∨ VS ka na sa) (hb : VG kb nb sb ky ny ∨ VS kb nb sb) : Says op ka na sa kb nb sb w := by
  by_cases c_add : op = bytesV [43]
  · subst c_add
    exact o_add htab ha hb
  by_cases c_sub : op = bytesV [45]
  · subst c_sub
    exact o_sub htab ha hb
  by_cases c_mul : op = bytesV [42]
  · subst c_mul
    exact o_mul htab ha hb
  by_cases c_div : op = bytesV [47]
  · subst c_div
    exact o_div htab ha hb
  by_cases c_rem : op = bytesV [37]
  · subst c_rem
    exact o_rem htab ha hb
  by_cases c_and : op = bytesV [38]
  · subst c_and
    exact o_and htab ha hb
  by_cases c_or : op = bytesV [124]
  · subst c_or
    exact o_or htab ha hb
  by_cases c_xor : op = bytesV [94]
  · subst c_xor
    exact o_xor htab ha hb
  by_cases c_shl : op = bytesV [60, 60]
  · subst c_shl
    exact o_shl htab ha hb
  by_cases c_shr : op = bytesV [62, 62]
  · subst c_shr
    exact o_shr htab ha hb
  by_cases c_lss : op = bytesV [60]
  · subst c_lss
    exact o_lss htab ha hb
  by_cases c_gtr : op = bytesV [62]
  · subst c_gtr
    exact o_gtr htab ha hb
  by_cases c_leq : op = bytesV [60, 61]
  · subst c_leq
    exact o_leq htab ha hb
  by_cases c_geq : op = bytesV [62, 61]
  · subst c_geq
    exact o_geq htab ha hb
  by_cases c_same : op = bytesV [61, 61, 61]
  · subst c_same
    exact o_same htab ha hb
  by_cases c_notsame : op = bytesV [33, 61, 61]
  · subst c_notsame
    exact o_notsame htab ha hb
  by_cases c_eql : op = bytesV [61, 61]
  · subst c_eql
    exact o_eql htab ha hb
  by_cases c_neq : op = bytesV [33, 61]
  · subst c_neq
    exact o_neq htab ha hb
  by_cases c_not : op = bytesV [33]
  · subst c_not
    exact o_not htab ha hb
  by_cases c_inv : op = bytesV [126]
  · subst c_inv
    exact o_inv htab ha hb
  by_cases c_void : op = bytesV [118, 111, 105, 100]
  · subst c_void
    exact o_void htab ha hb
  by_cases c_inst : op = bytesV [105, 110, 115, 116, 97, 110, 99, 101, 111, 102]
  · subst c_inst
    exact o_inst htab ha hb
  by_cases c_isin : op = bytesV [105, 110]
  · subst c_isin
    exact o_isin htab ha hb
  by_cases c_len : op = bytesV [108, 101, 110, 103, 116, 104]
  · subst c_len
    exact o_len htab ha hb
  refine o_none hop ?_ htab ha hb
  unfold neOk
  have e : (neList.all fun c => !(op.toList == (bytesV c).toList)) = true := by
    rw [List.all_eq_true]
    intro c hc
    have key : op ≠ bytesV c := by
      unfold neList at hc
      simp only [List.mem_cons, List.mem_nil_iff, or_false] at hc
      rcases hc with rfl | rfl | rfl | rfl | rfl | rfl | rfl | rfl | rfl | rfl | rfl | rfl | rfl | rfl | rfl | rfl | rfl | rfl | rfl | rfl | rfl | rfl | rfl | rfl <;> assumption
    rw [ByteArray.toList_eq, ByteArray.toList_eq]
    simp only [Bool.not_eq_true', beq_eq_false_iff_ne, ne_eq]
    intro he
    exact key (ByteArray.ext (Array.ext' he))
  rw [e, Bool.or_true]

end

end Go.Proofs.YtgcmekonnliemaaGreatDoor
