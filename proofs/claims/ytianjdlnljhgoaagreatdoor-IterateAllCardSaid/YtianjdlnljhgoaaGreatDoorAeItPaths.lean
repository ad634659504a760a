/-
  IterateAll: all paths.
-/
import Derived.Test.YtianjdlnljhgoaaGreatDoorAeItP0a
import Derived.Test.YtianjdlnljhgoaaGreatDoorAeItP0b
import Derived.Test.YtianjdlnljhgoaaGreatDoorAeItP0c
import Derived.Test.YtianjdlnljhgoaaGreatDoorAeItP0d
import Derived.Test.YtianjdlnljhgoaaGreatDoorAeItP1a
import Derived.Test.YtianjdlnljhgoaaGreatDoorAeItP1b
import Derived.Test.YtianjdlnljhgoaaGreatDoorAeItP1c
import Derived.Test.YtianjdlnljhgoaaGreatDoorAeItP1d
import Derived.Test.YtianjdlnljhgoaaGreatDoorAeItP2a
import Derived.Test.YtianjdlnljhgoaaGreatDoorAeItP2b
import Derived.Test.YtianjdlnljhgoaaGreatDoorAeItP2c
import Derived.Test.YtianjdlnljhgoaaGreatDoorAeItP2d
import Derived.Test.YtianjdlnljhgoaaGreatDoorAeItP3a
import Derived.Test.YtianjdlnljhgoaaGreatDoorAeItP3b
import Derived.Test.YtianjdlnljhgoaaGreatDoorAeItP3c
import Derived.Test.YtianjdlnljhgoaaGreatDoorAeItP3d
namespace Go.Proofs.YtianjdlnljhgoaaGreatDoor
open Go.AE
set_option maxRecDepth 100000

theorem allA0 (k : Nat) (hk : k < 30) : pathX env 0 k (lastA k) = true := by
  have h : k = 0 ∨ k = 1 ∨ k = 2 ∨ k = 3 ∨ k = 4 ∨ k = 5 ∨ k = 6 ∨ k = 7 ∨ k = 8 ∨ k = 9 ∨ k = 10 ∨ k = 11 ∨ k = 12 ∨ k = 13 ∨ k = 14 ∨ k = 15 ∨ k = 16 ∨ k = 17 ∨ k = 18 ∨ k = 19 ∨ k = 20 ∨ k = 21 ∨ k = 22 ∨ k = 23 ∨ k = 24 ∨ k = 25 ∨ k = 26 ∨ k = 27 ∨ k = 28 ∨ k = 29 := by omega
  rcases h with rfl | rfl | rfl | rfl | rfl | rfl | rfl | rfl | rfl | rfl | rfl | rfl | rfl | rfl | rfl | rfl | rfl | rfl | rfl | rfl | rfl | rfl | rfl | rfl | rfl | rfl | rfl | rfl | rfl | rfl
  · exact pA0_0
  · exact pA0_1
  · exact pA0_2
  · exact pA0_3
  · exact pA0_4
  · exact pA0_5
  · exact pA0_6
  · exact pA0_7
  · exact pA0_8
  · exact pA0_9
  · exact pA0_10
  · exact pA0_11
  · exact pA0_12
  · exact pA0_13
  · exact pA0_14
  · exact pA0_15
  · exact pA0_16
  · exact pA0_17
  · exact pA0_18
  · exact pA0_19
  · exact pA0_20
  · exact pA0_21
  · exact pA0_22
  · exact pA0_23
  · exact pA0_24
  · exact pA0_25
  · exact pA0_26
  · exact pA0_27
  · exact pA0_28
  · exact pA0_29
theorem allA1 (k : Nat) (hk : k < 30) : pathX env 1 k (lastA k) = true := by
  have h : k = 0 ∨ k = 1 ∨ k = 2 ∨ k = 3 ∨ k = 4 ∨ k = 5 ∨ k = 6 ∨ k = 7 ∨ k = 8 ∨ k = 9 ∨ k = 10 ∨ k = 11 ∨ k = 12 ∨ k = 13 ∨ k = 14 ∨ k = 15 ∨ k = 16 ∨ k = 17 ∨ k = 18 ∨ k = 19 ∨ k = 20 ∨ k = 21 ∨ k = 22 ∨ k = 23 ∨ k = 24 ∨ k = 25 ∨ k = 26 ∨ k = 27 ∨ k = 28 ∨ k = 29 := by omega
  rcases h with rfl | rfl | rfl | rfl | rfl | rfl | rfl | rfl | rfl | rfl | rfl | rfl | rfl | rfl | rfl | rfl | rfl | rfl | rfl | rfl | rfl | rfl | rfl | rfl | rfl | rfl | rfl | rfl | rfl | rfl
  · exact pA1_0
  · exact pA1_1
  · exact pA1_2
  · exact pA1_3
  · exact pA1_4
  · exact pA1_5
  · exact pA1_6
  · exact pA1_7
  · exact pA1_8
  · exact pA1_9
  · exact pA1_10
  · exact pA1_11
  · exact pA1_12
  · exact pA1_13
  · exact pA1_14
  · exact pA1_15
  · exact pA1_16
  · exact pA1_17
  · exact pA1_18
  · exact pA1_19
  · exact pA1_20
  · exact pA1_21
  · exact pA1_22
  · exact pA1_23
  · exact pA1_24
  · exact pA1_25
  · exact pA1_26
  · exact pA1_27
  · exact pA1_28
  · exact pA1_29
theorem allA2 (k : Nat) (hk : k < 30) : pathX env 2 k (lastA k) = true := by
  have h : k = 0 ∨ k = 1 ∨ k = 2 ∨ k = 3 ∨ k = 4 ∨ k = 5 ∨ k = 6 ∨ k = 7 ∨ k = 8 ∨ k = 9 ∨ k = 10 ∨ k = 11 ∨ k = 12 ∨ k = 13 ∨ k = 14 ∨ k = 15 ∨ k = 16 ∨ k = 17 ∨ k = 18 ∨ k = 19 ∨ k = 20 ∨ k = 21 ∨ k = 22 ∨ k = 23 ∨ k = 24 ∨ k = 25 ∨ k = 26 ∨ k = 27 ∨ k = 28 ∨ k = 29 := by omega
  rcases h with rfl | rfl | rfl | rfl | rfl | rfl | rfl | rfl | rfl | rfl | rfl | rfl | rfl | rfl | rfl | rfl | rfl | rfl | rfl | rfl | rfl | rfl | rfl | rfl | rfl | rfl | rfl | rfl | rfl | rfl
  · exact pA2_0
  · exact pA2_1
  · exact pA2_2
  · exact pA2_3
  · exact pA2_4
  · exact pA2_5
  · exact pA2_6
  · exact pA2_7
  · exact pA2_8
  · exact pA2_9
  · exact pA2_10
  · exact pA2_11
  · exact pA2_12
  · exact pA2_13
  · exact pA2_14
  · exact pA2_15
  · exact pA2_16
  · exact pA2_17
  · exact pA2_18
  · exact pA2_19
  · exact pA2_20
  · exact pA2_21
  · exact pA2_22
  · exact pA2_23
  · exact pA2_24
  · exact pA2_25
  · exact pA2_26
  · exact pA2_27
  · exact pA2_28
  · exact pA2_29
theorem allA3 (k : Nat) (hk : k < 30) : pathX env 3 k (lastA k) = true := by
  have h : k = 0 ∨ k = 1 ∨ k = 2 ∨ k = 3 ∨ k = 4 ∨ k = 5 ∨ k = 6 ∨ k = 7 ∨ k = 8 ∨ k = 9 ∨ k = 10 ∨ k = 11 ∨ k = 12 ∨ k = 13 ∨ k = 14 ∨ k = 15 ∨ k = 16 ∨ k = 17 ∨ k = 18 ∨ k = 19 ∨ k = 20 ∨ k = 21 ∨ k = 22 ∨ k = 23 ∨ k = 24 ∨ k = 25 ∨ k = 26 ∨ k = 27 ∨ k = 28 ∨ k = 29 := by omega
  rcases h with rfl | rfl | rfl | rfl | rfl | rfl | rfl | rfl | rfl | rfl | rfl | rfl | rfl | rfl | rfl | rfl | rfl | rfl | rfl | rfl | rfl | rfl | rfl | rfl | rfl | rfl | rfl | rfl | rfl | rfl
  · exact pA3_0
  · exact pA3_1
  · exact pA3_2
  · exact pA3_3
  · exact pA3_4
  · exact pA3_5
  · exact pA3_6
  · exact pA3_7
  · exact pA3_8
  · exact pA3_9
  · exact pA3_10
  · exact pA3_11
  · exact pA3_12
  · exact pA3_13
  · exact pA3_14
  · exact pA3_15
  · exact pA3_16
  · exact pA3_17
  · exact pA3_18
  · exact pA3_19
  · exact pA3_20
  · exact pA3_21
  · exact pA3_22
  · exact pA3_23
  · exact pA3_24
  · exact pA3_25
  · exact pA3_26
  · exact pA3_27
  · exact pA3_28
  · exact pA3_29
theorem allA (r k : Nat) (hr : r < 4) (hk : k < 30) : pathX env r k (lastA k) = true := by
  have h : r = 0 ∨ r = 1 ∨ r = 2 ∨ r = 3 := by omega
  rcases h with rfl | rfl | rfl | rfl
  · exact allA0 k hk
  · exact allA1 k hk
  · exact allA2 k hk
  · exact allA3 k hk
theorem allB0 (k : Nat) (hk : k < 30) : pathX env 0 k (lastB k) = true := by
  have h : k = 0 ∨ k = 1 ∨ k = 2 ∨ k = 3 ∨ k = 4 ∨ k = 5 ∨ k = 6 ∨ k = 7 ∨ k = 8 ∨ k = 9 ∨ k = 10 ∨ k = 11 ∨ k = 12 ∨ k = 13 ∨ k = 14 ∨ k = 15 ∨ k = 16 ∨ k = 17 ∨ k = 18 ∨ k = 19 ∨ k = 20 ∨ k = 21 ∨ k = 22 ∨ k = 23 ∨ k = 24 ∨ k = 25 ∨ k = 26 ∨ k = 27 ∨ k = 28 ∨ k = 29 := by omega
  rcases h with rfl | rfl | rfl | rfl | rfl | rfl | rfl | rfl | rfl | rfl | rfl | rfl | rfl | rfl | rfl | rfl | rfl | rfl | rfl | rfl | rfl | rfl | rfl | rfl | rfl | rfl | rfl | rfl | rfl | rfl
  · exact pB0_0
  · exact pB0_1
  · exact pB0_2
  · exact pB0_3
  · exact pB0_4
  · exact pB0_5
  · exact pB0_6
  · exact pB0_7
  · exact pB0_8
  · exact pB0_9
  · exact pB0_10
  · exact pB0_11
  · exact pB0_12
  · exact pB0_13
  · exact pB0_14
  · exact pB0_15
  · exact pB0_16
  · exact pB0_17
  · exact pB0_18
  · exact pB0_19
  · exact pB0_20
  · exact pB0_21
  · exact pB0_22
  · exact pB0_23
  · exact pB0_24
  · exact pB0_25
  · exact pB0_26
  · exact pB0_27
  · exact pB0_28
  · exact pB0_29
theorem allB1 (k : Nat) (hk : k < 30) : pathX env 1 k (lastB k) = true := by
  have h : k = 0 ∨ k = 1 ∨ k = 2 ∨ k = 3 ∨ k = 4 ∨ k = 5 ∨ k = 6 ∨ k = 7 ∨ k = 8 ∨ k = 9 ∨ k = 10 ∨ k = 11 ∨ k = 12 ∨ k = 13 ∨ k = 14 ∨ k = 15 ∨ k = 16 ∨ k = 17 ∨ k = 18 ∨ k = 19 ∨ k = 20 ∨ k = 21 ∨ k = 22 ∨ k = 23 ∨ k = 24 ∨ k = 25 ∨ k = 26 ∨ k = 27 ∨ k = 28 ∨ k = 29 := by omega
  rcases h with rfl | rfl | rfl | rfl | rfl | rfl | rfl | rfl | rfl | rfl | rfl | rfl | rfl | rfl | rfl | rfl | rfl | rfl | rfl | rfl | rfl | rfl | rfl | rfl | rfl | rfl | rfl | rfl | rfl | rfl
  · exact pB1_0
  · exact pB1_1
  · exact pB1_2
  · exact pB1_3
  · exact pB1_4
  · exact pB1_5
  · exact pB1_6
  · exact pB1_7
  · exact pB1_8
  · exact pB1_9
  · exact pB1_10
  · exact pB1_11
  · exact pB1_12
  · exact pB1_13
  · exact pB1_14
  · exact pB1_15
  · exact pB1_16
  · exact pB1_17
  · exact pB1_18
  · exact pB1_19
  · exact pB1_20
  · exact pB1_21
  · exact pB1_22
  · exact pB1_23
  · exact pB1_24
  · exact pB1_25
  · exact pB1_26
  · exact pB1_27
  · exact pB1_28
  · exact pB1_29
theorem allB2 (k : Nat) (hk : k < 30) : pathX env 2 k (lastB k) = true := by
  have h : k = 0 ∨ k = 1 ∨ k = 2 ∨ k = 3 ∨ k = 4 ∨ k = 5 ∨ k = 6 ∨ k = 7 ∨ k = 8 ∨ k = 9 ∨ k = 10 ∨ k = 11 ∨ k = 12 ∨ k = 13 ∨ k = 14 ∨ k = 15 ∨ k = 16 ∨ k = 17 ∨ k = 18 ∨ k = 19 ∨ k = 20 ∨ k = 21 ∨ k = 22 ∨ k = 23 ∨ k = 24 ∨ k = 25 ∨ k = 26 ∨ k = 27 ∨ k = 28 ∨ k = 29 := by omega
  rcases h with rfl | rfl | rfl | rfl | rfl | rfl | rfl | rfl | rfl | rfl | rfl | rfl | rfl | rfl | rfl | rfl | rfl | rfl | rfl | rfl | rfl | rfl | rfl | rfl | rfl | rfl | rfl | rfl | rfl | rfl
  · exact pB2_0
  · exact pB2_1
  · exact pB2_2
  · exact pB2_3
  · exact pB2_4
  · exact pB2_5
  · exact pB2_6
  · exact pB2_7
  · exact pB2_8
  · exact pB2_9
  · exact pB2_10
  · exact pB2_11
  · exact pB2_12
  · exact pB2_13
  · exact pB2_14
  · exact pB2_15
  · exact pB2_16
  · exact pB2_17
  · exact pB2_18
  · exact pB2_19
  · exact pB2_20
  · exact pB2_21
  · exact pB2_22
  · exact pB2_23
  · exact pB2_24
  · exact pB2_25
  · exact pB2_26
  · exact pB2_27
  · exact pB2_28
  · exact pB2_29
theorem allB3 (k : Nat) (hk : k < 30) : pathX env 3 k (lastB k) = true := by
  have h : k = 0 ∨ k = 1 ∨ k = 2 ∨ k = 3 ∨ k = 4 ∨ k = 5 ∨ k = 6 ∨ k = 7 ∨ k = 8 ∨ k = 9 ∨ k = 10 ∨ k = 11 ∨ k = 12 ∨ k = 13 ∨ k = 14 ∨ k = 15 ∨ k = 16 ∨ k = 17 ∨ k = 18 ∨ k = 19 ∨ k = 20 ∨ k = 21 ∨ k = 22 ∨ k = 23 ∨ k = 24 ∨ k = 25 ∨ k = 26 ∨ k = 27 ∨ k = 28 ∨ k = 29 := by omega
  rcases h with rfl | rfl | rfl | rfl | rfl | rfl | rfl | rfl | rfl | rfl | rfl | rfl | rfl | rfl | rfl | rfl | rfl | rfl | rfl | rfl | rfl | rfl | rfl | rfl | rfl | rfl | rfl | rfl | rfl | rfl
  · exact pB3_0
  · exact pB3_1
  · exact pB3_2
  · exact pB3_3
  · exact pB3_4
  · exact pB3_5
  · exact pB3_6
  · exact pB3_7
  · exact pB3_8
  · exact pB3_9
  · exact pB3_10
  · exact pB3_11
  · exact pB3_12
  · exact pB3_13
  · exact pB3_14
  · exact pB3_15
  · exact pB3_16
  · exact pB3_17
  · exact pB3_18
  · exact pB3_19
  · exact pB3_20
  · exact pB3_21
  · exact pB3_22
  · exact pB3_23
  · exact pB3_24
  · exact pB3_25
  · exact pB3_26
  · exact pB3_27
  · exact pB3_28
  · exact pB3_29
theorem allB (r k : Nat) (hr : r < 4) (hk : k < 30) : pathX env r k (lastB k) = true := by
  have h : r = 0 ∨ r = 1 ∨ r = 2 ∨ r = 3 := by omega
  rcases h with rfl | rfl | rfl | rfl
  · exact allB0 k hk
  · exact allB1 k hk
  · exact allB2 k hk
  · exact allB3 k hk
theorem allC0 (k : Nat) (hk : k < 30) : pathX envC 0 k (lastC k) = true := by
  have h : k = 0 ∨ k = 1 ∨ k = 2 ∨ k = 3 ∨ k = 4 ∨ k = 5 ∨ k = 6 ∨ k = 7 ∨ k = 8 ∨ k = 9 ∨ k = 10 ∨ k = 11 ∨ k = 12 ∨ k = 13 ∨ k = 14 ∨ k = 15 ∨ k = 16 ∨ k = 17 ∨ k = 18 ∨ k = 19 ∨ k = 20 ∨ k = 21 ∨ k = 22 ∨ k = 23 ∨ k = 24 ∨ k = 25 ∨ k = 26 ∨ k = 27 ∨ k = 28 ∨ k = 29 := by omega
  rcases h with rfl | rfl | rfl | rfl | rfl | rfl | rfl | rfl | rfl | rfl | rfl | rfl | rfl | rfl | rfl | rfl | rfl | rfl | rfl | rfl | rfl | rfl | rfl | rfl | rfl | rfl | rfl | rfl | rfl | rfl
  · exact pC0_0
  · exact pC0_1
  · exact pC0_2
  · exact pC0_3
  · exact pC0_4
  · exact pC0_5
  · exact pC0_6
  · exact pC0_7
  · exact pC0_8
  · exact pC0_9
  · exact pC0_10
  · exact pC0_11
  · exact pC0_12
  · exact pC0_13
  · exact pC0_14
  · exact pC0_15
  · exact pC0_16
  · exact pC0_17
  · exact pC0_18
  · exact pC0_19
  · exact pC0_20
  · exact pC0_21
  · exact pC0_22
  · exact pC0_23
  · exact pC0_24
  · exact pC0_25
  · exact pC0_26
  · exact pC0_27
  · exact pC0_28
  · exact pC0_29
theorem allC1 (k : Nat) (hk : k < 30) : pathX envC 1 k (lastC k) = true := by
  have h : k = 0 ∨ k = 1 ∨ k = 2 ∨ k = 3 ∨ k = 4 ∨ k = 5 ∨ k = 6 ∨ k = 7 ∨ k = 8 ∨ k = 9 ∨ k = 10 ∨ k = 11 ∨ k = 12 ∨ k = 13 ∨ k = 14 ∨ k = 15 ∨ k = 16 ∨ k = 17 ∨ k = 18 ∨ k = 19 ∨ k = 20 ∨ k = 21 ∨ k = 22 ∨ k = 23 ∨ k = 24 ∨ k = 25 ∨ k = 26 ∨ k = 27 ∨ k = 28 ∨ k = 29 := by omega
  rcases h with rfl | rfl | rfl | rfl | rfl | rfl | rfl | rfl | rfl | rfl | rfl | rfl | rfl | rfl | rfl | rfl | rfl | rfl | rfl | rfl | rfl | rfl | rfl | rfl | rfl | rfl | rfl | rfl | rfl | rfl
  · exact pC1_0
  · exact pC1_1
  · exact pC1_2
  · exact pC1_3
  · exact pC1_4
  · exact pC1_5
  · exact pC1_6
  · exact pC1_7
  · exact pC1_8
  · exact pC1_9
  · exact pC1_10
  · exact pC1_11
  · exact pC1_12
  · exact pC1_13
  · exact pC1_14
  · exact pC1_15
  · exact pC1_16
  · exact pC1_17
  · exact pC1_18
  · exact pC1_19
  · exact pC1_20
  · exact pC1_21
  · exact pC1_22
  · exact pC1_23
  · exact pC1_24
  · exact pC1_25
  · exact pC1_26
  · exact pC1_27
  · exact pC1_28
  · exact pC1_29
theorem allC2 (k : Nat) (hk : k < 30) : pathX envC 2 k (lastC k) = true := by
  have h : k = 0 ∨ k = 1 ∨ k = 2 ∨ k = 3 ∨ k = 4 ∨ k = 5 ∨ k = 6 ∨ k = 7 ∨ k = 8 ∨ k = 9 ∨ k = 10 ∨ k = 11 ∨ k = 12 ∨ k = 13 ∨ k = 14 ∨ k = 15 ∨ k = 16 ∨ k = 17 ∨ k = 18 ∨ k = 19 ∨ k = 20 ∨ k = 21 ∨ k = 22 ∨ k = 23 ∨ k = 24 ∨ k = 25 ∨ k = 26 ∨ k = 27 ∨ k = 28 ∨ k = 29 := by omega
  rcases h with rfl | rfl | rfl | rfl | rfl | rfl | rfl | rfl | rfl | rfl | rfl | rfl | rfl | rfl | rfl | rfl | rfl | rfl | rfl | rfl | rfl | rfl | rfl | rfl | rfl | rfl | rfl | rfl | rfl | rfl
  · exact pC2_0
  · exact pC2_1
  · exact pC2_2
  · exact pC2_3
  · exact pC2_4
  · exact pC2_5
  · exact pC2_6
  · exact pC2_7
  · exact pC2_8
  · exact pC2_9
  · exact pC2_10
  · exact pC2_11
  · exact pC2_12
  · exact pC2_13
  · exact pC2_14
  · exact pC2_15
  · exact pC2_16
  · exact pC2_17
  · exact pC2_18
  · exact pC2_19
  · exact pC2_20
  · exact pC2_21
  · exact pC2_22
  · exact pC2_23
  · exact pC2_24
  · exact pC2_25
  · exact pC2_26
  · exact pC2_27
  · exact pC2_28
  · exact pC2_29
theorem allC3 (k : Nat) (hk : k < 30) : pathX envC 3 k (lastC k) = true := by
  have h : k = 0 ∨ k = 1 ∨ k = 2 ∨ k = 3 ∨ k = 4 ∨ k = 5 ∨ k = 6 ∨ k = 7 ∨ k = 8 ∨ k = 9 ∨ k = 10 ∨ k = 11 ∨ k = 12 ∨ k = 13 ∨ k = 14 ∨ k = 15 ∨ k = 16 ∨ k = 17 ∨ k = 18 ∨ k = 19 ∨ k = 20 ∨ k = 21 ∨ k = 22 ∨ k = 23 ∨ k = 24 ∨ k = 25 ∨ k = 26 ∨ k = 27 ∨ k = 28 ∨ k = 29 := by omega
  rcases h with rfl | rfl | rfl | rfl | rfl | rfl | rfl | rfl | rfl | rfl | rfl | rfl | rfl | rfl | rfl | rfl | rfl | rfl | rfl | rfl | rfl | rfl | rfl | rfl | rfl | rfl | rfl | rfl | rfl | rfl
  · exact pC3_0
  · exact pC3_1
  · exact pC3_2
  · exact pC3_3
  · exact pC3_4
  · exact pC3_5
  · exact pC3_6
  · exact pC3_7
  · exact pC3_8
  · exact pC3_9
  · exact pC3_10
  · exact pC3_11
  · exact pC3_12
  · exact pC3_13
  · exact pC3_14
  · exact pC3_15
  · exact pC3_16
  · exact pC3_17
  · exact pC3_18
  · exact pC3_19
  · exact pC3_20
  · exact pC3_21
  · exact pC3_22
  · exact pC3_23
  · exact pC3_24
  · exact pC3_25
  · exact pC3_26
  · exact pC3_27
  · exact pC3_28
  · exact pC3_29
theorem allC (r k : Nat) (hr : r < 4) (hk : k < 30) : pathX envC r k (lastC k) = true := by
  have h : r = 0 ∨ r = 1 ∨ r = 2 ∨ r = 3 := by omega
  rcases h with rfl | rfl | rfl | rfl
  · exact allC0 k hk
  · exact allC1 k hk
  · exact allC2 k hk
  · exact allC3 k hk
theorem allD0 (k : Nat) (hk : k < 31) : pathD 0 k = true := by
  have h : k = 0 ∨ k = 1 ∨ k = 2 ∨ k = 3 ∨ k = 4 ∨ k = 5 ∨ k = 6 ∨ k = 7 ∨ k = 8 ∨ k = 9 ∨ k = 10 ∨ k = 11 ∨ k = 12 ∨ k = 13 ∨ k = 14 ∨ k = 15 ∨ k = 16 ∨ k = 17 ∨ k = 18 ∨ k = 19 ∨ k = 20 ∨ k = 21 ∨ k = 22 ∨ k = 23 ∨ k = 24 ∨ k = 25 ∨ k = 26 ∨ k = 27 ∨ k = 28 ∨ k = 29 ∨ k = 30 := by omega
  rcases h with rfl | rfl | rfl | rfl | rfl | rfl | rfl | rfl | rfl | rfl | rfl | rfl | rfl | rfl | rfl | rfl | rfl | rfl | rfl | rfl | rfl | rfl | rfl | rfl | rfl | rfl | rfl | rfl | rfl | rfl | rfl
  · exact pD0_0
  · exact pD0_1
  · exact pD0_2
  · exact pD0_3
  · exact pD0_4
  · exact pD0_5
  · exact pD0_6
  · exact pD0_7
  · exact pD0_8
  · exact pD0_9
  · exact pD0_10
  · exact pD0_11
  · exact pD0_12
  · exact pD0_13
  · exact pD0_14
  · exact pD0_15
  · exact pD0_16
  · exact pD0_17
  · exact pD0_18
  · exact pD0_19
  · exact pD0_20
  · exact pD0_21
  · exact pD0_22
  · exact pD0_23
  · exact pD0_24
  · exact pD0_25
  · exact pD0_26
  · exact pD0_27
  · exact pD0_28
  · exact pD0_29
  · exact pD0_30
theorem allD1 (k : Nat) (hk : k < 31) : pathD 1 k = true := by
  have h : k = 0 ∨ k = 1 ∨ k = 2 ∨ k = 3 ∨ k = 4 ∨ k = 5 ∨ k = 6 ∨ k = 7 ∨ k = 8 ∨ k = 9 ∨ k = 10 ∨ k = 11 ∨ k = 12 ∨ k = 13 ∨ k = 14 ∨ k = 15 ∨ k = 16 ∨ k = 17 ∨ k = 18 ∨ k = 19 ∨ k = 20 ∨ k = 21 ∨ k = 22 ∨ k = 23 ∨ k = 24 ∨ k = 25 ∨ k = 26 ∨ k = 27 ∨ k = 28 ∨ k = 29 ∨ k = 30 := by omega
  rcases h with rfl | rfl | rfl | rfl | rfl | rfl | rfl | rfl | rfl | rfl | rfl | rfl | rfl | rfl | rfl | rfl | rfl | rfl | rfl | rfl | rfl | rfl | rfl | rfl | rfl | rfl | rfl | rfl | rfl | rfl | rfl
  · exact pD1_0
  · exact pD1_1
  · exact pD1_2
  · exact pD1_3
  · exact pD1_4
  · exact pD1_5
  · exact pD1_6
  · exact pD1_7
  · exact pD1_8
  · exact pD1_9
  · exact pD1_10
  · exact pD1_11
  · exact pD1_12
  · exact pD1_13
  · exact pD1_14
  · exact pD1_15
  · exact pD1_16
  · exact pD1_17
  · exact pD1_18
  · exact pD1_19
  · exact pD1_20
  · exact pD1_21
  · exact pD1_22
  · exact pD1_23
  · exact pD1_24
  · exact pD1_25
  · exact pD1_26
  · exact pD1_27
  · exact pD1_28
  · exact pD1_29
  · exact pD1_30
theorem allD2 (k : Nat) (hk : k < 31) : pathD 2 k = true := by
  have h : k = 0 ∨ k = 1 ∨ k = 2 ∨ k = 3 ∨ k = 4 ∨ k = 5 ∨ k = 6 ∨ k = 7 ∨ k = 8 ∨ k = 9 ∨ k = 10 ∨ k = 11 ∨ k = 12 ∨ k = 13 ∨ k = 14 ∨ k = 15 ∨ k = 16 ∨ k = 17 ∨ k = 18 ∨ k = 19 ∨ k = 20 ∨ k = 21 ∨ k = 22 ∨ k = 23 ∨ k = 24 ∨ k = 25 ∨ k = 26 ∨ k = 27 ∨ k = 28 ∨ k = 29 ∨ k = 30 := by omega
  rcases h with rfl | rfl | rfl | rfl | rfl | rfl | rfl | rfl | rfl | rfl | rfl | rfl | rfl | rfl | rfl | rfl | rfl | rfl | rfl | rfl | rfl | rfl | rfl | rfl | rfl | rfl | rfl | rfl | rfl | rfl | rfl
  · exact pD2_0
  · exact pD2_1
  · exact pD2_2
  · exact pD2_3
  · exact pD2_4
  · exact pD2_5
  · exact pD2_6
  · exact pD2_7
  · exact pD2_8
  · exact pD2_9
  · exact pD2_10
  · exact pD2_11
  · exact pD2_12
  · exact pD2_13
  · exact pD2_14
  · exact pD2_15
  · exact pD2_16
  · exact pD2_17
  · exact pD2_18
  · exact pD2_19
  · exact pD2_20
  · exact pD2_21
  · exact pD2_22
  · exact pD2_23
  · exact pD2_24
  · exact pD2_25
  · exact pD2_26
  · exact pD2_27
  · exact pD2_28
  · exact pD2_29
  · exact pD2_30
theorem allD3 (k : Nat) (hk : k < 31) : pathD 3 k = true := by
  have h : k = 0 ∨ k = 1 ∨ k = 2 ∨ k = 3 ∨ k = 4 ∨ k = 5 ∨ k = 6 ∨ k = 7 ∨ k = 8 ∨ k = 9 ∨ k = 10 ∨ k = 11 ∨ k = 12 ∨ k = 13 ∨ k = 14 ∨ k = 15 ∨ k = 16 ∨ k = 17 ∨ k = 18 ∨ k = 19 ∨ k = 20 ∨ k = 21 ∨ k = 22 ∨ k = 23 ∨ k = 24 ∨ k = 25 ∨ k = 26 ∨ k = 27 ∨ k = 28 ∨ k = 29 ∨ k = 30 := by omega
  rcases h with rfl | rfl | rfl | rfl | rfl | rfl | rfl | rfl | rfl | rfl | rfl | rfl | rfl | rfl | rfl | rfl | rfl | rfl | rfl | rfl | rfl | rfl | rfl | rfl | rfl | rfl | rfl | rfl | rfl | rfl | rfl
  · exact pD3_0
  · exact pD3_1
  · exact pD3_2
  · exact pD3_3
  · exact pD3_4
  · exact pD3_5
  · exact pD3_6
  · exact pD3_7
  · exact pD3_8
  · exact pD3_9
  · exact pD3_10
  · exact pD3_11
  · exact pD3_12
  · exact pD3_13
  · exact pD3_14
  · exact pD3_15
  · exact pD3_16
  · exact pD3_17
  · exact pD3_18
  · exact pD3_19
  · exact pD3_20
  · exact pD3_21
  · exact pD3_22
  · exact pD3_23
  · exact pD3_24
  · exact pD3_25
  · exact pD3_26
  · exact pD3_27
  · exact pD3_28
  · exact pD3_29
  · exact pD3_30
theorem allD (r k : Nat) (hr : r < 4) (hk : k < 31) : pathD r k = true := by
  have h : r = 0 ∨ r = 1 ∨ r = 2 ∨ r = 3 := by omega
  rcases h with rfl | rfl | rfl | rfl
  · exact allD0 k hk
  · exact allD1 k hk
  · exact allD2 k hk
  · exact allD3 k hk

end Go.Proofs.YtianjdlnljhgoaaGreatDoor
