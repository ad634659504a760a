/-
  Tries: what was put is got.
-/
import Derived.Test.YtmebfcdgbjkcfaaGreatDoorAeK
namespace Go.AE

theorem land_one (m : Nat) : Nat.land m 1 = m % 2 := Nat.and_one_is_mod m
theorem shr_one (m : Nat) : Nat.shiftRight m 1 = m / 2 := rfl


theorem mklV_eq (a : T AV) (x : Option AV) (b : T AV) : mklV a x b = .node a x b := by cases a <;> rfl
theorem mkrV_eq (a : T AV) (x : Option AV) (b : T AV) : mkrV a x b = .node a x b := by cases b <;> rfl
theorem getV_nil (n : Nat) : getV .nil n = none := rfl
theorem getV_zero (l : T AV) (v : Option AV) (r : T AV) : getV (.node l v r) 0 = v := rfl
theorem getV_succ (l : T AV) (v : Option AV) (r : T AV) (m : Nat) : getV (.node l v r) (m + 1) = if m % 2 = 0 then getV l (m / 2) else getV r (m / 2) := by
  have h : getV (.node l v r) (m + 1) =
      Nat.rec (motive := fun _ => (Nat → Option AV) → (Nat → Option AV) → Nat → Option AV) (fun gl _ m => gl (Nat.shiftRight m 1)) (fun _ _ _ gr m => gr (Nat.shiftRight m 1)) (Nat.land m 1) (getV l) (getV r) m := rfl
  rw [h, land_one]
  rcases Nat.mod_two_eq_zero_or_one m with e | e
  · rw [e, if_pos rfl, ← shr_one]; rfl
  · rw [e, if_neg (by decide), ← shr_one]; rfl

theorem singleV_zero (x : AV) (f : Nat) : singleV x f 0 = .node .nil (some x) .nil := by cases f <;> rfl
theorem singleV_succ (x : AV) (f m : Nat) : singleV x (f + 1) (m + 1) = if m % 2 = 0 then .node (singleV x f (m / 2)) none .nil else .node .nil none (singleV x f (m / 2)) := by
  have h : singleV x (f + 1) (m + 1) =
      Nat.rec (motive := fun _ => (AV → Nat → T AV) → AV → Nat → T AV) (fun ih x m => mklV (ih x (Nat.shiftRight m 1)) none .nil) (fun _ _ ih x m => mkrV .nil none (ih x (Nat.shiftRight m 1))) (Nat.land m 1) (fun x n => singleV x f n) x m := rfl
  rw [h, land_one]
  rcases Nat.mod_two_eq_zero_or_one m with e | e
  · rw [e, if_pos rfl, ← shr_one]; exact mklV_eq _ _ _
  · rw [e, if_neg (by decide), ← shr_one]; exact mkrV_eq _ _ _

theorem get_singleV (x : AV) : ∀ (f n : Nat), n ≤ f → ∀ m, getV (singleV x f n) m = if m = n then some x else none := by
  intro f
  induction f with
  | zero =>
    intro n hn m
    obtain rfl : n = 0 := by omega
    rw [singleV_zero]
    cases m with
    | zero => rfl
    | succ m => rw [getV_succ]; split <;> simp [getV_nil]
  | succ f ih =>
    intro n hn m
    cases n with
    | zero =>
      rw [singleV_zero]
      cases m with
      | zero => rfl
      | succ m => rw [getV_succ]; split <;> simp [getV_nil]
    | succ n =>
      rw [singleV_succ]
      have hf : n / 2 ≤ f := by omega
      split
      · rename_i e
        cases m with
        | zero => simp [getV_zero]
        | succ m =>
          rw [getV_succ]
          split
          · rename_i e2
            rw [ih _ hf]
            by_cases hm : m = n
            · simp [hm]
            · have : m / 2 ≠ n / 2 := by omega
              simp [hm, this]
          · have : m ≠ n := by omega
            simp [getV_nil, this]
      · rename_i e
        cases m with
        | zero => simp [getV_zero]
        | succ m =>
          rw [getV_succ]
          split
          · have : m ≠ n := by omega
            simp [getV_nil, this]
          · rw [ih _ hf]
            by_cases hm : m = n
            · simp [hm]
            · have : m / 2 ≠ n / 2 := by omega
              simp [hm, this]

theorem putV_nil (n : Nat) (x : AV) : putV .nil n x = singleV x n n := rfl
theorem putV_zero (l : T AV) (v : Option AV) (r : T AV) (x : AV) : putV (.node l v r) 0 x = .node l (some x) r := rfl
theorem putV_succ (l : T AV) (v : Option AV) (r : T AV) (m : Nat) (x : AV) : putV (.node l v r) (m + 1) x = if m % 2 = 0 then .node (putV l (m / 2) x) v r else .node l v (putV r (m / 2) x) := by
  have h : putV (.node l v r) (m + 1) x =
      Nat.rec (motive := fun _ => T AV → Option AV → T AV → (Nat → AV → T AV) → (Nat → AV → T AV) → AV → Nat → T AV)
        (fun _ v r pl _ x m => mklV (pl (Nat.shiftRight m 1) x) v r) (fun _ _ l v _ _ pr x m => mkrV l v (pr (Nat.shiftRight m 1) x)) (Nat.land m 1) l v r (putV l) (putV r) x m := rfl
  rw [h, land_one]
  rcases Nat.mod_two_eq_zero_or_one m with e | e
  · rw [e, if_pos rfl, ← shr_one]; exact mklV_eq _ _ _
  · rw [e, if_neg (by decide), ← shr_one]; exact mkrV_eq _ _ _

theorem get_putV (x : AV) : ∀ (t : T AV) (n m : Nat), getV (putV t n x) m = if m = n then some x else getV t m := by
  intro t
  induction t with
  | nil => intro n m; rw [putV_nil, get_singleV x n n (Nat.le_refl _)]; simp [getV_nil]
  | node l v r ihl ihr =>
    intro n m
    cases n with
    | zero =>
      rw [putV_zero]
      cases m with
      | zero => simp [getV_zero]
      | succ m => rw [getV_succ, getV_succ]; simp
    | succ n =>
      rw [putV_succ]
      split
      · cases m with
        | zero => simp [getV_zero]
        | succ m =>
          rw [getV_succ, getV_succ]
          split
          · rw [ihl]
            by_cases hm : m = n
            · simp [hm]
            · have : m / 2 ≠ n / 2 := by omega
              simp [hm, this]
          · have : m ≠ n := by omega
            simp [this]
      · cases m with
        | zero => simp [getV_zero]
        | succ m =>
          rw [getV_succ, getV_succ]
          split
          · have : m ≠ n := by omega
            simp [this]
          · rw [ihr]
            by_cases hm : m = n
            · simp [hm]
            · have : m / 2 ≠ n / 2 := by omega
              simp [hm, this]

theorem mklO_eq (a : T AObj) (x : Option AObj) (b : T AObj) : mklO a x b = .node a x b := by cases a <;> rfl
theorem mkrO_eq (a : T AObj) (x : Option AObj) (b : T AObj) : mkrO a x b = .node a x b := by cases b <;> rfl
theorem getO_nil (n : Nat) : getO .nil n = none := rfl
theorem getO_zero (l : T AObj) (v : Option AObj) (r : T AObj) : getO (.node l v r) 0 = v := rfl
theorem getO_succ (l : T AObj) (v : Option AObj) (r : T AObj) (m : Nat) : getO (.node l v r) (m + 1) = if m % 2 = 0 then getO l (m / 2) else getO r (m / 2) := by
  have h : getO (.node l v r) (m + 1) =
      Nat.rec (motive := fun _ => (Nat → Option AObj) → (Nat → Option AObj) → Nat → Option AObj) (fun gl _ m => gl (Nat.shiftRight m 1)) (fun _ _ _ gr m => gr (Nat.shiftRight m 1)) (Nat.land m 1) (getO l) (getO r) m := rfl
  rw [h, land_one]
  rcases Nat.mod_two_eq_zero_or_one m with e | e
  · rw [e, if_pos rfl, ← shr_one]; rfl
  · rw [e, if_neg (by decide), ← shr_one]; rfl

theorem singleO_zero (x : AObj) (f : Nat) : singleO x f 0 = .node .nil (some x) .nil := by cases f <;> rfl
theorem singleO_succ (x : AObj) (f m : Nat) : singleO x (f + 1) (m + 1) = if m % 2 = 0 then .node (singleO x f (m / 2)) none .nil else .node .nil none (singleO x f (m / 2)) := by
  have h : singleO x (f + 1) (m + 1) =
      Nat.rec (motive := fun _ => (AObj → Nat → T AObj) → AObj → Nat → T AObj) (fun ih x m => mklO (ih x (Nat.shiftRight m 1)) none .nil) (fun _ _ ih x m => mkrO .nil none (ih x (Nat.shiftRight m 1))) (Nat.land m 1) (fun x n => singleO x f n) x m := rfl
  rw [h, land_one]
  rcases Nat.mod_two_eq_zero_or_one m with e | e
  · rw [e, if_pos rfl, ← shr_one]; exact mklO_eq _ _ _
  · rw [e, if_neg (by decide), ← shr_one]; exact mkrO_eq _ _ _

theorem get_singleO (x : AObj) : ∀ (f n : Nat), n ≤ f → ∀ m, getO (singleO x f n) m = if m = n then some x else none := by
  intro f
  induction f with
  | zero =>
    intro n hn m
    obtain rfl : n = 0 := by omega
    rw [singleO_zero]
    cases m with
    | zero => rfl
    | succ m => rw [getO_succ]; split <;> simp [getO_nil]
  | succ f ih =>
    intro n hn m
    cases n with
    | zero =>
      rw [singleO_zero]
      cases m with
      | zero => rfl
      | succ m => rw [getO_succ]; split <;> simp [getO_nil]
    | succ n =>
      rw [singleO_succ]
      have hf : n / 2 ≤ f := by omega
      split
      · rename_i e
        cases m with
        | zero => simp [getO_zero]
        | succ m =>
          rw [getO_succ]
          split
          · rename_i e2
            rw [ih _ hf]
            by_cases hm : m = n
            · simp [hm]
            · have : m / 2 ≠ n / 2 := by omega
              simp [hm, this]
          · have : m ≠ n := by omega
            simp [getO_nil, this]
      · rename_i e
        cases m with
        | zero => simp [getO_zero]
        | succ m =>
          rw [getO_succ]
          split
          · have : m ≠ n := by omega
            simp [getO_nil, this]
          · rw [ih _ hf]
            by_cases hm : m = n
            · simp [hm]
            · have : m / 2 ≠ n / 2 := by omega
              simp [hm, this]

theorem putO_nil (n : Nat) (x : AObj) : putO .nil n x = singleO x n n := rfl
theorem putO_zero (l : T AObj) (v : Option AObj) (r : T AObj) (x : AObj) : putO (.node l v r) 0 x = .node l (some x) r := rfl
theorem putO_succ (l : T AObj) (v : Option AObj) (r : T AObj) (m : Nat) (x : AObj) : putO (.node l v r) (m + 1) x = if m % 2 = 0 then .node (putO l (m / 2) x) v r else .node l v (putO r (m / 2) x) := by
  have h : putO (.node l v r) (m + 1) x =
      Nat.rec (motive := fun _ => T AObj → Option AObj → T AObj → (Nat → AObj → T AObj) → (Nat → AObj → T AObj) → AObj → Nat → T AObj)
        (fun _ v r pl _ x m => mklO (pl (Nat.shiftRight m 1) x) v r) (fun _ _ l v _ _ pr x m => mkrO l v (pr (Nat.shiftRight m 1) x)) (Nat.land m 1) l v r (putO l) (putO r) x m := rfl
  rw [h, land_one]
  rcases Nat.mod_two_eq_zero_or_one m with e | e
  · rw [e, if_pos rfl, ← shr_one]; exact mklO_eq _ _ _
  · rw [e, if_neg (by decide), ← shr_one]; exact mkrO_eq _ _ _

theorem get_putO (x : AObj) : ∀ (t : T AObj) (n m : Nat), getO (putO t n x) m = if m = n then some x else getO t m := by
  intro t
  induction t with
  | nil => intro n m; rw [putO_nil, get_singleO x n n (Nat.le_refl _)]; simp [getO_nil]
  | node l v r ihl ihr =>
    intro n m
    cases n with
    | zero =>
      rw [putO_zero]
      cases m with
      | zero => simp [getO_zero]
      | succ m => rw [getO_succ, getO_succ]; simp
    | succ n =>
      rw [putO_succ]
      split
      · cases m with
        | zero => simp [getO_zero]
        | succ m =>
          rw [getO_succ, getO_succ]
          split
          · rw [ihl]
            by_cases hm : m = n
            · simp [hm]
            · have : m / 2 ≠ n / 2 := by omega
              simp [hm, this]
          · have : m ≠ n := by omega
            simp [this]
      · cases m with
        | zero => simp [getO_zero]
        | succ m =>
          rw [getO_succ, getO_succ]
          split
          · have : m ≠ n := by omega
            simp [this]
          · rw [ihr]
            by_cases hm : m = n
            · simp [hm]
            · have : m / 2 ≠ n / 2 := by omega
              simp [hm, this]

/-! ### The static tables -/
theorem T.get_nil' {α : Type} (n : Nat) : (T.nil : T α).get n = none := rfl
theorem T.get_zero' {α : Type} (l : T α) (v : Option α) (r : T α) : (T.node l v r).get 0 = v := rfl
theorem T.get_succ' {α : Type} (l : T α) (v : Option α) (r : T α) (m : Nat) : (T.node l v r).get (m + 1) = if m % 2 = 0 then l.get (m / 2) else r.get (m / 2) := by
  have h : (T.node l v r).get (m + 1) = Nat.rec (motive := fun _ => Option α) (l.get (Nat.shiftRight m 1)) (fun _ _ => r.get (Nat.shiftRight m 1)) (Nat.land m 1) := rfl
  rw [h, land_one]
  rcases Nat.mod_two_eq_zero_or_one m with e | e
  · rw [e, if_pos rfl, ← shr_one]; rfl
  · rw [e, if_neg (by decide), ← shr_one]; rfl
theorem T.mkl_eq {α : Type} (a : T α) (x : Option α) (b : T α) : T.mkl a x b = .node a x b := by cases a <;> rfl
theorem T.mkr_eq {α : Type} (a : T α) (x : Option α) (b : T α) : T.mkr a x b = .node a x b := by cases b <;> rfl
theorem T.single_zero {α : Type} (x : α) (f : Nat) : T.single x f 0 = .node .nil (some x) .nil := by cases f <;> rfl
theorem T.single_succ {α : Type} (x : α) (f m : Nat) : T.single x (f + 1) (m + 1) = if m % 2 = 0 then .node (T.single x f (m / 2)) none .nil else .node .nil none (T.single x f (m / 2)) := by
  have h : T.single x (f + 1) (m + 1) =
      Nat.rec (motive := fun _ => T α) (T.mkl (T.single x f (Nat.shiftRight m 1)) none .nil) (fun _ _ => T.mkr .nil none (T.single x f (Nat.shiftRight m 1))) (Nat.land m 1) := rfl
  rw [h, land_one]
  rcases Nat.mod_two_eq_zero_or_one m with e | e
  · rw [e, if_pos rfl, ← shr_one]; exact T.mkl_eq _ _ _
  · rw [e, if_neg (by decide), ← shr_one]; exact T.mkr_eq _ _ _
theorem T.get_single {α : Type} (x : α) : ∀ (f n : Nat), n ≤ f → ∀ m, (T.single x f n).get m = if m = n then some x else none := by
  intro f
  induction f with
  | zero =>
    intro n hn m
    obtain rfl : n = 0 := by omega
    rw [T.single_zero]
    cases m with
    | zero => rfl
    | succ m => rw [T.get_succ']; split <;> simp [T.get_nil']
  | succ f ih =>
    intro n hn m
    cases n with
    | zero =>
      rw [T.single_zero]
      cases m with
      | zero => rfl
      | succ m => rw [T.get_succ']; split <;> simp [T.get_nil']
    | succ n =>
      rw [T.single_succ]
      have hf : n / 2 ≤ f := by omega
      split
      · cases m with
        | zero => simp [T.get_zero']
        | succ m =>
          rw [T.get_succ']
          split
          · rw [ih _ hf]
            by_cases hm : m = n
            · simp [hm]
            · have : m / 2 ≠ n / 2 := by omega
              simp [hm, this]
          · have : m ≠ n := by omega
            simp [T.get_nil', this]
      · cases m with
        | zero => simp [T.get_zero']
        | succ m =>
          rw [T.get_succ']
          split
          · have : m ≠ n := by omega
            simp [T.get_nil', this]
          · rw [ih _ hf]
            by_cases hm : m = n
            · simp [hm]
            · have : m / 2 ≠ n / 2 := by omega
              simp [hm, this]
theorem T.put_nil {α : Type} (n : Nat) (x : α) : (T.nil : T α).put n x = T.single x n n := rfl
theorem T.put_zero {α : Type} (l : T α) (v : Option α) (r : T α) (x : α) : (T.node l v r).put 0 x = .node l (some x) r := rfl
theorem T.put_succ {α : Type} (l : T α) (v : Option α) (r : T α) (m : Nat) (x : α) : (T.node l v r).put (m + 1) x = if m % 2 = 0 then .node (l.put (m / 2) x) v r else .node l v (r.put (m / 2) x) := by
  have h : (T.node l v r).put (m + 1) x = Nat.rec (motive := fun _ => T α) (T.mkl (l.put (Nat.shiftRight m 1) x) v r) (fun _ _ => T.mkr l v (r.put (Nat.shiftRight m 1) x)) (Nat.land m 1) := rfl
  rw [h, land_one]
  rcases Nat.mod_two_eq_zero_or_one m with e | e
  · rw [e, if_pos rfl, ← shr_one]; exact T.mkl_eq _ _ _
  · rw [e, if_neg (by decide), ← shr_one]; exact T.mkr_eq _ _ _
theorem T.get_put {α : Type} (x : α) : ∀ (t : T α) (n m : Nat), (t.put n x).get m = if m = n then some x else t.get m := by
  intro t
  induction t with
  | nil => intro n m; rw [T.put_nil, T.get_single x n n (Nat.le_refl _)]; simp [T.get_nil']
  | node l v r ihl ihr =>
    intro n m
    cases n with
    | zero =>
      rw [T.put_zero]
      cases m with
      | zero => simp [T.get_zero']
      | succ m => rw [T.get_succ', T.get_succ']; simp
    | succ n =>
      rw [T.put_succ]
      split
      · cases m with
        | zero => simp [T.get_zero']
        | succ m =>
          rw [T.get_succ', T.get_succ']
          split
          · rw [ihl]
            by_cases hm : m = n
            · simp [hm]
            · have : m / 2 ≠ n / 2 := by omega
              simp [hm, this]
          · have : m ≠ n := by omega
            simp [this]
      · cases m with
        | zero => simp [T.get_zero']
        | succ m =>
          rw [T.get_succ', T.get_succ']
          split
          · have : m ≠ n := by omega
            simp [this]
          · rw [ihr]
            by_cases hm : m = n
            · simp [hm]
            · have : m / 2 ≠ n / 2 := by omega
              simp [hm, this]
theorem T.get_ofListFrom {α : Type} : ∀ (l : List α) (n : Nat) (t : T α) (m : Nat), (T.ofListFrom l n t).get m = if n ≤ m ∧ m < n + l.length then l[m - n]? else t.get m := by
  intro l
  induction l with
  | nil => intro n t m; have : ¬ (n ≤ m ∧ m < n + ([] : List α).length) := by simp
           rw [if_neg this]; rfl
  | cons x l ih =>
    intro n t m
    show (T.ofListFrom l (n + 1) (t.put n x)).get m = _
    rw [ih, T.get_put]
    by_cases h1 : m = n
    · subst h1
      have a : ¬ (m + 1 ≤ m ∧ m < m + 1 + l.length) := by omega
      have b : m ≤ m ∧ m < m + (x :: l).length := by simp
      simp [a]
    · by_cases h2 : n + 1 ≤ m ∧ m < n + 1 + l.length
      · have b : n ≤ m ∧ m < n + (x :: l).length := by simp; omega
        rw [if_pos h2, if_pos b]
        obtain ⟨j, rfl⟩ : ∃ j, m = n + 1 + j := ⟨m - (n + 1), by omega⟩
        have e1 : n + 1 + j - (n + 1) = j := by omega
        have e2 : n + 1 + j - n = j + 1 := by omega
        simp [e1, e2]
      · have b : ¬ (n ≤ m ∧ m < n + (x :: l).length) := by simp; omega
        rw [if_neg h2, if_neg b, if_neg h1]
theorem T.get_ofList {α : Type} (l : List α) (m : Nat) : (T.ofList l).get m = l[m]? := by
  unfold T.ofList
  rw [T.get_ofListFrom]
  split
  · rename_i h; simp
  · rename_i h
    rw [T.get_nil']
    symm
    apply List.getElem?_eq_none
    omega

theorem ofListV_from : ∀ (l : List AV) (n : Nat) (t : T AV) (m : Nat),
    getV (List.rec (motive := fun _ => Nat → T AV → T AV) (fun _ t => t) (fun x _ ih n t => ih (Nat.succ n) (putV t n x)) l n t) m = if n ≤ m ∧ m < n + l.length then l[m - n]? else getV t m := by
  intro l
  induction l with
  | nil => intro n t m; have : ¬ (n ≤ m ∧ m < n + ([] : List AV).length) := by simp
           rw [if_neg this]
  | cons x l ih =>
    intro n t m
    show getV (List.rec (motive := fun _ => Nat → T AV → T AV) (fun _ t => t) (fun x _ ih n t => ih (Nat.succ n) (putV t n x)) l (n + 1) (putV t n x)) m = _
    rw [ih, get_putV]
    by_cases h1 : m = n
    · subst h1
      have a : ¬ (m + 1 ≤ m ∧ m < m + 1 + l.length) := by omega
      have b : m ≤ m ∧ m < m + (x :: l).length := by simp
      simp [a]
    · by_cases h2 : n + 1 ≤ m ∧ m < n + 1 + l.length
      · have b : n ≤ m ∧ m < n + (x :: l).length := by simp; omega
        rw [if_pos h2, if_pos b]
        obtain ⟨j, rfl⟩ : ∃ j, m = n + 1 + j := ⟨m - (n + 1), by omega⟩
        have e1 : n + 1 + j - (n + 1) = j := by omega
        have e2 : n + 1 + j - n = j + 1 := by omega
        simp [e1, e2]
      · have b : ¬ (n ≤ m ∧ m < n + (x :: l).length) := by simp; omega
        rw [if_neg h2, if_neg b, if_neg h1]
theorem get_ofListV (l : List AV) (m : Nat) : getV (ofListV l) m = l[m]? := by
  unfold ofListV
  rw [ofListV_from]
  split
  · simp
  · rw [getV_nil]
    symm
    apply List.getElem?_eq_none
    omega

/-! ### Ways -/
theorem pathFrom_zero (f : Nat) : pathFrom f 0 = .here := by cases f <;> rfl
theorem pathFrom_succ (f m : Nat) : pathFrom (f + 1) (m + 1) = if m % 2 = 0 then .left (pathFrom f (m / 2)) else .right (pathFrom f (m / 2)) := by
  have h : pathFrom (f + 1) (m + 1) = Nat.rec (motive := fun _ => P2) (.left (pathFrom f (Nat.shiftRight m 1))) (fun _ _ => .right (pathFrom f (Nat.shiftRight m 1))) (Nat.land m 1) := rfl
  rw [h, land_one]
  rcases Nat.mod_two_eq_zero_or_one m with e | e
  · rw [e, if_pos rfl, ← shr_one]; rfl
  · rw [e, if_neg (by decide), ← shr_one]; rfl
theorem getP_path : ∀ (f n : Nat), n ≤ f → ∀ t, getP (pathFrom f n) t = getV t n := by
  intro f
  induction f with
  | zero =>
    intro n hn t
    obtain rfl : n = 0 := by omega
    cases t <;> rfl
  | succ f ih =>
    intro n hn t
    cases n with
    | zero => rw [pathFrom_zero]; cases t <;> rfl
    | succ n =>
      rw [pathFrom_succ]
      have hf : n / 2 ≤ f := by omega
      cases t with
      | nil => split <;> rfl
      | node l v r =>
        rw [getV_succ]
        split
        · exact ih _ hf l
        · exact ih _ hf r
theorem putP_single (x : AV) : ∀ (f n : Nat), n ≤ f → putP x (pathFrom f n) .nil = singleV x f n := by
  intro f
  induction f with
  | zero =>
    intro n hn
    obtain rfl : n = 0 := by omega
    rfl
  | succ f ih =>
    intro n hn
    cases n with
    | zero => rw [pathFrom_zero, singleV_zero]; rfl
    | succ n =>
      rw [pathFrom_succ, singleV_succ]
      have hf : n / 2 ≤ f := by omega
      split
      · show mklV (putP x (pathFrom f (n / 2)) .nil) none .nil = _
        rw [mklV_eq, ih _ hf]
      · show mkrV .nil none (putP x (pathFrom f (n / 2)) .nil) = _
        rw [mkrV_eq, ih _ hf]
theorem get_putP (x : AV) : ∀ (f n : Nat), n ≤ f → ∀ (t : T AV) (m : Nat), getV (putP x (pathFrom f n) t) m = if m = n then some x else getV t m := by
  intro f
  induction f with
  | zero =>
    intro n hn t m
    obtain rfl : n = 0 := by omega
    cases t with
    | nil => show getV (.node .nil (some x) .nil) m = _
             cases m with
             | zero => rfl
             | succ m => rw [getV_succ]; simp [getV_nil]
    | node l v r => show getV (.node l (some x) r) m = _
                    cases m with
                    | zero => rfl
                    | succ m => rw [getV_succ, getV_succ]; simp
  | succ f ih =>
    intro n hn t m
    cases t with
    | nil => rw [putP_single x _ _ hn, get_singleV x _ _ hn]; simp [getV_nil]
    | node l v r =>
      cases n with
      | zero =>
        rw [pathFrom_zero]
        show getV (.node l (some x) r) m = _
        cases m with
        | zero => rfl
        | succ m => rw [getV_succ, getV_succ]; simp
      | succ n =>
        rw [pathFrom_succ]
        have hf : n / 2 ≤ f := by omega
        split
        · show getV (mklV (putP x (pathFrom f (n / 2)) l) v r) m = _
          rw [mklV_eq]
          cases m with
          | zero => simp [getV_zero]
          | succ m =>
            rw [getV_succ, getV_succ]
            split
            · rw [ih _ hf]
              by_cases hm : m = n
              · simp [hm]
              · have : m / 2 ≠ n / 2 := by omega
                simp [hm, this]
            · have : m ≠ n := by omega
              simp [this]
        · show getV (mkrV l v (putP x (pathFrom f (n / 2)) r)) m = _
          rw [mkrV_eq]
          cases m with
          | zero => simp [getV_zero]
          | succ m =>
            rw [getV_succ, getV_succ]
            split
            · have : m ≠ n := by omega
              simp [this]
            · rw [ih _ hf]
              by_cases hm : m = n
              · simp [hm]
              · have : m / 2 ≠ n / 2 := by omega
                simp [hm, this]
theorem getP_of (n : Nat) (t : T AV) : getP (pathOf n) t = getV t n := getP_path n n (Nat.le_refl _) t
theorem get_putP_of (x : AV) (n : Nat) (t : T AV) (m : Nat) : getV (putP x (pathOf n) t) m = if m = n then some x else getV t m := get_putP x n n (Nat.le_refl _) t m
theorem tgetP_of (n : Nat) (t : T AV) : tgetP (pathOf n) t = tget t n := by
  unfold tgetP tget
  rw [getP_of]
  cases getV t n <;> rfl

end Go.AE
