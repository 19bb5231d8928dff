/- The plain law of the order of ends: lists by their first other number; prefixes of twice a length; ranks of sorted keys. No program in it. -/
import Init
namespace Go.Proofs.MathSuf

def lexlt : List Int → List Int → Bool
  | [], [] => false
  | [], _ :: _ => true
  | _ :: _, [] => false
  | a :: as, b :: bs => decide (a < b) || (decide (a = b) && lexlt as bs)

theorem lexlt_irrefl : ∀ l, lexlt l l = false
  | [] => rfl
  | a :: l => by simp [lexlt, lexlt_irrefl l]
theorem lexlt_cons {a b : Int} {x y : List Int} : lexlt (a :: x) (b :: y) = true ↔ a < b ∨ a = b ∧ lexlt x y = true := by
  simp [lexlt]
theorem lexlt_trans : ∀ {x y z : List Int}, lexlt x y = true → lexlt y z = true → lexlt x z = true
  | [], [], _, h, _ => by simp [lexlt] at h
  | [], _ :: _, [], _, h => by simp [lexlt] at h
  | [], _ :: _, _ :: _, _, _ => rfl
  | _ :: _, [], _, h, _ => by simp [lexlt] at h
  | _ :: _, _ :: _, [], _, h => by simp [lexlt] at h
  | a :: x, b :: y, c :: z, h1, h2 => by
    rw [lexlt_cons] at h1 h2 ⊢
    rcases h1 with h1 | ⟨rfl, h1⟩
    · rcases h2 with h2 | ⟨rfl, _⟩
      · exact .inl (by omega)
      · exact .inl h1
    · rcases h2 with h2 | ⟨rfl, h2⟩
      · exact .inl h2
      · exact .inr ⟨rfl, lexlt_trans h1 h2⟩
theorem lexlt_total : ∀ {x y : List Int}, x ≠ y → lexlt x y = true ∨ lexlt y x = true
  | [], [], h => absurd rfl h
  | [], _ :: _, _ => .inl rfl
  | _ :: _, [], _ => .inr rfl
  | a :: x, b :: y, h => by
    rw [lexlt_cons, lexlt_cons]
    by_cases e : a = b
    · subst e
      have hne : x ≠ y := fun e => h (by rw [e])
      rcases lexlt_total hne with h1 | h1
      · exact .inl (.inr ⟨rfl, h1⟩)
      · exact .inr (.inr ⟨rfl, h1⟩)
    · rcases Int.lt_or_gt_of_ne e with h1 | h1
      · exact .inl (.inl h1)
      · exact .inr (.inl h1)
theorem lexlt_asymm {x y : List Int} (h : lexlt x y = true) : lexlt y x = false := by
  cases h2 : lexlt y x with
  | false => rfl
  | true => have := lexlt_trans h h2; rw [lexlt_irrefl] at this; cases this
theorem lexlt_eq_of_not {x y : List Int} (h1 : ¬ lexlt x y = true) (h2 : ¬ lexlt y x = true) : x = y :=
  Classical.byContradiction fun h => (lexlt_total h).elim h1 h2

theorem lexlt_take (t : Nat) : ∀ (s : Nat) (x y : List Int), lexlt (x.take (s + t)) (y.take (s + t)) = true ↔ lexlt (x.take s) (y.take s) = true ∨ x.take s = y.take s ∧ lexlt ((x.drop s).take t) ((y.drop s).take t) = true := by
  intro s
  induction s with
  | zero => intro x y; simp [lexlt]
  | succ s ih =>
    intro x y
    rw [show s + 1 + t = (s + t) + 1 by omega]
    cases x with
    | nil =>
      cases y with
      | nil => simp [lexlt]
      | cons b y => simp [lexlt]
    | cons a x =>
      cases y with
      | nil => simp [lexlt]
      | cons b y =>
        simp only [List.take_succ_cons, List.drop_succ_cons, lexlt_cons, List.cons.injEq]
        rw [ih x y]
        constructor
        · rintro (h | ⟨h, h2 | ⟨h2, h3⟩⟩)
          · exact .inl (.inl h)
          · exact .inl (.inr ⟨h, h2⟩)
          · exact .inr ⟨⟨h, h2⟩, h3⟩
        · rintro ((h | ⟨h, h2⟩) | ⟨⟨h, h2⟩, h3⟩)
          · exact .inl h
          · exact .inr ⟨h, .inl h2⟩
          · exact .inr ⟨h, .inr ⟨h2, h3⟩⟩
theorem take_eq (t : Nat) : ∀ (s : Nat) (x y : List Int), x.take (s + t) = y.take (s + t) ↔ x.take s = y.take s ∧ (x.drop s).take t = (y.drop s).take t := by
  intro s
  induction s with
  | zero => intro x y; simp
  | succ s ih =>
    intro x y
    rw [show s + 1 + t = (s + t) + 1 by omega]
    cases x with
    | nil =>
      cases y with
      | nil => simp
      | cons b y => simp
    | cons a x =>
      cases y with
      | nil => simp
      | cons b y =>
        simp only [List.take_succ_cons, List.drop_succ_cons, List.cons.injEq]
        rw [ih x y, and_assoc]
theorem lexlt_of_take {s : Nat} {x y : List Int} (h : lexlt (x.take s) (y.take s) = true) : lexlt x y = true := by
  have h2 := (lexlt_take (x.length + y.length) s x y).2 (.inl h)
  rwa [List.take_of_length_le (by omega), List.take_of_length_le (by omega)] at h2

/-- Names tell the order of beginnings of length s. -/
structure NInv (l : List Int) (n s : Nat) (nm : Nat → Int) : Prop where
  lt : ∀ x y, x ≤ n → y ≤ n → (nm x < nm y ↔ lexlt ((l.drop x).take s) ((l.drop y).take s) = true)
  eq : ∀ x y, x ≤ n → y ≤ n → (nm x = nm y ↔ (l.drop x).take s = (l.drop y).take s)
  nn : ∀ x, x ≤ n → 0 ≤ nm x

theorem ninv_one (l : List Int) (h0 : ∀ k, k < l.length → 0 ≤ l.getD k 0) : NInv l l.length 1 (fun i => if i < l.length then l.getD i 0 + 1 else 0) := by
  have ht : ∀ x, x ≤ l.length → (l.drop x).take 1 = if x < l.length then [l.getD x 0] else [] := by
    intro x hx
    by_cases h : x < l.length
    · rw [if_pos h, List.drop_eq_getElem_cons h, List.getD_eq_getElem?_getD, List.getElem?_eq_getElem h]
      rfl
    · rw [if_neg h, List.drop_of_length_le (by omega)]
      rfl
  refine ⟨fun x y hx hy => ?_, fun x y hx hy => ?_, fun x hx => ?_⟩
  · rw [ht x hx, ht y hy]
    by_cases h1 : x < l.length
    · have g1 := h0 x h1
      by_cases h2 : y < l.length
      · rw [if_pos h1, if_pos h2, if_pos h1, if_pos h2, lexlt_cons]
        simp only [lexlt, Bool.false_eq_true, and_false, or_false]
        omega
      · rw [if_pos h1, if_neg h2, if_pos h1, if_neg h2]
        simp only [lexlt, Bool.false_eq_true, iff_false]
        omega
    · by_cases h2 : y < l.length
      · have g2 := h0 y h2
        rw [if_neg h1, if_pos h2, if_neg h1, if_pos h2]
        simp only [lexlt, iff_true]
        omega
      · rw [if_neg h1, if_neg h2, if_neg h1, if_neg h2]
        simp only [lexlt, Bool.false_eq_true, iff_false]
        omega
  · rw [ht x hx, ht y hy]
    by_cases h1 : x < l.length
    · have g1 := h0 x h1
      by_cases h2 : y < l.length
      · rw [if_pos h1, if_pos h2, if_pos h1, if_pos h2, List.cons.injEq]
        simp only [and_true]
        omega
      · rw [if_pos h1, if_neg h2, if_pos h1, if_neg h2]
        simp only [reduceCtorEq, iff_false]
        omega
    · by_cases h2 : y < l.length
      · have g2 := h0 y h2
        rw [if_neg h1, if_pos h2, if_neg h1, if_pos h2]
        simp only [reduceCtorEq, iff_false]
        omega
      · rw [if_neg h1, if_neg h2, if_neg h1, if_neg h2]
        simp
  · by_cases h1 : x < l.length
    · have := h0 x h1
      show 0 ≤ (if x < l.length then _ else _)
      rw [if_pos h1]; omega
    · show 0 ≤ (if x < l.length then _ else _)
      rw [if_neg h1]; omega

/-- The second name of a key. -/
def sec (nm : Nat → Int) (n s x : Nat) : Int := if n < x + s then -1 else nm (x + s)
theorem drop_same {l : List Int} {s x y : Nat} (hx : x ≤ l.length) (hy : y ≤ l.length) (h : (l.drop x).take s = (l.drop y).take s) : x = y ∨ x + s ≤ l.length ∧ y + s ≤ l.length := by
  have hl := congrArg List.length h
  simp only [List.length_take, List.length_drop] at hl
  omega
theorem key_lt {l : List Int} {s : Nat} {nm : Nat → Int} (h : NInv l l.length s nm) (x y : Nat) (hx : x ≤ l.length) (hy : y ≤ l.length) :
    (nm x < nm y ∨ nm x = nm y ∧ sec nm l.length s x < sec nm l.length s y) ↔ lexlt ((l.drop x).take (s + s)) ((l.drop y).take (s + s)) = true := by
  rw [lexlt_take s s, h.lt x y hx hy, h.eq x y hx hy]
  constructor
  · rintro (h1 | ⟨h1, h2⟩)
    · exact .inl h1
    · rcases drop_same hx hy h1 with rfl | ⟨hx2, hy2⟩
      · omega
      · unfold sec at h2
        rw [if_neg (by omega), if_neg (by omega), h.lt _ _ hx2 hy2] at h2
        rw [List.drop_drop, List.drop_drop]
        exact .inr ⟨h1, h2⟩
  · rintro (h1 | ⟨h1, h2⟩)
    · exact .inl h1
    · rcases drop_same hx hy h1 with rfl | ⟨hx2, hy2⟩
      · rw [lexlt_irrefl] at h2; cases h2
      · rw [List.drop_drop, List.drop_drop, ← h.lt _ _ hx2 hy2] at h2
        refine .inr ⟨h1, ?_⟩
        unfold sec
        rw [if_neg (by omega), if_neg (by omega)]
        exact h2
theorem key_eq {l : List Int} {s : Nat} {nm : Nat → Int} (h : NInv l l.length s nm) (x y : Nat) (hx : x ≤ l.length) (hy : y ≤ l.length) :
    (nm x = nm y ∧ sec nm l.length s x = sec nm l.length s y) ↔ (l.drop x).take (s + s) = (l.drop y).take (s + s) := by
  rw [take_eq s s, h.eq x y hx hy]
  constructor
  · rintro ⟨h1, h2⟩
    refine ⟨h1, ?_⟩
    rcases drop_same hx hy h1 with rfl | ⟨hx2, hy2⟩
    · rfl
    · unfold sec at h2
      rw [if_neg (by omega), if_neg (by omega), h.eq _ _ hx2 hy2] at h2
      rw [List.drop_drop, List.drop_drop]
      exact h2
  · rintro ⟨h1, h2⟩
    refine ⟨h1, ?_⟩
    rcases drop_same hx hy h1 with rfl | ⟨hx2, hy2⟩
    · rfl
    · rw [List.drop_drop, List.drop_drop, ← h.eq _ _ hx2 hy2] at h2
      unfold sec
      rw [if_neg (by omega), if_neg (by omega)]
      exact h2

/-- Ranks: how many others have come so far. -/
def ranks (T : Nat → List Int) : Nat → Nat
  | 0 => 0
  | k + 1 => if T k = T (k + 1) then ranks T k else ranks T k + 1
theorem ranks_succ (T : Nat → List Int) (k : Nat) : ranks T (k + 1) = if T k = T (k + 1) then ranks T k else ranks T k + 1 := rfl
theorem ranks_mono (T : Nat → List Int) (i : Nat) : ∀ j, i ≤ j → ranks T i ≤ ranks T j := by
  intro j hj
  induction hj with
  | refl => exact Nat.le_refl _
  | step _ ih => rw [ranks_succ]; split <;> omega
theorem ranks_eq (T : Nat → List Int) (n : Nat) (hs : ∀ i j, i < j → j ≤ n → ¬ lexlt (T j) (T i) = true) (i : Nat) : ∀ j, i ≤ j → j ≤ n → (ranks T i = ranks T j ↔ T i = T j) := by
  intro j hj
  induction hj with
  | refl => intro _; simp
  | @step j hj ih =>
    intro hn
    have hj : i ≤ j := hj
    have ih := ih (by omega)
    have hm := ranks_mono T i j hj
    rw [ranks_succ]
    constructor
    · intro h
      by_cases e : T j = T (j + 1)
      · rw [if_pos e] at h
        exact (ih.1 h).trans e
      · rw [if_neg e] at h
        omega
    · intro h
      have h1 : T i = T j := by
        rcases Nat.lt_or_ge i j with hlt | hge
        · exact (lexlt_eq_of_not (hs i j hlt (by omega)) (by rw [h]; exact hs j (j + 1) (by omega) hn)).symm
        · have : i = j := by omega
          rw [this]
      rw [if_pos (h1.symm.trans h)]
      exact ih.2 h1
theorem ranks_lt (T : Nat → List Int) (n : Nat) (hs : ∀ i j, i < j → j ≤ n → ¬ lexlt (T j) (T i) = true) (i j : Nat) (hi : i ≤ n) (hj : j ≤ n) : ranks T i < ranks T j ↔ lexlt (T i) (T j) = true := by
  rcases Nat.lt_trichotomy i j with h | h | h
  · have h1 := ranks_eq T n hs i j (by omega) hj
    have h2 := ranks_mono T i j (by omega)
    constructor
    · intro h3
      refine Classical.byContradiction fun h4 => ?_
      have := h1.2 (lexlt_eq_of_not h4 (hs i j h hj))
      omega
    · intro h3
      have : ranks T i ≠ ranks T j := fun e => by
        rw [h1.1 e, lexlt_irrefl] at h3
        cases h3
      omega
  · subst h
    rw [lexlt_irrefl]
    simp
  · have h2 := ranks_mono T j i (by omega)
    constructor
    · intro h3; omega
    · intro h3; exact absurd h3 (hs j i h hi)
theorem ranks_le (T : Nat → List Int) : ∀ k, ranks T k ≤ k
  | 0 => Nat.le_refl _
  | k + 1 => by have := ranks_le T k; rw [ranks_succ]; split <;> omega
theorem ranks_full (T : Nat → List Int) (n : Nat) (h : n ≤ ranks T n) : ∀ k, k ≤ n → ranks T k = k := by
  have h1 : ∀ j k, k + j = n → ranks T k = k := by
    intro j
    induction j with
    | zero => intro k hk; have := ranks_le T k; have : k = n := by omega
              subst this; omega
    | succ j ih =>
      intro k hk
      have h2 := ih (k + 1) (by omega)
      have h3 := ranks_le T k
      rw [ranks_succ] at h2
      split at h2 <;> omega
  intro k hk
  exact h1 (n - k) k (by omega)

/-- The order of ends of l. -/
structure IsSuf (l : List Int) (o : List Nat) : Prop where
  perm : o.Perm (List.range (l.length + 1))
  sorted : o.Pairwise fun x y => lexlt (l.drop x) (l.drop y) = true
theorem IsSuf.unique {l : List Int} {o o' : List Nat} (h : IsSuf l o) (h' : IsSuf l o') : o = o' :=
  List.Perm.eq_of_pairwise (le := fun x y => lexlt (l.drop x) (l.drop y) = true) (fun a b _ _ h1 h2 => by rw [lexlt_asymm h1] at h2; cases h2) h.sorted h'.sorted (h.perm.trans h'.perm.symm)
def sufN (l : List Int) : List Nat := (List.range (l.length + 1)).mergeSort fun x y => !lexlt (l.drop y) (l.drop x)
theorem drop_inj {l : List Int} {x y : Nat} (hx : x ≤ l.length) (hy : y ≤ l.length) (h : l.drop x = l.drop y) : x = y := by
  have := congrArg List.length h
  simp only [List.length_drop] at this
  omega
theorem sufN_is (l : List Int) : IsSuf l (sufN l) := by
  have hp : (sufN l).Perm (List.range (l.length + 1)) := List.mergeSort_perm _ _
  have hs : (sufN l).Pairwise fun x y => (!lexlt (l.drop y) (l.drop x)) = true := List.pairwise_mergeSort (fun a b c h1 h2 => by
      simp only [Bool.not_eq_true'] at h1 h2 ⊢
      cases h : lexlt (l.drop c) (l.drop a) with
      | false => rfl
      | true =>
        by_cases e : l.drop a = l.drop b
        · rw [e] at h; rw [h] at h2; cases h2
        · rcases lexlt_total e with h3 | h3
          · rw [lexlt_trans h h3] at h2; cases h2
          · rw [h3] at h1; cases h1) (fun a b => by
      cases h : lexlt (l.drop b) (l.drop a) with
      | false => simp
      | true => simp [lexlt_asymm h]) _
  have hn : (sufN l).Nodup := hp.nodup_iff.2 List.nodup_range
  refine ⟨hp, ?_⟩
  refine (hs.and hn).imp_of_mem fun {a b} ha hb h => ?_
  have h1 : lexlt (l.drop b) (l.drop a) = false := by simpa using h.1
  have ma := List.mem_range.1 (hp.mem_iff.1 ha)
  have mb := List.mem_range.1 (hp.mem_iff.1 hb)
  rcases lexlt_total (x := l.drop a) (y := l.drop b) (fun e => h.2 (drop_inj (by omega) (by omega) e)) with h2 | h2
  · exact h2
  · rw [h2] at h1; cases h1
/-- .. as the program has it. -/
def sufs (l : List Int) : List Int := (sufN l).map fun x : Nat => (x : Int)
theorem sufs_of {l : List Int} {o : List Nat} (h : IsSuf l o) : sufs l = o.map fun x : Nat => (x : Int) := by
  unfold sufs
  rw [(sufN_is l).unique h]
theorem sufs_length (l : List Int) : (sufs l).length = l.length + 1 := by
  unfold sufs
  rw [List.length_map, (sufN_is l).perm.length_eq, List.length_range]
end Go.Proofs.MathSuf
