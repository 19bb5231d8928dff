import Derived.Test.YtceompmfmceicaaMathTree
import Derived.Test.YtceompmfmceicaaMathCanon
import Derived.Test.YtceompmfmceicaaPHuffTellsx12
namespace Go.Proofs.Ytceompmfmceicaa.PureHuffTells
open Go.RowKit Go.Proofs.Ytceompmfmceicaa.PHuffTells Go.Proofs.YtceompmfmceicaaW.PrintWords Go.Proofs.YtceompmfmceicaaW.PrintLast
open Go.Proofs.MathCodes (len codes fitsB fitsB_in)
set_option linter.unusedVariables false
set_option linter.unusedSimpArgs false

theorem heads_0 : haystacklaw11_heads.f 3000 = some true := by decide +kernel
theorem heads_f (m : Nat) (h : 3000 ≤ m) : haystacklaw11_heads.f m = some true := by
  induction m with
  | zero => omega
  | succ m ih =>
    rcases Nat.lt_or_ge m 3000 with h1 | h1
    · have e : m + 1 = 3000 := by omega
      rw [e]; exact heads_0
    · exact haystacklaw11_heads.mono m _ (ih h1)
theorem rdn (l : List Int) (i : Nat) : rd l (i : Int) = l.getD i 0 := by simp [rd]
theorem w64n (x : Nat) (h : x < 9000000000000000000) : wrap64 (x : Int) = (x : Int) := by unfold wrap64; omega
theorem num_l0 (x : List Int) (hx : x.length ≤ 1000) : ∀ (m i q : Nat), i + m = x.length → m + 1 ≤ q → haystackref07_Numbers.l0 q x x (i : Int) = some true
  | 0, i, q, hi, hq => by
    obtain ⟨q, rfl⟩ : ∃ p, q = p + 1 := ⟨q - 1, by omega⟩
    unfold haystackref07_Numbers.l0
    try dsimp only
    rw [if_neg (by omega)]
  | m + 1, i, q, hi, hq => by
    obtain ⟨q, rfl⟩ : ∃ p, q = p + 1 := ⟨q - 1, by omega⟩
    have ih := num_l0 x hx m (i + 1) q (by omega) (by omega)
    unfold haystackref07_Numbers.l0
    try dsimp only
    rw [if_pos (by omega), if_pos (by omega), if_pos (by omega), if_pos rfl, show (i : Int) + 1 = ((i + 1 : Nat) : Int) by omega, w64n _ (by omega)]
    exact ih
theorem num_f (x : List Int) (hx : x.length ≤ 1000) (q : Nat) (hq : 1001 ≤ q) : haystackref07_Numbers.f q x x = some true := by
  unfold haystackref07_Numbers.f
  rw [if_pos rfl]
  exact num_l0 x hx x.length 0 q (by omega) (by omega)
theorem same_l0 (x : List S33) (hx : x.length ≤ 1000) : ∀ (m i q : Nat), i + m = x.length → m + 1 ≤ q → haystackref11_Same.l0 q x x (i : Int) = some true
  | 0, i, q, hi, hq => by
    obtain ⟨q, rfl⟩ : ∃ p, q = p + 1 := ⟨q - 1, by omega⟩
    unfold haystackref11_Same.l0
    try dsimp only
    rw [if_neg (by omega)]
  | m + 1, i, q, hi, hq => by
    obtain ⟨q, rfl⟩ : ∃ p, q = p + 1 := ⟨q - 1, by omega⟩
    have ih := same_l0 x hx m (i + 1) q (by omega) (by omega)
    unfold haystackref11_Same.l0
    try dsimp only
    rw [if_pos (by omega), if_pos (by omega), if_pos (by omega), if_neg (by simp), show (i : Int) + 1 = ((i + 1 : Nat) : Int) by omega, w64n _ (by omega)]
    exact ih
theorem same_f (x : List S33) (hx : x.length ≤ 1000) (q : Nat) (hq : 1001 ≤ q) : haystackref11_Same.f q x x = some true := by
  unfold haystackref11_Same.f
  rw [if_pos rfl]
  exact same_l0 x hx x.length 0 q (by omega) (by omega)
/-- The reference's counted. -/
theorem counted_l0 (x : List Int) (hx : x.length ≤ 1000) : ∀ (m i q : Nat), i + m = x.length → m + 1 ≤ q →
    haystackref11_counted.l0 q x (i : Int) = some (decide (x.length = 256) && !(x.drop i).any (Go.Proofs.Ytceompmfmceicaa.Huff.outP 1048576) || (decide (x.length = 256) && false))
  | 0, i, q, hi, hq => by
    obtain ⟨q, rfl⟩ : ∃ p, q = p + 1 := ⟨q - 1, by omega⟩
    unfold haystackref11_counted.l0
    try dsimp only
    rw [if_neg (by omega), List.drop_of_length_le (by omega)]
    by_cases h : x.length = 256
    · rw [h]; rfl
    · have e : ((x.length : Int) == 256) = false := by
        rw [beq_eq_false_iff_ne]; omega
      rw [e, decide_eq_false h]; rfl
  | m + 1, i, q, hi, hq => by
    obtain ⟨q, rfl⟩ : ∃ p, q = p + 1 := ⟨q - 1, by omega⟩
    have ih := counted_l0 x hx m (i + 1) q (by omega) (by omega)
    have hd : x.drop i = x.getD i 0 :: x.drop (i + 1) := by
      rw [List.drop_eq_getElem_cons (by omega), List.getD_eq_getElem?_getD, List.getElem?_eq_getElem (by omega)]; rfl
    unfold haystackref11_counted.l0
    try dsimp only
    rw [if_pos (by omega), if_pos (by omega), rdn, hd, List.any_cons]
    unfold Go.Proofs.Ytceompmfmceicaa.Huff.outP at ih ⊢
    by_cases c1 : x.getD i 0 < 0
    · rw [if_pos c1, decide_eq_true c1]; simp
    rw [if_neg c1]
    by_cases c2 : x.getD i 0 > 1048576
    · rw [if_pos c2, decide_eq_true (show 1048576 < x.getD i 0 from c2)]; simp
    rw [if_neg c2, decide_eq_false c1, decide_eq_false (show ¬ 1048576 < x.getD i 0 from c2), show (i : Int) + 1 = ((i + 1 : Nat) : Int) by omega, w64n _ (by omega), ih]
    simp
theorem counted_f (x : List Int) (hx : x.length ≤ 1000) (q : Nat) (hq : 1001 ≤ q) : haystackref11_counted.f q x = some (Go.Proofs.Ytceompmfmceicaa.Huff.countedB x) := by
  unfold haystackref11_counted.f
  have := counted_l0 x hx x.length 0 q (by omega) (by omega)
  rw [List.drop_zero] at this
  unfold Go.Proofs.Ytceompmfmceicaa.Huff.countedB
  simpa using this
open Go.Proofs.Ytceompmfmceicaa.Huff (costTo costF countedB outP counted_in)
theorem cost_bd {a b : List Int} (ha : countedB a = true) : ∀ i, i ≤ 256 → (∀ j, j < i → 0 ≤ b.getD j 0 ∧ b.getD j 0 ≤ 40) → 0 ≤ costTo a b i ∧ costTo a b i ≤ i * 41943040
  | 0, _, _ => ⟨Int.le_refl _, Int.le_refl _⟩
  | i + 1, hi, h => by
    have ih := cost_bd ha i (by omega) fun j hj => h j (by omega)
    have h1 := (counted_in ha).2 i (by omega)
    have h2 := h i (by omega)
    unfold costTo
    rw [rdn] at h1 ⊢
    rw [rdn]
    have h3 := Int.mul_nonneg h1.1 h2.1
    have h4 := Int.mul_le_mul h1.2 h2.2 h2.1 (by decide)
    omega
theorem cost_l0 {a b : List Int} (ha : countedB a = true) (hb : b.length = 256) : ∀ (m i q : Nat), i + m = 256 → m + 1 ≤ q → (∀ j, j < i → 0 ≤ b.getD j 0 ∧ b.getD j 0 ≤ 40) →
    haystackref11_Cost.l0 q a b (costTo a b i) (i : Int) = some (if b.any (outP 40) = true then 0 else costTo a b 256)
  | 0, i, q, hi, hq, h => by
    obtain ⟨q, rfl⟩ : ∃ p, q = p + 1 := ⟨q - 1, by omega⟩
    obtain rfl : i = 256 := by omega
    have hany : b.any (outP 40) = false := by
      rw [List.any_eq_false]
      intro y hy
      obtain ⟨s, hs, rfl⟩ := List.mem_iff_getElem.1 hy
      have h1 := h s (by omega)
      rw [List.getD_eq_getElem?_getD, List.getElem?_eq_getElem hs, Option.getD_some] at h1
      unfold outP
      simp
      omega
    unfold haystackref11_Cost.l0
    try dsimp only
    rw [if_neg (by omega), hany, if_neg (by decide)]
  | m + 1, i, q, hi, hq, h => by
    obtain ⟨q, rfl⟩ : ∃ p, q = p + 1 := ⟨q - 1, by omega⟩
    have hmem : b.getD i 0 ∈ b := by
      rw [List.getD_eq_getElem?_getD, List.getElem?_eq_getElem (show i < b.length by omega)]
      exact List.getElem_mem _
    have bad : ¬ (0 ≤ b.getD i 0 ∧ b.getD i 0 ≤ 40) → b.any (outP 40) = true := fun hn => by
      rw [List.any_eq_true]
      refine ⟨_, hmem, ?_⟩
      unfold outP
      rw [Bool.or_eq_true, decide_eq_true_eq, decide_eq_true_eq]
      omega
    have hal := (counted_in ha).1
    unfold haystackref11_Cost.l0
    try dsimp only
    rw [if_pos (by omega), if_pos (by omega), if_pos (by omega), rdn, rdn]
    by_cases c1 : b.getD i 0 < 0
    · rw [if_pos c1, bad (by omega), if_pos rfl]
    rw [if_neg c1]
    by_cases c2 : b.getD i 0 > 40
    · rw [if_pos c2, bad (by omega), if_pos rfl]
    rw [if_neg c2, if_pos (by omega)]
    have h' : ∀ j, j < i + 1 → 0 ≤ b.getD j 0 ∧ b.getD j 0 ≤ 40 := fun j hj => by
      by_cases e : j = i
      · subst e; omega
      · exact h j (by omega)
    have ih := cost_l0 ha hb m (i + 1) q (by omega) (by omega) h'
    have b1 := cost_bd ha i (by omega) h
    have b2 := cost_bd ha (i + 1) (by omega) h'
    have e : costTo a b (i + 1) = costTo a b i + a.getD i 0 * b.getD i 0 := by
      show costTo a b i + rd a (i : Int) * rd b (i : Int) = _
      rw [rdn, rdn]
    have w : ∀ z : Int, -100000000000 ≤ z → z ≤ 100000000000 → wrap64 z = z := fun z h1 h2 => by unfold wrap64; omega
    generalize costTo a b i = S at b1 e ⊢
    generalize a.getD i 0 * b.getD i 0 = p at e ⊢
    rw [w p (by omega) (by omega), w (S + p) (by omega) (by omega), ← e, show (i : Int) + 1 = ((i + 1 : Nat) : Int) by omega, w64n _ (by omega)]
    exact ih
theorem cost_f (a b : List Int) (ha : a.length ≤ 1000) (hb : b.length ≤ 1000) (q : Nat) (hq : 1002 ≤ q) : haystackref11_Cost.f q a b = some (costF a b) := by
  obtain ⟨q, rfl⟩ : ∃ p, q = p + 1 := ⟨q - 1, by omega⟩
  unfold haystackref11_Cost.f
  rw [counted_f a ha (q + 1) (by omega), Option.bind_some]
  have stop : haystackref11_Cost.j0 (q + 1) a b true = some 0 := by
    unfold haystackref11_Cost.j0
    try dsimp only
    rw [if_pos rfl]
  unfold costF
  cases hc : countedB a with
  | false =>
    rw [if_neg (by decide), stop]
    rfl
  | true =>
    rw [if_pos rfl]
    by_cases h : b.length = 256
    · have e : ((b.length : Int) != 256) = false := by rw [h]; decide
      rw [e, decide_eq_true h]
      unfold haystackref11_Cost.j0
      try dsimp only
      rw [if_neg (by decide)]
      have := cost_l0 hc h 256 0 q (by omega) (by omega) (fun j hj => absurd hj (Nat.not_lt_zero _))
      refine Eq.trans this ?_
      cases b.any (outP 40) <;> rfl
    · have e : ((b.length : Int) != 256) = true := by
        rw [bne_iff_ne]; omega
      rw [e, stop, decide_eq_false h]
      rfl
open Go.Proofs.MathCodes (sumTo cntTo maxTo inB kraftB inB_iff sumTo_bd cntTo_bd maxTo_bd part_bd)
theorem cnt0_max {l : List Int} : ∀ n, cntTo l n = 0 → maxTo l n = 0
  | 0, _ => rfl
  | n + 1, h => by
    have hb := cntTo_bd l n
    unfold cntTo at h
    unfold maxTo
    by_cases hp : 0 < len l n
    · rw [if_pos hp] at h; omega
    · rw [if_neg hp] at h
      rw [if_neg hp]
      exact cnt0_max n (by omega)
theorem fits_l0 {l : List Int} (hl : l.length = 256) : ∀ (m i q : Nat) (last : Int), i + m = 256 → 2 * m + 2 ≤ q → (∀ j, j < i → 0 ≤ len l j ∧ len l j ≤ 40) → (cntTo l i = 1 → last = maxTo l i) →
    haystackref11_Fits.l0 q l (sumTo l i) (cntTo l i) last (i : Int) = some (inB l && kraftB l)
  | 0, i, q, last, hi, hq, h, hlast => by
    obtain ⟨q, rfl⟩ : ∃ p, q = p + 1 := ⟨q - 1, by omega⟩
    obtain rfl : i = 256 := by omega
    have hin : inB l = true := inB_iff.2 h
    unfold haystackref11_Fits.l0
    try dsimp only
    rw [if_neg (by omega), hin, Bool.true_and]
    unfold kraftB
    by_cases c1 : sumTo l 256 = 1099511627776
    · rw [if_pos c1, c1]; simp
    · rw [if_neg c1]
      have e1 : (sumTo l 256 == 1099511627776) = false := by rw [beq_eq_false_iff_ne]; exact c1
      rw [e1, Bool.or_false]
      by_cases c2 : cntTo l 256 = 1
      · rw [if_pos c2, hlast c2, c2]
        by_cases c3 : maxTo l 256 = 1
        · rw [if_pos c3, c3]; rfl
        · have e3 : (maxTo l 256 == 1) = false := by rw [beq_eq_false_iff_ne]; exact c3
          rw [if_neg c3, e3]; rfl
      · have e2 : (cntTo l 256 == 1) = false := by rw [beq_eq_false_iff_ne]; exact c2
        rw [if_neg c2, e2]
        simp
  | m + 1, i, q, last, hi, hq, h, hlast => by
    obtain ⟨q, rfl⟩ : ∃ p, q = p + 1 + 1 := ⟨q - 2, by omega⟩
    have bad : ¬ (0 ≤ len l i ∧ len l i ≤ 40) → inB l = false := fun hn => by
      cases hb : inB l with
      | false => rfl
      | true => exact absurd (inB_iff.1 hb i (by omega)) hn
    have hr : rd l (i : Int) = len l i := rdn l i
    unfold haystackref11_Fits.l0
    try dsimp only
    rw [if_pos (by omega), if_pos (by omega), hr]
    by_cases c1 : len l i < 0
    · rw [if_pos c1, bad (by omega)]
      unfold haystackref11_Fits.j1
      try dsimp only
      rw [if_pos rfl]; rfl
    rw [if_neg c1]
    by_cases c2 : len l i > 40
    · rw [decide_eq_true c2, bad (by omega)]
      unfold haystackref11_Fits.j1
      try dsimp only
      rw [if_pos rfl]; rfl
    rw [decide_eq_false c2]
    unfold haystackref11_Fits.j1
    try dsimp only
    have h' : ∀ j, j < i + 1 → 0 ≤ len l j ∧ len l j ≤ 40 := fun j hj => by
      by_cases e : j = i
      · subst e; omega
      · exact h j (by omega)
    rw [if_neg (by decide), if_pos (by omega), if_pos (by omega), hr]
    have bs := sumTo_bd l i fun c hc => (h c hc).2
    have bc := cntTo_bd l i
    have hw : ∀ z : Int, -9000000000000000000 ≤ z → z ≤ 9000000000000000000 → wrap64 z = z := fun z h1 h2 => by unfold wrap64; omega
    have en : (i : Int) + 1 = ((i + 1 : Nat) : Int) := by omega
    by_cases c3 : len l i > 0
    · have ih := fits_l0 hl m (i + 1) q (len l i) (by omega) (by omega) h' (fun hc => by
        have h0 : cntTo l i = 0 := by
          unfold cntTo at hc
          rw [if_pos c3] at hc
          omega
        unfold maxTo
        rw [if_pos c3, cnt0_max i h0, if_pos c3])
      have pb := part_bd (len l i) (by omega)
      have e1 : sumTo l (i + 1) = sumTo l i + MathCodes.part (len l i) := rfl
      have e2 : cntTo l (i + 1) = cntTo l i + 1 := by show cntTo l i + (if 0 < len l i then 1 else 0) = _; rw [if_pos c3]
      have e3 : IntKind.u64.wrap (wrap64 (40 - len l i)) = 40 - len l i := by rw [hw _ (by omega) (by omega), IntKind.wrap_u64]; omega
      have e4 : shl .i64 1 (40 - len l i) = MathCodes.part (len l i) := by
        unfold shl
        rw [Nat.min_eq_left (by show (40 - len l i).toNat ≤ 64; omega), Int.one_mul]
        have ep : MathCodes.part (len l i) = 2 ^ (40 - len l i).toNat := by unfold MathCodes.part; rw [if_pos c3]
        rw [← ep, IntKind.wrap_i64]
        omega
      rw [e3, if_pos c3, if_pos (by omega), e4, hw _ (by omega) (by omega), hw _ (by omega) (by omega), ← e1, ← e2, en, w64n _ (by omega)]
      exact ih
    · have ih := fits_l0 hl m (i + 1) q last (by omega) (by omega) h' (fun hc => by
        have h0 : cntTo l i = 1 := by
          unfold cntTo at hc
          rw [if_neg c3] at hc
          omega
        unfold maxTo
        rw [if_neg c3]
        exact hlast h0)
      have e1 : sumTo l (i + 1) = sumTo l i := by
        show sumTo l i + MathCodes.part (len l i) = _
        have : MathCodes.part (len l i) = 0 := by unfold MathCodes.part; rw [if_neg c3]
        omega
      have e2 : cntTo l (i + 1) = cntTo l i := by show cntTo l i + (if 0 < len l i then 1 else 0) = _; rw [if_neg c3]; omega
      rw [if_neg c3, ← e1, ← e2, en, w64n _ (by omega)]
      exact ih
theorem fits_f (l : List Int) (q : Nat) (hq : 1002 ≤ q) : haystackref11_Fits.f q l = some (fitsB l) := by
  unfold haystackref11_Fits.f
  unfold fitsB
  by_cases h : l.length = 256
  · rw [if_pos (by omega), decide_eq_true h, Bool.true_and]
    exact fits_l0 h 256 0 q 0 (by omega) (by omega) (fun j hj => absurd hj (Nat.not_lt_zero _)) (fun hc => by simp [cntTo] at hc)
  · rw [if_neg (by omega), decide_eq_false h]
    rfl
/-! ### The reference's codes -/
def pref (l : List Int) (n c : Nat) : List Nat := ((List.range n).flatMap fun n : Nat => (List.range 256).filter fun c => decide (len l c = (n : Int))) ++ (List.range c).filter fun d => decide (len l d = (n : Int))
def F (l : List Int) (n c : Nat) : MathCodes.St := (pref l n c).foldl (MathCodes.step l) MathCodes.start
theorem F_succ (l : List Int) (n c : Nat) : F l n (c + 1) = if len l c = (n : Int) then MathCodes.step l (F l n c) c else F l n c := by
  unfold F pref
  rw [show List.range (c + 1) = List.range c ++ [c] from List.range_succ, List.filter_append, ← List.append_assoc, List.foldl_append]
  by_cases h : len l c = (n : Int)
  · rw [if_pos h, List.filter_cons_of_pos (by simpa using h)]; rfl
  · rw [if_neg h, List.filter_cons_of_neg (by simpa using h)]; rfl
theorem F_row (l : List Int) (n : Nat) : F l n 256 = F l (n + 1) 0 := by
  unfold F pref
  rw [show List.range (n + 1) = List.range n ++ [n] from List.range_succ, List.flatMap_append, List.range_zero, List.filter_nil, List.append_nil]
  simp only [List.flatMap_cons, List.flatMap_nil, List.append_nil]
theorem F_all (l : List Int) : (F l 41 0).out = codes l := by
  unfold F pref MathCodes.codes MathCodes.order
  rw [List.range_zero, List.filter_nil, List.append_nil]
theorem F_one (l : List Int) : F l 1 0 = MathCodes.start := by
  have h : ∀ (cs : List Nat) (s : MathCodes.St), (∀ d ∈ cs, len l d = 0) → cs.foldl (MathCodes.step l) s = s := by
    intro cs
    induction cs with
    | nil => intro s _; rfl
    | cons c cs ih =>
      intro s hc
      have h0 := hc c (List.mem_cons_self ..)
      rw [List.foldl_cons]
      have e : MathCodes.step l s c = s := by unfold MathCodes.step; rw [if_neg (by omega)]
      rw [e]
      exact ih s fun d hd => hc d (List.mem_cons_of_mem _ hd)
  refine h _ _ fun d hd => ?_
  unfold pref at hd
  rcases List.mem_append.1 hd with hd | hd
  · obtain ⟨n, hn, hd⟩ := List.mem_flatMap.1 hd
    have h1 := List.mem_range.1 hn
    have h2 := of_decide_eq_true (List.mem_filter.1 hd).2
    omega
  · simp at hd
theorem F_long (l : List Int) (n c : Nat) : 0 ≤ (F l n c).long ∧ (F l n c).long ≤ n ∧ (F l n c).out.length = 256 := by
  have h : ∀ (cs : List Nat) (s : MathCodes.St), (∀ d ∈ cs, len l d ≤ n) → 0 ≤ s.long ∧ s.long ≤ n ∧ s.out.length = 256 → 0 ≤ (cs.foldl (MathCodes.step l) s).long ∧ (cs.foldl (MathCodes.step l) s).long ≤ n ∧ (cs.foldl (MathCodes.step l) s).out.length = 256 := by
    intro cs
    induction cs with
    | nil => intro s _ h; exact h
    | cons c cs ih =>
      intro s hc hs
      have h0 := hc c (List.mem_cons_self ..)
      rw [List.foldl_cons]
      refine ih _ (fun d hd => hc d (List.mem_cons_of_mem _ hd)) ?_
      unfold MathCodes.step
      split
      · exact ⟨by show 0 ≤ len l c; omega, h0, by show (s.out.set _ _).length = 256; rw [List.length_set]; exact hs.2.2⟩
      · exact hs
  refine h _ _ (fun d hd => ?_) ⟨Int.le_refl _, Int.natCast_nonneg _, List.length_replicate⟩
  unfold pref at hd
  rcases List.mem_append.1 hd with hd | hd
  · obtain ⟨k, hn, hd⟩ := List.mem_flatMap.1 hd
    have h1 := List.mem_range.1 hn
    have h2 := of_decide_eq_true (List.mem_filter.1 hd).2
    omega
  · have h2 := of_decide_eq_true (List.mem_filter.1 hd).2
    omega
def toS (o : List (Int × Int)) : List S33 := o.map fun p => ⟨p.1, p.2⟩
theorem codes_l1 {l : List Int} (hl : l.length = 256) (n r : Nat) (hn : 1 ≤ n) (hn40 : n ≤ 40)
    (ih0 : ∀ q, r ≤ q → haystackref11_Codes.l0 q l (toS (F l (n + 1) 0).out) (F l (n + 1) 0).next (F l (n + 1) 0).long ((n + 1 : Nat) : Int) = some (codesS l, 0)) :
    ∀ (m c q : Nat), c + m = 256 → m + 1 + r ≤ q → haystackref11_Codes.l1 q l (toS (F l n c).out) (F l n c).next (F l n c).long (n : Int) (c : Int) = some (codesS l, 0)
  | 0, c, q, hc, hq => by
    obtain ⟨q, rfl⟩ : ∃ p, q = p + 1 := ⟨q - 1, by omega⟩
    obtain rfl : c = 256 := by omega
    unfold haystackref11_Codes.l1
    try dsimp only
    rw [if_neg (by omega), show (n : Int) + 1 = ((n + 1 : Nat) : Int) by omega, w64n _ (by omega), F_row]
    exact ih0 q (by omega)
  | m + 1, c, q, hc, hq => by
    obtain ⟨q, rfl⟩ : ∃ p, q = p + 1 := ⟨q - 1, by omega⟩
    have ih := codes_l1 hl n r hn hn40 ih0 m (c + 1) q (by omega) (by omega)
    have hr : rd l (c : Int) = len l c := rdn l c
    obtain ⟨g1, g2, g3⟩ := F_long l n c
    rw [F_succ] at ih
    unfold haystackref11_Codes.l1
    try dsimp only
    rw [if_pos (by omega), if_pos (by omega), if_pos (by omega), hr, show (c : Int) + 1 = ((c + 1 : Nat) : Int) by omega, w64n _ (by omega)]
    generalize F l n c = s at *
    by_cases h : len l c = (n : Int)
    · rw [if_pos h] at ih
      have e1 : IntKind.u64.wrap (wrap64 ((n : Int) - s.long)) = (n : Int) - s.long := by
        have : wrap64 ((n : Int) - s.long) = (n : Int) - s.long := by unfold wrap64; omega
        rw [this, IntKind.wrap_u64]; omega
      have e2 : shl .u64 s.next ((n : Int) - s.long) = MathCodes.shl64 s.next (len l c - s.long) := by
        unfold shl MathCodes.shl64
        rw [h, Nat.min_eq_left (by show ((n : Int) - s.long).toNat ≤ 64; omega)]
      have e3 : MathCodes.step l s c = ⟨IntKind.u64.wrap (MathCodes.shl64 s.next (len l c - s.long) + 1), len l c, s.out.set c (len l c, MathCodes.shl64 s.next (len l c - s.long))⟩ := by
        unfold MathCodes.step; rw [if_pos (by omega)]
      rw [e3] at ih
      have e4 : toS (s.out.set c (len l c, MathCodes.shl64 s.next (len l c - s.long))) = (toS s.out).set c ⟨(n : Int), MathCodes.shl64 s.next (len l c - s.long)⟩ := by
        unfold toS
        rw [List.map_set, h]
      have ih : haystackref11_Codes.l1 q l (toS (s.out.set c (len l c, MathCodes.shl64 s.next (len l c - s.long)))) (IntKind.u64.wrap (MathCodes.shl64 s.next (len l c - s.long) + 1)) (len l c) (n : Int) ((c + 1 : Nat) : Int) = some (codesS l, 0) := ih
      rw [e4, h] at ih
      have g4 : (toS s.out).length = 256 := by unfold toS; rw [List.length_map]; exact g3
      rw [if_pos h, e1, if_pos (by omega), if_pos (by omega), e2, Int.toNat_natCast, h]
      exact ih
    · rw [if_neg h] at ih
      rw [if_neg h]
      exact ih
theorem codes_l0 {l : List Int} (hl : l.length = 256) : ∀ (r n q : Nat), n + r = 41 → 1 ≤ n → 258 * r + 1 ≤ q → haystackref11_Codes.l0 q l (toS (F l n 0).out) (F l n 0).next (F l n 0).long (n : Int) = some (codesS l, 0)
  | 0, n, q, hn, h1, hq => by
    obtain ⟨q, rfl⟩ : ∃ p, q = p + 1 := ⟨q - 1, by omega⟩
    obtain rfl : n = 41 := by omega
    unfold haystackref11_Codes.l0
    try dsimp only
    rw [if_neg (by omega), F_all]
    rfl
  | r + 1, n, q, hn, h1, hq => by
    obtain ⟨q, rfl⟩ : ∃ p, q = p + 1 := ⟨q - 1, by omega⟩
    have ih := codes_l0 hl r (n + 1)
    unfold haystackref11_Codes.l0
    try dsimp only
    rw [if_pos (by omega)]
    exact codes_l1 hl n (258 * r + 1) h1 (by omega) (fun q hq => ih q (by omega) (by omega) hq) 256 0 q (by omega) (by omega)
theorem codes_f (l : List Int) (q : Nat) (hq : 11000 ≤ q) : haystackref11_Codes.f q l = huff_Codes.f l := by
  unfold haystackref11_Codes.f huff_Codes.f
  rw [fits_f l q (by omega), Option.bind_some]
  cases hf : fitsB l with
  | false => rw [if_neg (by decide), if_neg (by decide)]
  | true =>
    rw [if_pos rfl, if_pos (by decide), if_pos rfl]
    have := codes_l0 (fitsB_in hf).1 40 1 q (by omega) (by omega) (by omega)
    rw [F_one] at this
    have e : toS MathCodes.start.out = List.replicate 256 z33 := by
      unfold toS MathCodes.start
      rw [List.map_replicate]
      rfl
    rw [e] at this
    exact this
/-! ### The reference's lengths -/
open Go.Proofs.MathHuff (It dflt befI leastAt least rest join hgo bump begin_ cnt noughts lens least_go leastAt_lt)
def toI (t : It) : S65 := ⟨(t.id : Int), t.w, t.syms.map fun c : Nat => (c : Int)⟩
def toL (l : List It) : List S65 := l.map toI
theorem toL_length (l : List It) : (toL l).length = l.length := by unfold toL; rw [List.length_map]
theorem toL_at (l : List It) (i : Nat) (h : i < l.length) : rd_T65 (toL l) (i : Int) = toI (l.getD i dflt) := by
  unfold rd_T65 toL
  rw [Int.toNat_natCast, List.getD_eq_getElem?_getD, List.getD_eq_getElem?_getD, List.getElem?_map, List.getElem?_eq_getElem h]
  rfl
def A (l : List It) (n : Nat) : Nat := (List.range n).foldl (fun m i => if befI (l.getD i dflt) (l.getD m dflt) then i else m) 0
theorem A_succ (l : List It) (n : Nat) : A l (n + 1) = if befI (l.getD n dflt) (l.getD (A l n) dflt) then n else A l n := by
  unfold A
  rw [show List.range (n + 1) = List.range n ++ [n] from List.range_succ, List.foldl_append]
  rfl
theorem A_lt (l : List It) (h : l ≠ []) (n : Nat) (hn : n ≤ l.length) : A l n < l.length := ((least_go l n hn).1).resolve_right h
theorem A_one (l : List It) : A l 1 = 0 := by
  rw [A_succ]
  have : A l 0 = 0 := rfl
  rw [this]
  split <;> rfl
theorem least_l0 (l : List It) (h : l ≠ []) (hl : l.length ≤ 1000) : ∀ (m i q : Nat), i + m = l.length → m + 1 ≤ q → haystackref11_least.l0 q (toL l) (A l i : Int) (i : Int) = some (leastAt l : Int)
  | 0, i, q, hi, hq => by
    obtain ⟨q, rfl⟩ : ∃ p, q = p + 1 := ⟨q - 1, by omega⟩
    obtain rfl : i = l.length := by omega
    unfold haystackref11_least.l0
    try dsimp only
    rw [toL_length, if_neg (by omega)]
    rfl
  | m + 1, i, q, hi, hq => by
    obtain ⟨q, rfl⟩ : ∃ p, q = p + 1 := ⟨q - 1, by omega⟩
    have ih := least_l0 l h hl m (i + 1) q (by omega) (by omega)
    have ha := A_lt l h i (by omega)
    rw [A_succ] at ih
    unfold haystackref11_least.l0
    try dsimp only
    rw [toL_length, if_pos (by omega), if_pos (by omega), if_pos (by omega), if_pos (by omega), toL_at l i (by omega), toL_at l _ ha, show (i : Int) + 1 = ((i + 1 : Nat) : Int) by omega, w64n _ (by omega)]
    unfold befI at ih
    have e0 : ∀ t : It, (toI t).f0 = (t.id : Int) := fun _ => rfl
    have e1 : ∀ t : It, (toI t).f1 = t.w := fun _ => rfl
    rw [e0, e0, e1, e1]
    generalize l.getD i dflt = x at ih ⊢
    generalize l.getD (A l i) dflt = y at ih ⊢
    by_cases c1 : x.w < y.w
    · rw [if_pos (decide_eq_true (by omega))] at ih
      rw [if_pos c1]; exact ih
    rw [if_neg c1]
    by_cases c2 : x.w = y.w
    · rw [if_pos c2]
      by_cases c3 : x.id < y.id
      · rw [if_pos (decide_eq_true (by omega))] at ih
        rw [if_pos (by omega)]; exact ih
      · rw [if_neg (by rw [decide_eq_true_eq]; omega)] at ih
        rw [if_neg (by omega)]; exact ih
    · rw [if_neg (by rw [decide_eq_true_eq]; omega)] at ih
      rw [if_neg c2]; exact ih
theorem least_f (l : List It) (h : l ≠ []) (hl : l.length ≤ 1000) (q : Nat) (hq : 1001 ≤ q) : haystackref11_least.f q (toL l) = some (leastAt l : Int) := by
  unfold haystackref11_least.f
  have hp : 0 < l.length := List.length_pos_iff.2 h
  have := least_l0 l h hl (l.length - 1) 1 q (by omega) (by omega)
  rw [A_one] at this
  exact this
theorem without_f (l : List It) (i : Nat) (hi : i < l.length) (hl : l.length ≤ 1000) : haystackref11_without.f (toL l) (i : Int) = some (toL (l.eraseIdx i)) := by
  unfold haystackref11_without.f
  have hn := toL_length l
  rw [Option.bind_some, if_pos (by omega), if_pos (by omega), Option.bind_some, List.nil_append, if_pos (by rw [List.length_take]; simp; omega), Option.bind_some, show (i : Int) + 1 = ((i + 1 : Nat) : Int) by omega, w64n _ (by omega), if_pos (by omega), if_pos (by omega), Option.bind_some,
    if_pos (by rw [List.length_take, List.length_drop]; omega)]
  rw [Int.toNat_natCast, Int.toNat_natCast, List.eraseIdx_eq_take_drop_succ]
  unfold toL
  rw [List.map_append, List.map_take, List.map_drop]
def cs (s : List Nat) : List Int := s.map fun c : Nat => (c : Int)
theorem cs_rd (s : List Nat) (j : Nat) (h : j < s.length) : rd (cs s) (j : Int) = (s[j] : Int) := by
  rw [rdn]
  unfold cs
  rw [List.getD_eq_getElem?_getD, List.getElem?_map, List.getElem?_eq_getElem h]
  rfl
theorem bump_take (out : List Int) (s : List Nat) (j : Nat) (h : j < s.length) : bump out (s.take (j + 1)) = (bump out (s.take j)).set s[j] ((bump out (s.take j)).getD s[j] 0 + 1) := by
  rw [List.take_succ_eq_append_getElem h]
  unfold bump
  rw [List.foldl_append]
  rfl
theorem l2_go {s : List Nat} {out : List Int} {x4 : List S65} {x7 : Int} {B r : Nat} {R : Option (List Int × Int)} (hs : ∀ c ∈ s, c < 256) (hsl : s.length ≤ 256) (ho : out.length = 256) (hB : ∀ c, c < 256 → 0 ≤ out.getD c 0 ∧ out.getD c 0 ≤ B) (hB2 : B ≤ 1000000) (hx4 : x4.length ≤ 1000)
    (a0 a1 : Int) (a2 : List Int) (b0 b1 : Int) (b2 : List Int) (hend : ∀ q, r ≤ q → haystackref11_Lengths.l1 q (x4 ++ [⟨x7, wrap64 (a1 + b1), cs s⟩]) (bump out s) (wrap64 (x7 + 1)) = R) :
    ∀ (m j q : Nat), j + m = s.length → m + 1 + r ≤ q → haystackref11_Lengths.l2 q x4 (bump out (s.take j)) x7 (cs s) (j : Int) a0 a1 a2 b0 b1 b2 = R
  | 0, j, q, hj, hq => by
    obtain ⟨q, rfl⟩ : ∃ p, q = p + 1 := ⟨q - 1, by omega⟩
    have hcl : (cs s).length = s.length := by unfold cs; rw [List.length_map]
    unfold haystackref11_Lengths.l2
    try dsimp only
    rw [if_neg (by omega), if_pos (by omega), List.take_of_length_le (by omega)]
    exact hend q (by omega)
  | m + 1, j, q, hj, hq => by
    obtain ⟨q, rfl⟩ : ∃ p, q = p + 1 := ⟨q - 1, by omega⟩
    have ih := l2_go hs hsl ho hB hB2 hx4 a0 a1 a2 b0 b1 b2 hend m (j + 1) q (by omega) (by omega)
    have hcl : (cs s).length = s.length := by unfold cs; rw [List.length_map]
    have hjl : j < s.length := by omega
    have hc := hs s[j] (List.getElem_mem _)
    have hbl := Go.Proofs.MathHuff.bump_length (s.take j) out
    have hbg := Go.Proofs.MathHuff.bump_get (s.take j) out s[j] (by omega)
    have hcnt : (s.take j).count s[j] ≤ j := Nat.le_trans List.count_le_length (by rw [List.length_take]; omega)
    have hb := hB s[j] hc
    rw [bump_take out s j hjl] at ih
    unfold haystackref11_Lengths.l2
    try dsimp only
    rw [if_pos (by omega), if_pos (by omega), cs_rd s j hjl, if_pos (by omega), if_pos (by omega), rdn, Int.toNat_natCast]
    have e : wrap64 ((bump out (s.take j)).getD s[j] 0 + 1) = (bump out (s.take j)).getD s[j] 0 + 1 := by
      rw [hbg]; unfold wrap64; omega
    rw [e, show (j : Int) + 1 = ((j + 1 : Nat) : Int) by omega, w64n _ (by omega)]
    exact ih
def wsum (l : List It) : Int := (l.map It.w).sum
def ssum (l : List It) : Nat := (l.map fun t => t.syms.length).sum
theorem wsum_perm {a b : List It} (h : a.Perm b) : wsum a = wsum b := by
  unfold wsum
  have : ∀ x y : List Int, x.Perm y → x.sum = y.sum := by
    intro x y hab
    induction hab with
    | nil => rfl
    | cons x _ ih => simp only [List.sum_cons, ih]
    | swap x y l => simp only [List.sum_cons]; omega
    | trans _ _ h1 h2 => exact h1.trans h2
  exact this _ _ (h.map It.w)
theorem ssum_perm {a b : List It} (h : a.Perm b) : ssum a = ssum b := (h.map _).sum_nat
theorem wsum_nonneg (l : List It) (h : ∀ t ∈ l, 0 < t.w) : 0 ≤ wsum l := by
  induction l with
  | nil => exact Int.le_refl _
  | cons t l ih =>
    have h1 := ih fun s hs => h s (List.mem_cons_of_mem _ hs)
    have h2 := h t (List.mem_cons_self ..)
    unfold wsum at h1 ⊢
    rw [List.map_cons, List.sum_cons]
    omega
open Go.Proofs.MathHuff (rest_perm rest_length least_mem bump_length bump_get) in
set_option maxRecDepth 20000 in
theorem l1_go : ∀ (f next q : Nat) (l : List It) (out : List Int) (B : Nat), l.length ≤ f + 1 → l.length ≤ 256 → next + f ≤ 100000 → f ≤ 300 → out.length = 256 → (∀ c, c < 256 → 0 ≤ out.getD c 0 ∧ out.getD c 0 ≤ B) → B + 256 * f ≤ 1000000 →
    (∀ t ∈ l, 0 < t.w ∧ ∀ c ∈ t.syms, c < 256) → ssum l ≤ 256 → wsum l ≤ 1000000000 → 300 * f + 1100 ≤ q →
    haystackref11_Lengths.l1 q (toL l) out (next : Int) = some (hgo f next l out, 0)
  | f, next, q, l, out, B, h1, h2, h3, hf, h4, h5, h6, h7, h8, h9, hq => by
    obtain ⟨q, rfl⟩ : ∃ p, q = p + 1 := ⟨q - 1, by omega⟩
    unfold haystackref11_Lengths.l1
    try dsimp only
    rw [toL_length]
    by_cases c1 : l.length ≤ 1
    · rw [if_neg (by omega)]
      cases f with
      | zero => rfl
      | succ f => unfold hgo; rw [if_pos c1]
    rw [if_pos (by omega)]
    match f, h1, h3, hf, h6, hq with
    | 0, h1, _, _, _, _ => omega
    | f + 1, h1, h3, hf, h6, hq =>
      have hq1 : 1001 ≤ q := by omega
      have hl0 : l ≠ [] := by rintro rfl; simp at c1
      have hr := rest_length hl0
      have hr0 : rest l ≠ [] := fun e => by rw [e] at hr; simp at hr; omega
      have hrr := rest_length hr0
      have hp : l.Perm (least l :: least (rest l) :: rest (rest l)) := (rest_perm hl0).trans ((rest_perm hr0).cons _)
      have m1 : least l ∈ l := least_mem hl0
      have m2 : least (rest l) ∈ l := hp.mem_iff.2 (List.mem_cons_of_mem _ (List.mem_cons_self ..))
      have hs := ssum_perm hp
      have hw := wsum_perm hp
      have hs2 : ssum (least l :: least (rest l) :: rest (rest l)) = (least l).syms.length + ((least (rest l)).syms.length + ssum (rest (rest l))) := rfl
      have hw2 : wsum (least l :: least (rest l) :: rest (rest l)) = (least l).w + ((least (rest l)).w + wsum (rest (rest l))) := rfl
      have hwn := wsum_nonneg (rest (rest l)) fun t ht => (h7 t (hp.mem_iff.2 (List.mem_cons_of_mem _ (List.mem_cons_of_mem _ ht)))).1
      have w1 := (h7 _ m1).1
      have w2 := (h7 _ m2).1
      have k1 := leastAt_lt hl0
      have k2 := leastAt_lt hr0
      have sl : ((least l).syms ++ (least (rest l)).syms).length ≤ 256 := by rw [List.length_append]; omega
      have sc : ∀ c ∈ (least l).syms ++ (least (rest l)).syms, c < 256 := fun c hc => by
        rcases List.mem_append.1 hc with hc | hc
        · exact (h7 _ m1).2 c hc
        · exact (h7 _ m2).2 c hc
      have ih := fun q hq => l1_go f (next + 1) q (rest (rest l) ++ [join next l]) (bump out ((least l).syms ++ (least (rest l)).syms)) (B + 256) (by simp; omega) (by simp; omega) (by omega) (by omega) (by rw [bump_length]; exact h4) (fun c hc => by
        have g := bump_get ((least l).syms ++ (least (rest l)).syms) out c (by omega)
        have g2 := h5 c hc
        have g3 : ((least l).syms ++ (least (rest l)).syms).count c ≤ 256 := Nat.le_trans List.count_le_length sl
        rw [g]
        omega) (by omega) (fun t ht => by
        rcases List.mem_append.1 ht with ht | ht
        · exact h7 t (hp.mem_iff.2 (List.mem_cons_of_mem _ (List.mem_cons_of_mem _ ht)))
        · rw [List.mem_singleton.1 ht]
          exact ⟨by show 0 < (least l).w + (least (rest l)).w; omega, sc⟩) (by
        have := ssum_perm (List.perm_append_comm (l₁ := rest (rest l)) (l₂ := [join next l]))
        rw [this]
        show ((least l).syms ++ (least (rest l)).syms).length + ssum (rest (rest l)) ≤ 256
        rw [List.length_append]
        omega) (by
        have := wsum_perm (List.perm_append_comm (l₁ := rest (rest l)) (l₂ := [join next l]))
        rw [this]
        show ((least l).w + (least (rest l)).w) + wsum (rest (rest l)) ≤ 1000000000
        omega) hq
      have e1 := toL_at l (leastAt l) k1
      have e2 := toL_at (rest l) (leastAt (rest l)) k2
      have f2 : ∀ t : It, (toI t).f2 = cs t.syms := fun _ => rfl
      have f1 : ∀ t : It, (toI t).f1 = t.w := fun _ => rfl
      have csl : ∀ s : List Nat, (cs s).length = s.length := fun s => by unfold cs; rw [List.length_map]
      have csa : ∀ s t : List Nat, cs s ++ cs t = cs (s ++ t) := fun s t => by unfold cs; rw [List.map_append]
      rw [least_f l hl0 (by omega) q hq1, Option.bind_some, if_pos (by omega), if_pos (by omega), without_f l _ k1 (by omega), Option.bind_some]
      show ((haystackref11_least.f q (toL (rest l))).bind _) = _
      rw [least_f (rest l) hr0 (by omega) q hq1, Option.bind_some, if_pos (by omega)]
      have hrl : (toL (l.eraseIdx (leastAt l))).length = (rest l).length := toL_length _
      rw [if_pos (by omega)]
      have hwo : haystackref11_without.f (toL (l.eraseIdx (leastAt l))) (leastAt (rest l) : Int) = some (toL (rest (rest l))) := without_f (rest l) _ k2 (by omega)
      have e2' : rd_T65 (toL (l.eraseIdx (leastAt l))) (leastAt (rest l) : Int) = toI (least (rest l)) := e2
      have e1' : rd_T65 (toL l) (leastAt l : Int) = toI (least l) := e1
      rw [hwo, Option.bind_some, Option.bind_some, e1', e2', f2, f2, List.nil_append, if_pos (by rw [csl]; simp; omega), Option.bind_some, if_pos (by rw [csl, csl]; omega), csa]
      have := l2_go (s := (least l).syms ++ (least (rest l)).syms) (out := out) (x4 := toL (rest (rest l))) (x7 := (next : Int)) (B := B) (r := 300 * f + 1100) (R := some (hgo (f + 1) next l out, 0)) sc sl h4 h5 (by omega) (by rw [toL_length]; omega)
        (toI (least l)).f0 (toI (least l)).f1 (cs (least l).syms) (toI (least (rest l))).f0 (toI (least (rest l))).f1 (cs (least (rest l)).syms) (fun q hq => by
          have e : wrap64 ((toI (least l)).f1 + (toI (least (rest l))).f1) = (least l).w + (least (rest l)).w := by
            rw [f1, f1]; unfold wrap64; omega
          have en : wrap64 ((next : Int) + 1) = ((next + 1 : Nat) : Int) := by unfold wrap64; omega
          rw [e, en]
          have ej : toL (rest (rest l)) ++ [⟨(next : Int), (least l).w + (least (rest l)).w, cs ((least l).syms ++ (least (rest l)).syms)⟩] = toL (rest (rest l) ++ [join next l]) := by
            unfold toL
            rw [List.map_append]
            rfl
          rw [ej, ih q hq]
          show _ = some (hgo (f + 1) next l out, 0)
          conv => rhs; unfold hgo
          rw [if_neg c1]) ((least l).syms ++ (least (rest l)).syms).length 0 q (by omega) (by omega)
      exact this
open Go.Proofs.MathTree (beginN begin_eq beginN_succ mem_beginN begin_le noughts_length noughts_get)
theorem begin_sums {l : List Int} (h : ∀ c, c < 256 → 0 ≤ cnt l c ∧ cnt l c ≤ 1048576) : ∀ n, n ≤ 256 → ssum (beginN l n) ≤ n ∧ wsum (beginN l n) ≤ n * 1048576 ∧ (beginN l n).length ≤ n
  | 0, _ => ⟨Nat.le_refl _, Int.le_refl _, Nat.le_refl _⟩
  | n + 1, hn => by
    obtain ⟨h1, h2, h3⟩ := begin_sums h n (by omega)
    have h4 := h n (by omega)
    rw [beginN_succ]
    unfold ssum at h1 ⊢
    unfold wsum at h2 ⊢
    rw [List.map_append, List.sum_append, List.map_append, List.sum_append, List.length_append]
    by_cases hp : 0 < cnt l n
    · rw [if_pos hp]
      simp only [List.map_cons, List.map_nil, List.sum_cons, List.sum_nil, List.length_singleton]
      omega
    · rw [if_neg hp]
      simp only [List.map_nil, List.sum_nil, List.length_nil]
      omega
set_option maxRecDepth 20000 in
theorem l0_go {l : List Int} (hl : l.length = 256) (h : ∀ c, c < 256 → 0 ≤ cnt l c ∧ cnt l c ≤ 1048576) : ∀ (m i q : Nat), i + m = 256 → m + 80000 ≤ q → haystackref11_Lengths.l0 q l (toL (beginN l i)) noughts (i : Int) = some (lens l, 0)
  | 0, i, q, hi, hq => by
    obtain ⟨q, rfl⟩ : ∃ p, q = p + 1 := ⟨q - 1, by omega⟩
    obtain rfl : i = 256 := by omega
    obtain ⟨s1, s2, s3⟩ := begin_sums h 256 (Nat.le_refl _)
    unfold haystackref11_Lengths.l0
    try dsimp only
    rw [if_neg (by omega), toL_length]
    unfold MathHuff.lens
    rw [begin_eq]
    by_cases c1 : (beginN l 256).length = 1
    · rw [if_pos (by omega), if_pos c1, if_pos (by omega)]
      obtain ⟨t, ht⟩ := List.length_eq_one_iff.1 c1
      have hm : t ∈ beginN l 256 := by rw [ht]; exact List.mem_singleton.2 rfl
      obtain ⟨c, hc, _, e⟩ := mem_beginN.1 hm
      have hle := Go.Proofs.MathHuff.least_mem (l := beginN l 256) (by rw [ht]; simp)
      rw [ht] at hle ⊢
      rw [List.mem_singleton.1 hle]
      have e0 : (rd_T65 (toL [t]) 0).f0 = (t.id : Int) := rfl
      have hid : t.id = c := by rw [e]
      have hn : noughts.length = 256 := noughts_length
      rw [e0, if_pos (by omega), if_pos (by omega), Int.toNat_natCast]
    · rw [if_neg (by omega), if_neg c1]
      exact l1_go 256 256 q (beginN l 256) noughts 0 (by omega) s3 (by omega) (by omega) noughts_length (fun c hc => by rw [noughts_get]; omega) (by omega) (fun t ht => by
        obtain ⟨c, hc, hp, rfl⟩ := mem_beginN.1 ht
        exact ⟨hp, fun d hd => by rw [List.mem_singleton.1 hd]; exact hc⟩) s1 (by omega) (by omega)
  | m + 1, i, q, hi, hq => by
    obtain ⟨q, rfl⟩ : ∃ p, q = p + 1 := ⟨q - 1, by omega⟩
    have ih := l0_go hl h m (i + 1) q (by omega) (by omega)
    obtain ⟨s1, s2, s3⟩ := begin_sums h i (by omega)
    have hr : rd l (i : Int) = cnt l i := rdn l i
    rw [beginN_succ] at ih
    unfold haystackref11_Lengths.l0
    try dsimp only
    rw [if_pos (by omega), if_pos (by omega), if_pos (by omega), hr, toL_length, show (i : Int) + 1 = ((i + 1 : Nat) : Int) by omega, w64n _ (by omega)]
    by_cases c1 : 0 < cnt l i
    · rw [if_pos c1] at ih
      rw [if_pos (by omega), if_pos (by omega)]
      unfold toL at ih ⊢
      rw [List.map_append] at ih
      exact ih
    · rw [if_neg c1, List.append_nil] at ih
      rw [if_neg (by omega)]
      exact ih
theorem lengths_f (l : List Int) (hl : l.length ≤ 1000) (q : Nat) (hq : 81000 ≤ q) : haystackref11_Lengths.f q l = huff_Lengths.f l := by
  unfold haystackref11_Lengths.f huff_Lengths.f
  rw [counted_f l hl q (by omega), Option.bind_some]
  cases hc : countedB l with
  | false => rw [if_neg (by decide), if_neg (by decide)]
  | true =>
    obtain ⟨h1, h2⟩ := counted_in hc
    rw [if_pos rfl, if_pos (by decide), if_pos rfl]
    exact l0_go h1 (fun c hc => by have := h2 c hc; rw [rdn] at this; exact this) 256 0 q (by omega) (by omega)

end Go.Proofs.Ytceompmfmceicaa.PureHuffTells
namespace Go.Proofs.Ytceompmfmceicaa.Pure
open Go.RowKit Go.Proofs.Ytceompmfmceicaa.PureHuffTells Go.Proofs.Ytceompmfmceicaa.PHuffTells Go.Proofs.YtceompmfmceicaaW.PrintWords Go.Proofs.YtceompmfmceicaaW.PrintLast
open Go.Proofs.MathCodes (len codes fitsB fitsB_in)
open Go.Proofs.MathCanon (nl apart code_is codes_length)

theorem HuffTells : haystacklaw11_HuffTells.Pure := by
  intro a b hm hB hw hm' hB' hw'
  obtain ⟨m, hm3⟩ : ∃ m : Nat, m = 90000 := ⟨_, rfl⟩
  have hh : ∀ k, m ≤ k → haystacklaw11_heads.f k = some true := fun k hk => heads_f k (by omega)
  refine ⟨m + 1, ?_⟩
  have stop : haystacklaw11_HuffTells.j0 (m + 1) a b true = some true := by
    unfold haystacklaw11_HuffTells.j0
    try dsimp only
    rw [if_pos rfl, hh _ (by omega)]; rfl
  unfold haystacklaw11_HuffTells.f
  by_cases c1 : (a.length : Int) > 1000
  · rw [if_pos c1]; exact stop
  rw [if_neg c1]
  by_cases c2 : (b.length : Int) > 1000
  · rw [decide_eq_true c2]; exact stop
  rw [decide_eq_false c2]
  unfold haystacklaw11_HuffTells.j0
  try dsimp only
  have hL : ∃ x e, huff_Lengths.f a = some (x, e) ∧ x.length ≤ 1000 := by
    unfold huff_Lengths.f
    split
    · exact ⟨_, _, rfl, by rw [Go.Proofs.MathTree.lens_length]; decide⟩
    · exact ⟨_, _, rfl, by decide⟩
  have hC : ∃ x e, huff_Codes.f b = some (x, e) ∧ x.length ≤ 1000 := by
    unfold huff_Codes.f
    split
    · rename_i h
      refine ⟨_, _, rfl, ?_⟩
      unfold codesS
      rw [List.length_map, Go.Proofs.MathCanon.codes_length h]
      decide
    · exact ⟨_, _, rfl, by decide⟩
  obtain ⟨x, e, hx, hx2⟩ := hL
  obtain ⟨y, g, hy, hy2⟩ := hC
  have hk : huff_Cost.f a b = some (Go.Proofs.Ytceompmfmceicaa.Huff.costF a b) := by unfold huff_Cost.f; rw [if_pos (by omega)]
  rw [if_neg (by decide), lengths_f a (by omega) m (by omega), codes_f b m (by omega), hx, hy, hk, cost_f a b (by omega) (by omega) m (by omega)]
  simp only [Option.bind_some]
  rw [num_f x hx2 m (by omega), Option.bind_some, if_pos rfl, if_pos trivial, same_f y hy2 m (by omega), Option.bind_some, if_pos rfl, if_pos trivial, if_pos trivial, hh _ (by omega)]
  rfl

end Go.Proofs.Ytceompmfmceicaa.Pure
