import Derived.Test.YtceompmfmceicaaMathTree
import Derived.Test.YtceompmfmceicaaMathCanon
import Derived.Test.YtceompmfmceicaaPHuffBestx8
namespace Go.Proofs.Ytceompmfmceicaa.PureHuffBest
open Go.RowKit Go.Proofs.Ytceompmfmceicaa.PHuffBest Go.Proofs.YtceompmfmceicaaW.PrintWords Go.Proofs.YtceompmfmceicaaW.PrintLast
open Go.Proofs.MathCodes (len codes fitsB fitsB_in)
set_option linter.unusedVariables false
set_option linter.unusedSimpArgs false

theorem heads_0 : haystacklaw11_heads.f 3000 = some true := by decide +kernel
theorem heads_f (m : Nat) (h : 3000 ≤ m) : haystacklaw11_heads.f m = some true := by
  induction m with
  | zero => omega
  | succ m ih =>
    rcases Nat.lt_or_ge m 3000 with h1 | h1
    · have e : m + 1 = 3000 := by omega
      rw [e]; exact heads_0
    · exact haystacklaw11_heads.mono m _ (ih h1)
theorem u8_of {x : Int} (h : (Lit.int .u8 x).wf = true) : 0 ≤ x ∧ x < 256 := by
  simp [Lit.wf, IntKind.min, IntKind.max, IntKind.signed, IntKind.bits] at h
  omega
theorem i64_of {x : Int} (h : (Lit.int .i64 x).wf = true) : -9223372036854775808 ≤ x ∧ x < 9223372036854775808 := by
  simp [Lit.wf, IntKind.min, IntKind.max, IntKind.signed, IntKind.bits] at h
  omega
open Go.Proofs.MathCanon (nl apart code_is code_no codes_length)
theorem rdn (l : List Int) (i : Nat) : rd l (i : Int) = l.getD i 0 := by simp [rd]
theorem w64s (i : Nat) (h : i < 256) : wrap64 ((i : Int) + 1) = ((i + 1 : Nat) : Int) := by unfold wrap64; omega
open Go.Proofs.MathTree (L) in
theorem cost_eq (a b : List Int) (x : Nat → Nat) (hx : ∀ c, c < 256 → b.getD c 0 = (x c : Int)) : ∀ n, n ≤ 256 → Go.Proofs.Ytceompmfmceicaa.Huff.costTo a b n = Go.Proofs.MathTree.costTo a x n
  | 0, _ => rfl
  | n + 1, h => by
    unfold Go.Proofs.Ytceompmfmceicaa.Huff.costTo Go.Proofs.MathTree.costTo Go.Proofs.MathHuff.cnt
    rw [cost_eq a b x hx n (by omega), rdn, rdn, hx n (by omega)]
theorem costTo_nonneg (a : List Int) (x : Nat → Nat) (h : ∀ c, c < 256 → 0 ≤ a.getD c 0) : ∀ n, n ≤ 256 → 0 ≤ Go.Proofs.MathTree.costTo a x n
  | 0, _ => Int.le_refl _
  | n + 1, hn => by
    have ih := costTo_nonneg a x h n (by omega)
    have := Int.mul_nonneg (h n (by omega)) (Int.natCast_nonneg (x n))
    unfold Go.Proofs.MathTree.costTo Go.Proofs.MathHuff.cnt
    omega
theorem kraft_begin (counts other : List Int) (hcov : ∀ c, c < 256 → 0 < Go.Proofs.MathHuff.cnt counts c → 0 < len other c) :
    ∀ n, n ≤ 256 → Go.Proofs.MathOpt.kraft 40 (Go.Proofs.MathTree.pairs (Go.Proofs.MathTree.beginN counts n) (nl other)) ≤ ((List.range n).map (Go.Proofs.MathCanon.pt other)).sum
  | 0, _ => Nat.le_refl _
  | n + 1, h => by
    have ih := kraft_begin counts other hcov n (by omega)
    rw [Go.Proofs.MathTree.beginN_succ, List.range_succ, List.map_append, List.sum_append]
    unfold Go.Proofs.MathTree.pairs at ih ⊢
    rw [List.map_append, Go.Proofs.MathTree.kraft_append]
    simp only [List.map_cons, List.map_nil, List.sum_cons, List.sum_nil]
    by_cases hp : 0 < Go.Proofs.MathHuff.cnt counts n
    · have := hcov n (by omega) hp
      have e : Go.Proofs.MathCanon.pt other n = 2 ^ (40 - nl other n) := by unfold Go.Proofs.MathCanon.pt; rw [if_pos this]
      rw [if_pos hp, e]
      simp only [List.map_cons, List.map_nil, Go.Proofs.MathOpt.kraft]
      omega
    · rw [if_neg hp]
      simp only [List.map_nil, Go.Proofs.MathOpt.kraft]
      omega
theorem cost_le {counts other : List Int} (hc : Go.Proofs.Ytceompmfmceicaa.Huff.countedB counts = true) (hf : fitsB other = true) (hcov : ∀ c, c < 256 → 0 < counts.getD c 0 → other.getD c 0 ≠ 0) :
    Go.Proofs.Ytceompmfmceicaa.Huff.costF counts (Go.Proofs.MathHuff.lens counts) ≤ Go.Proofs.Ytceompmfmceicaa.Huff.costF counts other := by
  obtain ⟨hlen, hin⟩ := Go.Proofs.Ytceompmfmceicaa.Huff.counted_in hc
  obtain ⟨ho, hoi⟩ := fitsB_in hf
  have hn : ∀ c, c < 256 → 0 ≤ counts.getD c 0 := fun c h => by have := hin c h; rw [rdn] at this; exact this.1
  have hany : other.any (Go.Proofs.Ytceompmfmceicaa.Huff.outP 40) = false := by
    rw [List.any_eq_false]
    intro x hx
    obtain ⟨i, hi, rfl⟩ := List.mem_iff_getElem.1 hx
    have := hoi i (by omega)
    unfold len at this
    rw [List.getD_eq_getElem?_getD, List.getElem?_eq_getElem hi, Option.getD_some] at this
    unfold Go.Proofs.Ytceompmfmceicaa.Huff.outP
    simp
    omega
  have e2 : Go.Proofs.Ytceompmfmceicaa.Huff.costF counts other = Go.Proofs.MathTree.costTo counts (nl other) 256 := by
    unfold Go.Proofs.Ytceompmfmceicaa.Huff.costF
    rw [hc, decide_eq_true ho, hany, if_pos (by decide)]
    refine cost_eq counts other (nl other) (fun c h => ?_) 256 (Nat.le_refl _)
    have := hoi c h
    unfold nl
    unfold len at this ⊢
    omega
  rw [e2]
  have pos2 := costTo_nonneg counts (nl other) hn 256 (Nat.le_refl _)
  unfold Go.Proofs.Ytceompmfmceicaa.Huff.costF
  split
  · rw [cost_eq counts _ (Go.Proofs.MathTree.L counts) (fun c h => Go.Proofs.MathTree.lens_L h) 256 (Nat.le_refl _)]
    have hcov' : ∀ c, c < 256 → 0 < Go.Proofs.MathHuff.cnt counts c → 0 < len other c := fun c h hp => by
      have h1 := hcov c h hp
      have h2 := hoi c h
      unfold len at h2 ⊢
      omega
    refine Go.Proofs.MathTree.best_law hn (nl other) (fun c h hp => ?_) ?_
    · have h1 := hcov' c h hp
      have h2 := hoi c h
      unfold nl
      omega
    · refine Nat.le_trans (kraft_begin counts other hcov' 256 (Nat.le_refl _)) ?_
      have h1 := Go.Proofs.MathCanon.sum_range other 256 fun c h => (hoi c h).2
      have h2 := Go.Proofs.MathCanon.S_all other hoi
      have h3 := Go.Proofs.MathCanon.total_le hf
      have h4 : (((List.range 256).map (Go.Proofs.MathCanon.pt other)).sum : Int) = (Go.Proofs.MathCanon.S other 256 : Int) := h1.trans h2.symm
      have h5 := Int.ofNat_inj.1 h4
      rw [h5]
      exact h3
  · exact pos2
theorem l0_end (counts other : List Int) (m : Nat) (hh : ∀ k, m ≤ k → haystacklaw11_heads.f k = some true) (hc : Go.Proofs.Ytceompmfmceicaa.Huff.countedB counts = true) (hf : fitsB other = true) (hlen : counts.length = 256) :
    ∀ (j i k : Nat), i + j = 256 → (∀ c, c < i → 0 < counts.getD c 0 → other.getD c 0 ≠ 0) → m + j < k → haystacklaw11_HuffBest.l0 k counts other (Go.Proofs.MathHuff.lens counts) (i : Int) = some true
  | 0, i, k, hij, hcov, hk => by
    obtain ⟨k, rfl⟩ : ∃ q, k = q + 1 := ⟨k - 1, by omega⟩
    have hle := cost_le hc hf fun c h => hcov c (by omega)
    have hL := Go.Proofs.MathTree.lens_length counts
    have ho := (fitsB_in hf).1
    unfold haystacklaw11_HuffBest.l0
    try dsimp only
    unfold huff_Cost.f
    rw [if_neg (by omega), if_pos (by omega), if_pos (by omega), Option.bind_some, Option.bind_some, if_pos hle, hh _ (by omega)]
    rfl
  | j + 1, i, k, hij, hcov, hk => by
    obtain ⟨k, rfl⟩ : ∃ q, k = q + 1 := ⟨k - 1, by omega⟩
    have ho := (fitsB_in hf).1
    unfold haystacklaw11_HuffBest.l0
    try dsimp only
    rw [if_pos (by omega), if_pos (by omega), rdn, rdn, w64s i (by omega)]
    by_cases c1 : counts.getD i 0 > 0
    · rw [if_pos c1, if_pos (by omega)]
      by_cases c2 : other.getD i 0 = 0
      · rw [if_pos c2, hh _ (by omega)]; rfl
      · rw [if_neg c2]
        refine l0_end counts other m hh hc hf hlen j (i + 1) k (by omega) (fun c h hp => ?_) (by omega)
        by_cases e : c = i
        · subst e; exact c2
        · exact hcov c (by omega) hp
    · rw [if_neg c1]
      refine l0_end counts other m hh hc hf hlen j (i + 1) k (by omega) (fun c h hp => ?_) (by omega)
      by_cases e : c = i
      · subst e; exact absurd hp c1
      · exact hcov c (by omega) hp

end Go.Proofs.Ytceompmfmceicaa.PureHuffBest
namespace Go.Proofs.Ytceompmfmceicaa.Pure
open Go.RowKit Go.Proofs.Ytceompmfmceicaa.PureHuffBest Go.Proofs.Ytceompmfmceicaa.PHuffBest Go.Proofs.YtceompmfmceicaaW.PrintWords Go.Proofs.YtceompmfmceicaaW.PrintLast
open Go.Proofs.MathCodes (len codes fitsB fitsB_in)
open Go.Proofs.MathCanon (nl apart code_is code_no codes_length)

theorem HuffBest : haystacklaw11_HuffBest.Pure := by
  intro l o hm hB hw hm' hB' hw'
  obtain ⟨m, hm3⟩ : ∃ m : Nat, m = 3000 := ⟨_, rfl⟩
  have hh : ∀ k, m ≤ k → haystacklaw11_heads.f k = some true := fun k hk => heads_f k (by omega)
  obtain ⟨k, hk⟩ : ∃ k, k = m + 300 := ⟨_, rfl⟩
  refine ⟨k + 2, ?_⟩
  have stop0 : haystacklaw11_HuffBest.j0 (k + 2) l o true = some true := by
    unfold haystacklaw11_HuffBest.j0
    try dsimp only
    rw [if_pos rfl, hh _ (by omega)]; rfl
  unfold haystacklaw11_HuffBest.f
  by_cases c1 : (l.length : Int) > 1000
  · rw [if_pos c1]; exact stop0
  rw [if_neg c1]
  by_cases c2 : (o.length : Int) > 1000
  · rw [decide_eq_true c2]; exact stop0
  rw [decide_eq_false c2]
  have stop1 : ∀ x, haystacklaw11_HuffBest.j1 (k + 1) l o x true = some true := by
    intro x
    unfold haystacklaw11_HuffBest.j1
    try dsimp only
    rw [if_pos rfl, hh _ (by omega)]; rfl
  unfold haystacklaw11_HuffBest.j0
  try dsimp only
  rw [if_neg (by decide)]
  unfold huff_Lengths.f huff_Codes.f
  cases hc : Go.Proofs.Ytceompmfmceicaa.Huff.countedB l with
  | false =>
    rw [if_neg (by decide), Option.bind_some]
    split
    all_goals
      rw [Option.bind_some]
      try dsimp only
      rw [if_neg (by decide)]
      exact stop1 _
  | true =>
    rw [if_pos rfl, Option.bind_some]
    cases hf : fitsB o with
    | false =>
      rw [if_neg (by decide), Option.bind_some]
      try dsimp only
      rw [if_pos rfl, if_neg (by decide)]
      exact stop1 _
    | true =>
      rw [if_pos rfl, Option.bind_some]
      try dsimp only
      obtain ⟨hlen, _⟩ := Go.Proofs.Ytceompmfmceicaa.Huff.counted_in hc
      have ho := (fitsB_in hf).1
      have e : ((o.length : Int) != (l.length : Int)) = false := by rw [hlen, ho]; decide
      rw [if_pos rfl, if_pos rfl, e]
      unfold haystacklaw11_HuffBest.j1
      try dsimp only
      rw [if_neg (by decide)]
      exact l0_end l o m hh hc hf hlen 256 0 k (by omega) (fun c h => absurd h (Nat.not_lt_zero _)) (by omega)

end Go.Proofs.Ytceompmfmceicaa.Pure
