import Derived.Test.YtceompmfmceicaaMathTree
import Derived.Test.YtceompmfmceicaaPHuffOrderx9
namespace Go.Proofs.Ytceompmfmceicaa.PureHuffOrder
open Go.RowKit Go.Proofs.Ytceompmfmceicaa.PHuffOrder Go.Proofs.YtceompmfmceicaaW.PrintWords Go.Proofs.YtceompmfmceicaaW.PrintLast
open Go.Proofs.MathCodes (len codes fitsB fitsB_in)
set_option linter.unusedVariables false
set_option linter.unusedSimpArgs false

theorem heads_0 : haystacklaw11_heads.f 3000 = some true := by decide +kernel
theorem heads_f (m : Nat) (h : 3000 ≤ m) : haystacklaw11_heads.f m = some true := by
  induction m with
  | zero => omega
  | succ m ih =>
    rcases Nat.lt_or_ge m 3000 with h1 | h1
    · have e : m + 1 = 3000 := by omega
      rw [e]; exact heads_0
    · exact haystacklaw11_heads.mono m _ (ih h1)
theorem u8_of {x : Int} (h : (Lit.int .u8 x).wf = true) : 0 ≤ x ∧ x < 256 := by
  simp [Lit.wf, IntKind.min, IntKind.max, IntKind.signed, IntKind.bits] at h
  omega
theorem i64_of {x : Int} (h : (Lit.int .i64 x).wf = true) : -9223372036854775808 ≤ x ∧ x < 9223372036854775808 := by
  simp [Lit.wf, IntKind.min, IntKind.max, IntKind.signed, IntKind.bits] at h
  omega
theorem rdn (l : List Int) (i : Nat) : rd l (i : Int) = l.getD i 0 := by simp [rd]

end Go.Proofs.Ytceompmfmceicaa.PureHuffOrder
namespace Go.Proofs.Ytceompmfmceicaa.Pure
open Go.RowKit Go.Proofs.Ytceompmfmceicaa.PureHuffOrder Go.Proofs.Ytceompmfmceicaa.PHuffOrder Go.Proofs.YtceompmfmceicaaW.PrintWords Go.Proofs.YtceompmfmceicaaW.PrintLast
open Go.Proofs.MathCodes (len codes fitsB fitsB_in)

theorem HuffOrder : haystacklaw11_HuffOrder.Pure := by
  intro l a1 a2 hm hB hw h1 h2
  have b1 := u8_of h1
  have b2 := u8_of h2
  obtain ⟨m, hm3⟩ : ∃ m : Nat, m = 3000 := ⟨_, rfl⟩
  have hh : ∀ k, m ≤ k → haystacklaw11_heads.f k = some true := fun k hk => heads_f k (by omega)
  refine ⟨m + 1, ?_⟩
  unfold haystacklaw11_HuffOrder.f
  by_cases c1 : (l.length : Int) > 1000
  · rw [if_pos c1, hh _ (by omega)]; rfl
  rw [if_neg c1]
  unfold huff_Lengths.f
  cases hc : Go.Proofs.Ytceompmfmceicaa.Huff.countedB l with
  | false =>
    rw [if_neg (by decide), Option.bind_some]
    try dsimp only
    rw [if_neg (by decide)]
    unfold haystacklaw11_HuffOrder.j0
    try dsimp only
    rw [if_pos rfl, if_neg (by decide), hh _ (by omega)]
    rfl
  | true =>
    obtain ⟨hlen, hin⟩ := Go.Proofs.Ytceompmfmceicaa.Huff.counted_in hc
    have hL := Go.Proofs.MathTree.lens_length l
    rw [if_pos rfl, Option.bind_some]
    try dsimp only
    rw [if_pos rfl, if_pos (by omega)]
    have e256 : ((l.length : Int) != 256) = false := by rw [hlen]; decide
    rw [e256]
    obtain ⟨a, rfl⟩ : ∃ a : Nat, a1 = (a : Int) := ⟨a1.toNat, by omega⟩
    obtain ⟨b, rfl⟩ : ∃ b : Nat, a2 = (b : Int) := ⟨a2.toNat, by omega⟩
    have ha := hin a (by omega)
    have hb := hin b (by omega)
    rw [rdn] at ha hb
    have La := Go.Proofs.MathTree.lens_L (counts := l) (show a < 256 by omega)
    have Lb := Go.Proofs.MathTree.lens_L (counts := l) (show b < 256 by omega)
    have za := fun h => Go.Proofs.MathTree.lens_zero (counts := l) (show a < 256 by omega) h
    have pa := fun h => Go.Proofs.MathTree.lens_pos (counts := l) (show a < 256 by omega) h
    have pb := fun h => Go.Proofs.MathTree.lens_zero (counts := l) (show b < 256 by omega) h
    have ol := fun h1 h2 => Go.Proofs.MathTree.order_law (counts := l) (show a < 256 by omega) (show b < 256 by omega) h1 h2
    unfold Go.Proofs.MathHuff.cnt at za pa pb ol
    unfold haystacklaw11_HuffOrder.j0
    try dsimp only
    simp only [rdn]
    generalize l.getD a 0 = ca at *
    generalize l.getD b 0 = cb at *
    generalize Go.Proofs.MathHuff.lens l = Ls at *
    have hz : ((ca == 0) != (Ls.getD a 0 == 0)) = false := by
      by_cases h : 0 < ca
      · have e1 : (ca == 0) = false := by simpa using (by omega : ca ≠ 0)
        have e2 : (Ls.getD a 0 == 0) = false := by simpa using (by have := pa h; omega : Ls.getD a 0 ≠ 0)
        rw [e1, e2]; rfl
      · have e1 : (ca == 0) = true := by simpa using (by omega : ca = 0)
        rw [e1, za h]; rfl
    rw [if_neg (by decide), if_pos b1.1, if_pos (by omega), if_pos (by omega), hz, if_neg (by decide), if_pos b2.1, if_pos (by omega)]
    by_cases c2 : ca ≤ cb
    · rw [if_pos c2, hh _ (by omega)]; rfl
    rw [if_neg c2]
    by_cases c3 : Ls.getD a 0 = 0
    · rw [if_pos c3, hh _ (by omega)]; rfl
    rw [if_neg c3, if_pos (by omega)]
    by_cases c4 : Ls.getD b 0 = 0
    · rw [if_pos c4, hh _ (by omega)]; rfl
    rw [if_neg c4]
    have hpb : 0 < cb := by
      rcases Int.lt_or_le 0 cb with h | h
      · exact h
      · exact absurd (pb (by omega)) c4
    have := ol hpb (by omega)
    rw [if_pos (by omega), hh _ (by omega)]
    rfl

end Go.Proofs.Ytceompmfmceicaa.Pure
