import Derived.Test.YtceompmfmceicaaMathCanon
import Derived.Test.YtceompmfmceicaaPHuffApartx9
namespace Go.Proofs.Ytceompmfmceicaa.PureHuffApart
open Go.RowKit Go.Proofs.Ytceompmfmceicaa.PHuffApart Go.Proofs.YtceompmfmceicaaW.PrintWords Go.Proofs.YtceompmfmceicaaW.PrintLast
open Go.Proofs.MathCodes (len codes fitsB fitsB_in)
set_option linter.unusedVariables false
set_option linter.unusedSimpArgs false

theorem heads_0 : haystacklaw11_heads.f 3000 = some true := by decide +kernel
theorem heads_f (m : Nat) (h : 3000 ≤ m) : haystacklaw11_heads.f m = some true := by
  induction m with
  | zero => omega
  | succ m ih =>
    rcases Nat.lt_or_ge m 3000 with h1 | h1
    · have e : m + 1 = 3000 := by omega
      rw [e]; exact heads_0
    · exact haystacklaw11_heads.mono m _ (ih h1)
theorem u8_of {x : Int} (h : (Lit.int .u8 x).wf = true) : 0 ≤ x ∧ x < 256 := by
  simp [Lit.wf, IntKind.min, IntKind.max, IntKind.signed, IntKind.bits] at h
  omega
theorem i64_of {x : Int} (h : (Lit.int .i64 x).wf = true) : -9223372036854775808 ≤ x ∧ x < 9223372036854775808 := by
  simp [Lit.wf, IntKind.min, IntKind.max, IntKind.signed, IntKind.bits] at h
  omega
open Go.Proofs.MathCanon (nl apart code_is code_no codes_length)
theorem codesS_at {l : List Int} (hf : fitsB l = true) {a : Int} (h0 : 0 ≤ a) (h1 : a < 256) :
    ∃ x : Nat, rd_T33 (codesS l) a = ⟨len l a.toNat, (x : Int)⟩ ∧ (0 < len l a.toNat → (codes l)[a.toNat]? = some (len l a.toNat, (x : Int))) := by
  have hc : a.toNat < 256 := by omega
  have hin := (fitsB_in hf).2 _ hc
  unfold rd_T33 codesS
  rw [List.getD_eq_getElem?_getD, List.getElem?_map]
  by_cases hp : 0 < len l a.toNat
  · obtain ⟨b, h, _⟩ := code_is hf hc hp
    refine ⟨b, ?_, fun _ => h⟩
    rw [h]; rfl
  · refine ⟨0, ?_, fun h => absurd h hp⟩
    rw [code_no hf hc hp, show len l a.toNat = 0 by omega]
    rfl
theorem codesS_length {l : List Int} (hf : fitsB l = true) : (codesS l).length = 256 := by
  unfold codesS
  rw [List.length_map, codes_length hf]
theorem w64s {x : Int} (h0 : 0 ≤ x) (h1 : x ≤ 40) : wrap64 x = x := by unfold wrap64; omega
theorem u64s {x : Int} (h0 : 0 ≤ x) (h1 : x ≤ 40) : IntKind.u64.wrap x = x := by rw [IntKind.wrap_u64]; omega
theorem shr_nat (y n : Nat) (h : n ≤ 40) : shr .u64 (y : Int) (n : Int) = ((y / 2 ^ n : Nat) : Int) := by
  unfold shr
  rw [Nat.min_eq_left (by show (n : Int).toNat ≤ 64; omega), Int.toNat_natCast]
  rw [Int.natCast_ediv, Int.natCast_pow]
  rfl

end Go.Proofs.Ytceompmfmceicaa.PureHuffApart
namespace Go.Proofs.Ytceompmfmceicaa.Pure
open Go.RowKit Go.Proofs.Ytceompmfmceicaa.PureHuffApart Go.Proofs.Ytceompmfmceicaa.PHuffApart Go.Proofs.YtceompmfmceicaaW.PrintWords Go.Proofs.YtceompmfmceicaaW.PrintLast
open Go.Proofs.MathCodes (len codes fitsB fitsB_in)
open Go.Proofs.MathCanon (nl apart code_is code_no codes_length)

theorem HuffApart : haystacklaw11_HuffApart.Pure := by
  intro l a1 a2 hm hB hw h1 h2
  have b1 := u8_of h1
  have b2 := u8_of h2
  obtain ⟨m, hm3⟩ : ∃ m : Nat, m = 3000 := ⟨_, rfl⟩
  have hh : ∀ k, m ≤ k → haystacklaw11_heads.f k = some true := fun k hk => heads_f k (by omega)
  refine ⟨m + 2, ?_⟩
  unfold haystacklaw11_HuffApart.f
  by_cases c1 : (l.length : Int) > 1000
  · rw [if_pos c1, hh _ (by omega)]; rfl
  rw [if_neg c1]
  unfold huff_Codes.f
  cases hf : fitsB l with
  | false =>
    rw [if_neg (by decide), Option.bind_some]
    try dsimp only
    rw [if_neg (by decide)]
    unfold haystacklaw11_HuffApart.j0
    try dsimp only
    rw [if_pos rfl, if_neg (by decide), hh _ (by omega)]
    rfl
  | true =>
    rw [if_pos rfl, Option.bind_some]
    try dsimp only
    rw [if_pos rfl]
    have hlen := codesS_length hf
    have e256 : (((codesS l).length : Int) != 256) = false := by rw [hlen]; decide
    rw [e256]
    obtain ⟨x, hx, hx'⟩ := codesS_at hf b1.1 b1.2
    obtain ⟨y, hy, hy'⟩ := codesS_at hf b2.1 b2.2
    have i1 := (fitsB_in hf).2 a1.toNat (by omega)
    have i2 := (fitsB_in hf).2 a2.toNat (by omega)
    unfold haystacklaw11_HuffApart.j0
    try dsimp only
    rw [if_neg (by decide), if_pos b1.1, if_pos (by omega), if_pos b2.1, if_pos (by omega), hx, hy]
    try dsimp only
    have stop : ∀ n1 n2 n3 n4 : Int, haystacklaw11_HuffApart.j1 (m + 1) a1 a2 true n1 n2 n3 n4 = some true := by
      intro n1 n2 n3 n4
      unfold haystacklaw11_HuffApart.j1
      try dsimp only
      rw [if_pos rfl, hh _ (by omega)]
      rfl
    by_cases c2 : a1 = a2
    · rw [if_pos c2]; exact stop _ _ _ _
    rw [if_neg c2]
    by_cases c3 : len l a1.toNat = 0
    · rw [if_pos c3]; exact stop _ _ _ _
    rw [if_neg c3]
    by_cases c4 : len l a2.toNat = 0
    · rw [if_pos c4]; exact stop _ _ _ _
    rw [if_neg c4]
    by_cases c5 : len l a1.toNat > len l a2.toNat
    · rw [decide_eq_true c5]; exact stop _ _ _ _
    rw [decide_eq_false c5]
    obtain ⟨k1, k2, k3⟩ := apart hf (c := a1.toNat) (d := a2.toNat) (by omega) (by omega) (by omega) (by omega) (by omega) (by omega) (hx' (by omega)) (hy' (by omega))
    have n1 : len l a1.toNat = (nl l a1.toNat : Int) := by unfold nl; omega
    have n2 : len l a2.toNat = (nl l a2.toNat : Int) := by unfold nl; omega
    have hd : IntKind.u64.wrap (wrap64 (len l a2.toNat - len l a1.toNat)) = ((nl l a2.toNat - nl l a1.toNat : Nat) : Int) := by
      rw [w64s (by omega) (by omega), u64s (by omega) (by omega)]
      omega
    have hs := shr_nat y (nl l a2.toNat - nl l a1.toNat) (by omega)
    have h0 : shr .u64 (x : Int) (IntKind.u64.wrap (len l a1.toNat)) = 0 := by
      rw [u64s (by omega) (by omega), n1, shr_nat _ _ (by omega), Nat.div_eq_of_lt k3]
      rfl
    unfold haystacklaw11_HuffApart.j1
    try dsimp only
    rw [hd, hs, if_neg (by decide), if_pos (Int.natCast_nonneg _)]
    generalize y / 2 ^ (nl l a2.toNat - nl l a1.toNat) = first at *
    rw [if_neg (by omega)]
    rw [h0]
    by_cases c6 : len l a1.toNat < len l a2.toNat
    · have e : decide ((x : Int) < (first : Int)) = true := decide_eq_true (by have := k2.1 (.inl c6); omega)
      rw [if_pos c6, e, if_pos (by decide), if_pos (by rw [u64s (by omega) (by omega)]; omega), if_pos rfl, hh _ (by omega)]
      rfl
    · have e : (decide (a1 < a2) == decide ((x : Int) < (first : Int))) = true := by
        rw [beq_iff_eq, decide_eq_decide]
        constructor
        · intro h; have := k2.1 (.inr (by omega)); omega
        · intro h; have := k2.2 (by omega); omega
      rw [if_neg c6, e, if_pos rfl, if_pos (by rw [u64s (by omega) (by omega)]; omega), if_pos rfl, hh _ (by omega)]
      rfl

end Go.Proofs.Ytceompmfmceicaa.Pure
