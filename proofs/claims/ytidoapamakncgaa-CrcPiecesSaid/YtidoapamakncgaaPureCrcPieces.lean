/- For every two lists of bytes the sum of both is that of the second gone on with from the sum of the first. Conditions: none. -/
import Derived.Test.YtidoapamakncgaaPCrcPiecesx1
import Derived.Test.YtidoapamakncgaaXMathCrc
namespace Go.Proofs.Ytidoapamakncgaa.Pure
open Go.RowKit Go.Proofs.Ytidoapamakncgaa.PCrcPieces Go.Proofs.YtidoapamakncgaaW.PrintWords Go.Proofs.YtidoapamakncgaaW.PrintLast Go.Proofs.YtidoapamakncgaaW.PrintMore Go.Proofs.MathCrc

theorem wf8 {l : List Int} (h : ∀ x ∈ l, (Lit.int .u8 x).wf = true) : ∀ x ∈ l, 0 ≤ x ∧ x < 256 := by
  intro x hx
  have := h x hx
  simp [Lit.wf, IntKind.min, IntKind.max, IntKind.signed, IntKind.bits] at this
  omega
theorem wrap_small {i : Int} (h0 : 0 ≤ i) (h1 : i < 9223372036854775807) : wrap64 (i + 1) = i + 1 := by
  unfold wrap64
  omega
theorem bits_loop (l : List Int) (n j : Int) (k : Nat) : ∀ (d i : Nat) (c : Nat), d + i = 8 → c < 4294967296 →
    crc_More.l1 (k + (d + 1)) (c : Int) l n j (i : Int) = crc_More.l0 k ((Nat.rec (motive := fun _ => Nat → Nat) (fun c => c) (fun _ f c => f (stp c)) d c : Nat) : Int) l n (wrap64 (j + 1)) := by
  intro d
  induction d with
  | zero =>
    intro i c h hc
    show crc_More.l1 (k + 1) _ _ _ _ _ = _
    simp only [crc_More.l1]
    rw [if_neg (by omega)]
    rfl
  | succ d ih =>
    intro i c h hc
    show crc_More.l1 (k + (d + 1) + 1) _ _ _ _ _ = _
    simp only [crc_More.l1]
    rw [if_pos (by omega), step_u32 hc, wrap_small (by omega) (by omega)]
    exact ih (i + 1) (stp c) (by omega) (stp_lt hc)
theorem byte_loop (l : List Int) (n j : Int) (k : Nat) (c : Nat) (hc : c < 4294967296) :
    crc_More.l1 (k + 9) (c : Int) l n j 0 = crc_More.l0 k ((byt c : Nat) : Int) l n (wrap64 (j + 1)) := bits_loop l n j k 8 0 c (by decide) hc
theorem rd_drop (l : List Int) (j : Nat) (h : j < l.length) : l.drop j = rd l (j : Int) :: l.drop (j + 1) := by
  rw [List.drop_eq_getElem_cons h]
  congr 1
  unfold rd
  simp [List.getD_eq_getElem?_getD, h]
theorem more_loop (l : List Int) (hl : ∀ x ∈ l, 0 ≤ x ∧ x < 256) (hn : l.length < 9223372036854775807) (k : Nat) : ∀ (d j : Nat) (c : Nat), d + j = l.length → c < 4294967296 →
    crc_More.l0 (k + 1 + d * 10) (c : Int) l (l.length : Int) (j : Int) = some ((4294967295 ^^^ run c (l.drop j) : Nat) : Int) := by
  intro d
  induction d with
  | zero =>
    intro j c h hc
    rw [Nat.zero_mul, Nat.add_zero]
    simp only [crc_More.l0]
    rw [if_neg (by omega), List.drop_of_length_le (by omega)]
    have h2 := xor_u32 (a := 4294967295) (b := c) (by decide) hc
    exact congrArg some h2
  | succ d ih =>
    intro j c h hc
    rw [show k + 1 + (d + 1) * 10 = (k + 1 + d * 10 + 9) + 1 by omega]
    simp only [crc_More.l0]
    have hd := rd_drop l j (by omega)
    have hm : rd l (j : Int) ∈ l := List.mem_of_mem_drop (hd ▸ List.mem_cons_self)
    have hx := hl _ hm
    rw [if_pos (by omega), if_pos (by omega), if_pos (by omega), xor_u32_byte hc hx.1 hx.2, byte_loop _ _ _ _ _ (xor_lt hc (by omega)), wrap_small (by omega) (by omega), hd]
    exact ih (j + 1) _ (by omega) (byt_lt (xor_lt hc (by omega)))
theorem more_eq (l : List Int) (hl : ∀ x ∈ l, 0 ≤ x ∧ x < 256) (hn : l.length < 9223372036854775807) (k : Nat) (hk : 1 + l.length * 10 ≤ k) (a : Nat) (ha : a < 4294967296) :
    crc_More.f k (a : Int) l = some ((more a l : Nat) : Int) := by
  unfold crc_More.f more
  have h2 := xor_u32 (a := 4294967295) (b := a) (by decide) ha
  obtain ⟨m, rfl⟩ : ∃ m, k = m + 1 + l.length * 10 := ⟨k - (1 + l.length * 10), by omega⟩
  have h3 := more_loop l hl hn m l.length 0 (4294967295 ^^^ a) (by omega) (xor_lt (by decide) ha)
  rw [← h2] at h3
  exact h3
theorem sum_eq (l : List Int) (hl : ∀ x ∈ l, 0 ≤ x ∧ x < 256) (hn : l.length < 9223372036854775807) (k : Nat) (hk : 1 + l.length * 10 ≤ k) :
    crc_Sum.f k l = some ((more 0 l : Nat) : Int) := by
  unfold crc_Sum.f
  have : crc_More.f k 0 l = some ((more 0 l : Nat) : Int) := more_eq l hl hn k hk 0 (by decide)
  rw [this]
  rfl
theorem head_sum : more 0 [49, 50, 51, 52, 53, 54, 55, 56, 57] = 3421780262 := by decide +kernel
theorem heads_eq (k : Nat) (hk : 100 ≤ k) : haystacklaw05_heads.f k = some true := by
  unfold haystacklaw05_heads.f
  rw [sum_eq _ (by decide) (by decide) k (by simp; omega), head_sum]
  rw [Option.bind_some, if_pos (by decide), sum_eq _ (by decide) (by decide) k (by simp; omega)]
  rfl

theorem CrcPieces : haystacklaw05_CrcPieces.Pure := by
  intro a b _ ha hwa _ hb hwb
  have ha2 := wf8 hwa
  have hb2 := wf8 hwb
  by_cases h : (a.length : Int) > 10000 ∨ (b.length : Int) > 10000
  · refine ⟨101, ?_⟩
    unfold haystacklaw05_CrcPieces.f
    have hj : ∀ x, x = true → haystacklaw05_CrcPieces.j0 101 a b x = some true := by
      intro x hx
      show haystacklaw05_CrcPieces.j0 (100 + 1) a b x = some true
      simp only [haystacklaw05_CrcPieces.j0]
      rw [if_pos hx, heads_eq 100 (by omega)]
      rfl
    by_cases h1 : (a.length : Int) > 10000
    · rw [if_pos h1]; exact hj _ rfl
    · rw [if_neg h1]; exact hj _ (decide_eq_true (h.resolve_left h1))
  · have h1 : ¬ (a.length : Int) > 10000 := fun e => h (.inl e)
    have h2 : ¬ (b.length : Int) > 10000 := fun e => h (.inr e)
    refine ⟨1000001, ?_⟩
    unfold haystacklaw05_CrcPieces.f
    rw [if_neg h1]
    show haystacklaw05_CrcPieces.j0 (1000000 + 1) a b _ = some true
    simp only [haystacklaw05_CrcPieces.j0]
    have hab : ∀ x ∈ a ++ b, 0 ≤ x ∧ x < 256 := fun x hx => (List.mem_append.1 hx).elim (ha2 x) (hb2 x)
    rw [if_neg (by simpa using h2), sum_eq a ha2 (by omega) _ (by omega)]
    simp only [Option.bind_some]
    rw [more_eq b hb2 (by omega) _ (by omega) _ (more_lt (by decide) ha2)]
    simp only [Option.bind_some, List.nil_append]
    rw [if_pos (by simp; omega), if_pos (by omega), sum_eq (a ++ b) hab (by rw [List.length_append]; omega) _ (by rw [List.length_append]; omega)]
    simp only [Option.bind_some]
    have he : more (more 0 a) b = more 0 (a ++ b) := by
      unfold more
      rw [not_not, run_append]
    rw [he, if_pos rfl, heads_eq _ (by omega)]
    rfl

end Go.Proofs.Ytidoapamakncgaa.Pure
