/- For every sum and list of bytes the program's sums are the reference's. Conditions: none. -/
import Derived.Test.YtidoapamakncgaaPCrcTellsx1
import Derived.Test.YtidoapamakncgaaXMathCrc
namespace Go.Proofs.Ytidoapamakncgaa.Pure
open Go.RowKit Go.Proofs.Ytidoapamakncgaa.PCrcTells Go.Proofs.YtidoapamakncgaaW.PrintWords Go.Proofs.YtidoapamakncgaaW.PrintLast Go.Proofs.YtidoapamakncgaaW.PrintMore Go.Proofs.MathCrc

theorem wf8 {l : List Int} (h : ∀ x ∈ l, (Lit.int .u8 x).wf = true) : ∀ x ∈ l, 0 ≤ x ∧ x < 256 := by
  intro x hx
  have := h x hx
  simp [Lit.wf, IntKind.min, IntKind.max, IntKind.signed, IntKind.bits] at this
  omega
theorem wrap_small {i : Int} (h0 : 0 ≤ i) (h1 : i < 9223372036854775807) : wrap64 (i + 1) = i + 1 := by
  unfold wrap64
  omega
theorem bits_loop (l : List Int) (n j : Int) (k : Nat) : ∀ (d i : Nat) (c : Nat), d + i = 8 → c < 4294967296 →
    crc_More.l1 (k + (d + 1)) (c : Int) l n j (i : Int) = crc_More.l0 k ((Nat.rec (motive := fun _ => Nat → Nat) (fun c => c) (fun _ f c => f (stp c)) d c : Nat) : Int) l n (wrap64 (j + 1)) := by
  intro d
  induction d with
  | zero =>
    intro i c h hc
    show crc_More.l1 (k + 1) _ _ _ _ _ = _
    simp only [crc_More.l1]
    rw [if_neg (by omega)]
    rfl
  | succ d ih =>
    intro i c h hc
    show crc_More.l1 (k + (d + 1) + 1) _ _ _ _ _ = _
    simp only [crc_More.l1]
    rw [if_pos (by omega), step_u32 hc, wrap_small (by omega) (by omega)]
    exact ih (i + 1) (stp c) (by omega) (stp_lt hc)
theorem byte_loop (l : List Int) (n j : Int) (k : Nat) (c : Nat) (hc : c < 4294967296) :
    crc_More.l1 (k + 9) (c : Int) l n j 0 = crc_More.l0 k ((byt c : Nat) : Int) l n (wrap64 (j + 1)) := bits_loop l n j k 8 0 c (by decide) hc
theorem rd_drop (l : List Int) (j : Nat) (h : j < l.length) : l.drop j = rd l (j : Int) :: l.drop (j + 1) := by
  rw [List.drop_eq_getElem_cons h]
  congr 1
  unfold rd
  simp [List.getD_eq_getElem?_getD, h]
theorem more_loop (l : List Int) (hl : ∀ x ∈ l, 0 ≤ x ∧ x < 256) (hn : l.length < 9223372036854775807) (k : Nat) : ∀ (d j : Nat) (c : Nat), d + j = l.length → c < 4294967296 →
    crc_More.l0 (k + 1 + d * 10) (c : Int) l (l.length : Int) (j : Int) = some ((4294967295 ^^^ run c (l.drop j) : Nat) : Int) := by
  intro d
  induction d with
  | zero =>
    intro j c h hc
    rw [Nat.zero_mul, Nat.add_zero]
    simp only [crc_More.l0]
    rw [if_neg (by omega), List.drop_of_length_le (by omega)]
    have h2 := xor_u32 (a := 4294967295) (b := c) (by decide) hc
    exact congrArg some h2
  | succ d ih =>
    intro j c h hc
    rw [show k + 1 + (d + 1) * 10 = (k + 1 + d * 10 + 9) + 1 by omega]
    simp only [crc_More.l0]
    have hd := rd_drop l j (by omega)
    have hm : rd l (j : Int) ∈ l := List.mem_of_mem_drop (hd ▸ List.mem_cons_self)
    have hx := hl _ hm
    rw [if_pos (by omega), if_pos (by omega), if_pos (by omega), xor_u32_byte hc hx.1 hx.2, byte_loop _ _ _ _ _ (xor_lt hc (by omega)), wrap_small (by omega) (by omega), hd]
    exact ih (j + 1) _ (by omega) (byt_lt (xor_lt hc (by omega)))
theorem more_eq (l : List Int) (hl : ∀ x ∈ l, 0 ≤ x ∧ x < 256) (hn : l.length < 9223372036854775807) (k : Nat) (hk : 1 + l.length * 10 ≤ k) (a : Nat) (ha : a < 4294967296) :
    crc_More.f k (a : Int) l = some ((more a l : Nat) : Int) := by
  unfold crc_More.f more
  have h2 := xor_u32 (a := 4294967295) (b := a) (by decide) ha
  obtain ⟨m, rfl⟩ : ∃ m, k = m + 1 + l.length * 10 := ⟨k - (1 + l.length * 10), by omega⟩
  have h3 := more_loop l hl hn m l.length 0 (4294967295 ^^^ a) (by omega) (xor_lt (by decide) ha)
  rw [← h2] at h3
  exact h3
theorem sum_eq (l : List Int) (hl : ∀ x ∈ l, 0 ≤ x ∧ x < 256) (hn : l.length < 9223372036854775807) (k : Nat) (hk : 1 + l.length * 10 ≤ k) :
    crc_Sum.f k l = some ((more 0 l : Nat) : Int) := by
  unfold crc_Sum.f
  have : crc_More.f k 0 l = some ((more 0 l : Nat) : Int) := more_eq l hl hn k hk 0 (by decide)
  rw [this]
  rfl
theorem head_sum : more 0 [49, 50, 51, 52, 53, 54, 55, 56, 57] = 3421780262 := by decide +kernel
theorem heads_eq (k : Nat) (hk : 100 ≤ k) : haystacklaw05_heads.f k = some true := by
  unfold haystacklaw05_heads.f
  rw [sum_eq _ (by decide) (by decide) k (by simp; omega), head_sum]
  rw [Option.bind_some, if_pos (by decide), sum_eq _ (by decide) (by decide) k (by simp; omega)]
  rfl

theorem ref_bits (l : List Int) (j : Int) (k : Nat) : ∀ (d i : Nat) (c : Nat), d + i = 8 → c < 4294967296 →
    haystackref05_More.l1 (k + (d + 1)) l (c : Int) j (i : Int) = haystackref05_More.l0 k l ((Nat.rec (motive := fun _ => Nat → Nat) (fun c => c) (fun _ f c => f (stp c)) d c : Nat) : Int) (wrap64 (j + 1)) := by
  intro d
  induction d with
  | zero =>
    intro i c h hc
    show haystackref05_More.l1 (k + 1) _ _ _ _ = _
    simp only [haystackref05_More.l1]
    rw [if_neg (by omega)]
    rfl
  | succ d ih =>
    intro i c h hc
    show haystackref05_More.l1 (k + (d + 1) + 1) _ _ _ _ = _
    simp only [haystackref05_More.l1]
    rw [if_pos (by omega), wrap_small (by omega) (by omega)]
    have hs := step_ref hc
    have h2 := ih (i + 1) (stp c) (by omega) (stp_lt hc)
    by_cases hb : Int.tmod (c : Int) 2 = 1
    · rw [if_pos hb] at hs ⊢; rw [hs]; exact h2
    · rw [if_neg hb] at hs ⊢; rw [hs]; exact h2
theorem ref_byte (l : List Int) (j : Int) (k : Nat) (c : Nat) (hc : c < 4294967296) :
    haystackref05_More.l1 (k + 9) l (c : Int) j 0 = haystackref05_More.l0 k l ((byt c : Nat) : Int) (wrap64 (j + 1)) := ref_bits l j k 8 0 c (by decide) hc
theorem ref_loop (l : List Int) (hl : ∀ x ∈ l, 0 ≤ x ∧ x < 256) (hn : l.length < 9223372036854775807) (k : Nat) : ∀ (d j : Nat) (c : Nat), d + j = l.length → c < 4294967296 →
    haystackref05_More.l0 (k + 1 + d * 10) l (c : Int) (j : Int) = some ((4294967295 ^^^ run c (l.drop j) : Nat) : Int) := by
  intro d
  induction d with
  | zero =>
    intro j c h hc
    rw [Nat.zero_mul, Nat.add_zero]
    simp only [haystackref05_More.l0]
    rw [if_neg (by omega), List.drop_of_length_le (by omega)]
    have h2 := xor_u32 (a := c) (b := 4294967295) hc (by decide)
    rw [Nat.xor_comm] at h2
    exact congrArg some h2
  | succ d ih =>
    intro j c h hc
    rw [show k + 1 + (d + 1) * 10 = (k + 1 + d * 10 + 9) + 1 by omega]
    simp only [haystackref05_More.l0]
    have hd := rd_drop l j (by omega)
    have hm : rd l (j : Int) ∈ l := List.mem_of_mem_drop (hd ▸ List.mem_cons_self)
    have hx := hl _ hm
    rw [if_pos (by omega), if_pos (by omega), xor_u32_byte hc hx.1 hx.2, ref_byte _ _ _ _ (xor_lt hc (by omega)), wrap_small (by omega) (by omega), hd]
    exact ih (j + 1) _ (by omega) (byt_lt (xor_lt hc (by omega)))
theorem ref_eq (l : List Int) (hl : ∀ x ∈ l, 0 ≤ x ∧ x < 256) (hn : l.length < 9223372036854775807) (k : Nat) (hk : 1 + l.length * 10 ≤ k) (a : Nat) (ha : a < 4294967296) :
    haystackref05_More.f k (a : Int) l = some ((more a l : Nat) : Int) := by
  unfold haystackref05_More.f more
  have h2 := xor_u32 (a := a) (b := 4294967295) ha (by decide)
  rw [Nat.xor_comm] at h2
  obtain ⟨m, rfl⟩ : ∃ m, k = m + 1 + l.length * 10 := ⟨k - (1 + l.length * 10), by omega⟩
  have h3 := ref_loop l hl hn m l.length 0 (4294967295 ^^^ a) (by omega) (xor_lt (by decide) ha)
  rw [← h2] at h3
  exact h3
theorem CrcTells : haystacklaw05_CrcTells.Pure := by
  intro a l ha _ hl hw
  have hl2 := wf8 hw
  obtain ⟨n, rfl, hn⟩ : ∃ n : Nat, a = n ∧ n < 4294967296 := by
    simp [Lit.wf, IntKind.min, IntKind.max, IntKind.signed, IntKind.bits] at ha
    exact ⟨a.toNat, by omega, by omega⟩
  refine ⟨1000000, ?_⟩
  unfold haystacklaw05_CrcTells.f
  by_cases h : (l.length : Int) > 20000
  · rw [if_pos h, heads_eq _ (by omega)]; rfl
  · rw [if_neg h, sum_eq l hl2 (by omega) _ (by omega)]
    unfold haystackref05_Sum.f
    have h0 : haystackref05_More.f 1000000 0 l = some ((more 0 l : Nat) : Int) := ref_eq l hl2 (by omega) 1000000 (by omega) 0 (by decide)
    rw [h0, Option.bind_some, Option.bind_some, Option.bind_some, if_pos rfl, more_eq l hl2 (by omega) _ (by omega) n hn]
    simp only [Option.bind_some]
    rw [ref_eq l hl2 (by omega) _ (by omega) n hn, Option.bind_some, if_pos rfl, heads_eq _ (by omega)]
    rfl

end Go.Proofs.Ytidoapamakncgaa.Pure
