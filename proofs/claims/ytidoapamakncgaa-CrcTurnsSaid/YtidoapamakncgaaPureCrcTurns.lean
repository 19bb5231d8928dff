/- For every list of bytes, place and byte that is not 0: a byte that is changed changes the sum. Conditions: none. -/
import Derived.Test.YtidoapamakncgaaPCrcTurnsx1
import Derived.Test.YtidoapamakncgaaXMathCrc
namespace Go.Proofs.Ytidoapamakncgaa.Pure
open Go.RowKit Go.Proofs.Ytidoapamakncgaa.PCrcTurns Go.Proofs.YtidoapamakncgaaW.PrintWords Go.Proofs.YtidoapamakncgaaW.PrintLast Go.Proofs.YtidoapamakncgaaW.PrintMore Go.Proofs.MathCrc

theorem wf8 {l : List Int} (h : ∀ x ∈ l, (Lit.int .u8 x).wf = true) : ∀ x ∈ l, 0 ≤ x ∧ x < 256 := by
  intro x hx
  have := h x hx
  simp [Lit.wf, IntKind.min, IntKind.max, IntKind.signed, IntKind.bits] at this
  omega
theorem wrap_small {i : Int} (h0 : 0 ≤ i) (h1 : i < 9223372036854775807) : wrap64 (i + 1) = i + 1 := by
  unfold wrap64
  omega
theorem bits_loop (l : List Int) (n j : Int) (k : Nat) : ∀ (d i : Nat) (c : Nat), d + i = 8 → c < 4294967296 →
    crc_More.l1 (k + (d + 1)) (c : Int) l n j (i : Int) = crc_More.l0 k ((Nat.rec (motive := fun _ => Nat → Nat) (fun c => c) (fun _ f c => f (stp c)) d c : Nat) : Int) l n (wrap64 (j + 1)) := by
  intro d
  induction d with
  | zero =>
    intro i c h hc
    show crc_More.l1 (k + 1) _ _ _ _ _ = _
    simp only [crc_More.l1]
    rw [if_neg (by omega)]
    rfl
  | succ d ih =>
    intro i c h hc
    show crc_More.l1 (k + (d + 1) + 1) _ _ _ _ _ = _
    simp only [crc_More.l1]
    rw [if_pos (by omega), step_u32 hc, wrap_small (by omega) (by omega)]
    exact ih (i + 1) (stp c) (by omega) (stp_lt hc)
theorem byte_loop (l : List Int) (n j : Int) (k : Nat) (c : Nat) (hc : c < 4294967296) :
    crc_More.l1 (k + 9) (c : Int) l n j 0 = crc_More.l0 k ((byt c : Nat) : Int) l n (wrap64 (j + 1)) := bits_loop l n j k 8 0 c (by decide) hc
theorem rd_drop (l : List Int) (j : Nat) (h : j < l.length) : l.drop j = rd l (j : Int) :: l.drop (j + 1) := by
  rw [List.drop_eq_getElem_cons h]
  congr 1
  unfold rd
  simp [List.getD_eq_getElem?_getD, h]
theorem more_loop (l : List Int) (hl : ∀ x ∈ l, 0 ≤ x ∧ x < 256) (hn : l.length < 9223372036854775807) (k : Nat) : ∀ (d j : Nat) (c : Nat), d + j = l.length → c < 4294967296 →
    crc_More.l0 (k + 1 + d * 10) (c : Int) l (l.length : Int) (j : Int) = some ((4294967295 ^^^ run c (l.drop j) : Nat) : Int) := by
  intro d
  induction d with
  | zero =>
    intro j c h hc
    rw [Nat.zero_mul, Nat.add_zero]
    simp only [crc_More.l0]
    rw [if_neg (by omega), List.drop_of_length_le (by omega)]
    have h2 := xor_u32 (a := 4294967295) (b := c) (by decide) hc
    exact congrArg some h2
  | succ d ih =>
    intro j c h hc
    rw [show k + 1 + (d + 1) * 10 = (k + 1 + d * 10 + 9) + 1 by omega]
    simp only [crc_More.l0]
    have hd := rd_drop l j (by omega)
    have hm : rd l (j : Int) ∈ l := List.mem_of_mem_drop (hd ▸ List.mem_cons_self)
    have hx := hl _ hm
    rw [if_pos (by omega), if_pos (by omega), if_pos (by omega), xor_u32_byte hc hx.1 hx.2, byte_loop _ _ _ _ _ (xor_lt hc (by omega)), wrap_small (by omega) (by omega), hd]
    exact ih (j + 1) _ (by omega) (byt_lt (xor_lt hc (by omega)))
theorem more_eq (l : List Int) (hl : ∀ x ∈ l, 0 ≤ x ∧ x < 256) (hn : l.length < 9223372036854775807) (k : Nat) (hk : 1 + l.length * 10 ≤ k) (a : Nat) (ha : a < 4294967296) :
    crc_More.f k (a : Int) l = some ((more a l : Nat) : Int) := by
  unfold crc_More.f more
  have h2 := xor_u32 (a := 4294967295) (b := a) (by decide) ha
  obtain ⟨m, rfl⟩ : ∃ m, k = m + 1 + l.length * 10 := ⟨k - (1 + l.length * 10), by omega⟩
  have h3 := more_loop l hl hn m l.length 0 (4294967295 ^^^ a) (by omega) (xor_lt (by decide) ha)
  rw [← h2] at h3
  exact h3
theorem sum_eq (l : List Int) (hl : ∀ x ∈ l, 0 ≤ x ∧ x < 256) (hn : l.length < 9223372036854775807) (k : Nat) (hk : 1 + l.length * 10 ≤ k) :
    crc_Sum.f k l = some ((more 0 l : Nat) : Int) := by
  unfold crc_Sum.f
  have : crc_More.f k 0 l = some ((more 0 l : Nat) : Int) := more_eq l hl hn k hk 0 (by decide)
  rw [this]
  rfl
theorem head_sum : more 0 [49, 50, 51, 52, 53, 54, 55, 56, 57] = 3421780262 := by decide +kernel
theorem heads_eq (k : Nat) (hk : 100 ≤ k) : haystacklaw05_heads.f k = some true := by
  unfold haystacklaw05_heads.f
  rw [sum_eq _ (by decide) (by decide) k (by simp; omega), head_sum]
  rw [Option.bind_some, if_pos (by decide), sum_eq _ (by decide) (by decide) k (by simp; omega)]
  rfl

theorem xor8_ne {x y : Int} (h0 : 0 ≤ x) (h1 : x < 256) (k0 : 0 ≤ y) (k1 : y < 256) (hy : y ≠ 0) : bits .xor .u8 x y ≠ x ∧ 0 ≤ bits .xor .u8 x y ∧ bits .xor .u8 x y < 256 := by
  rw [u8_xor x y h0 h1 k0 k1]
  have hlt : x.toNat ^^^ y.toNat < 256 := Nat.xor_lt_two_pow (n := 8) (by omega) (by omega)
  refine ⟨fun h => ?_, by omega, by omega⟩
  have h2 : x.toNat ^^^ y.toNat = x.toNat := by omega
  have h3 : x.toNat ^^^ (x.toNat ^^^ y.toNat) = x.toNat ^^^ x.toNat := by rw [h2]
  rw [← Nat.xor_assoc, Nat.xor_self, Nat.zero_xor] at h3
  omega
theorem CrcTurns : haystacklaw05_CrcTurns.Pure := by
  intro l i x _ hl hw hi hx
  have hl2 := wf8 hw
  have hx2 : 0 ≤ x ∧ x < 256 := by
    simp [Lit.wf, IntKind.min, IntKind.max, IntKind.signed, IntKind.bits] at hx
    omega
  have hj : ∀ z, z = true → haystacklaw05_CrcTurns.j0 101 l i x z = some true := by
    intro z hz
    show haystacklaw05_CrcTurns.j0 (100 + 1) l i x z = some true
    simp only [haystacklaw05_CrcTurns.j0]
    rw [if_pos hz, heads_eq 100 (by omega)]
    rfl
  unfold haystacklaw05_CrcTurns.f
  by_cases h1 : (l.length : Int) > 10000
  · exact ⟨101, by rw [if_pos h1]; exact hj _ rfl⟩
  by_cases h2 : i < 0
  · exact ⟨101, by rw [if_neg h1, if_pos h2]; exact hj _ rfl⟩
  by_cases h3 : i ≥ (l.length : Int)
  · exact ⟨101, by rw [if_neg h1, if_neg h2, if_pos h3]; exact hj _ rfl⟩
  by_cases h4 : x = 0
  · exact ⟨101, by rw [if_neg h1, if_neg h2, if_neg h3]; exact hj _ (by rw [h4]; rfl)⟩
  refine ⟨1000001, ?_⟩
  rw [if_neg h1, if_neg h2, if_neg h3]
  show haystacklaw05_CrcTurns.j0 (1000000 + 1) l i x _ = some true
  simp only [haystacklaw05_CrcTurns.j0]
  have hm : rd l i ∈ l := by
    obtain ⟨n, rfl⟩ := Int.eq_ofNat_of_zero_le (by omega : 0 ≤ i)
    exact List.mem_of_mem_drop (rd_drop l n (by omega) ▸ List.mem_cons_self)
  have hr := hl2 _ hm
  have hb := xor8_ne hr.1 hr.2 hx2.1 hx2.2 h4
  rw [if_neg (by simpa using h4)]
  simp only [Option.bind_some, List.nil_append]
  have hset : ∀ y ∈ l.set i.toNat (bits .xor .u8 (rd l i) x), 0 ≤ y ∧ y < 256 := by
    intro y hy
    rcases List.mem_or_eq_of_mem_set hy with hy | hy
    · exact hl2 y hy
    · subst hy; exact hb.2
  rw [if_pos (by simp; omega), if_pos (by omega), if_pos (by omega), sum_eq _ hset (by rw [List.length_set]; omega) _ (by rw [List.length_set]; omega)]
  simp only [Option.bind_some]
  rw [sum_eq l hl2 (by omega) _ (by omega)]
  simp only [Option.bind_some]
  have hne : more 0 (l.set i.toNat (bits .xor .u8 (rd l i) x)) ≠ more 0 l := by
    unfold more
    intro h
    have h2 := congrArg (4294967295 ^^^ ·) h
    simp only [not_not] at h2
    exact run_set l i.toNat _ (by omega) (by decide) hl2 hb.2.1 hb.2.2 (by
      have : l.getD i.toNat 0 = rd l i := rfl
      rw [this]; exact hb.1) h2
  rw [if_neg (by omega), heads_eq _ (by omega)]
  rfl

end Go.Proofs.Ytidoapamakncgaa.Pure
