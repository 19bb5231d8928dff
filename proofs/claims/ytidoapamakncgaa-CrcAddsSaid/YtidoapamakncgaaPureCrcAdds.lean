/- For every three lists of bytes: the sum of the bytes put together by exclusive or is the three sums put together by exclusive or (lists cut to one length, longer ones beside the point). Conditions: none. -/
import Derived.Test.YtidoapamakncgaaPCrcAddsx2
import Derived.Test.YtidoapamakncgaaXMathCrc
namespace Go.Proofs.Ytidoapamakncgaa.Pure
open Go.RowKit Go.Proofs.Ytidoapamakncgaa.PCrcAdds Go.Proofs.YtidoapamakncgaaW.PrintWords Go.Proofs.YtidoapamakncgaaW.PrintLast Go.Proofs.YtidoapamakncgaaW.PrintMore Go.Proofs.MathCrc

theorem wf8 {l : List Int} (h : ∀ x ∈ l, (Lit.int .u8 x).wf = true) : ∀ x ∈ l, 0 ≤ x ∧ x < 256 := by
  intro x hx
  have := h x hx
  simp [Lit.wf, IntKind.min, IntKind.max, IntKind.signed, IntKind.bits] at this
  omega
theorem wrap_small {i : Int} (h0 : 0 ≤ i) (h1 : i < 9223372036854775807) : wrap64 (i + 1) = i + 1 := by
  unfold wrap64
  omega
theorem bits_loop (l : List Int) (n j : Int) (k : Nat) : ∀ (d i : Nat) (c : Nat), d + i = 8 → c < 4294967296 →
    crc_More.l1 (k + (d + 1)) (c : Int) l n j (i : Int) = crc_More.l0 k ((Nat.rec (motive := fun _ => Nat → Nat) (fun c => c) (fun _ f c => f (stp c)) d c : Nat) : Int) l n (wrap64 (j + 1)) := by
  intro d
  induction d with
  | zero =>
    intro i c h hc
    show crc_More.l1 (k + 1) _ _ _ _ _ = _
    simp only [crc_More.l1]
    rw [if_neg (by omega)]
    rfl
  | succ d ih =>
    intro i c h hc
    show crc_More.l1 (k + (d + 1) + 1) _ _ _ _ _ = _
    simp only [crc_More.l1]
    rw [if_pos (by omega), step_u32 hc, wrap_small (by omega) (by omega)]
    exact ih (i + 1) (stp c) (by omega) (stp_lt hc)
theorem byte_loop (l : List Int) (n j : Int) (k : Nat) (c : Nat) (hc : c < 4294967296) :
    crc_More.l1 (k + 9) (c : Int) l n j 0 = crc_More.l0 k ((byt c : Nat) : Int) l n (wrap64 (j + 1)) := bits_loop l n j k 8 0 c (by decide) hc
theorem rd_drop (l : List Int) (j : Nat) (h : j < l.length) : l.drop j = rd l (j : Int) :: l.drop (j + 1) := by
  rw [List.drop_eq_getElem_cons h]
  congr 1
  unfold rd
  simp [List.getD_eq_getElem?_getD, h]
theorem more_loop (l : List Int) (hl : ∀ x ∈ l, 0 ≤ x ∧ x < 256) (hn : l.length < 9223372036854775807) (k : Nat) : ∀ (d j : Nat) (c : Nat), d + j = l.length → c < 4294967296 →
    crc_More.l0 (k + 1 + d * 10) (c : Int) l (l.length : Int) (j : Int) = some ((4294967295 ^^^ run c (l.drop j) : Nat) : Int) := by
  intro d
  induction d with
  | zero =>
    intro j c h hc
    rw [Nat.zero_mul, Nat.add_zero]
    simp only [crc_More.l0]
    rw [if_neg (by omega), List.drop_of_length_le (by omega)]
    have h2 := xor_u32 (a := 4294967295) (b := c) (by decide) hc
    exact congrArg some h2
  | succ d ih =>
    intro j c h hc
    rw [show k + 1 + (d + 1) * 10 = (k + 1 + d * 10 + 9) + 1 by omega]
    simp only [crc_More.l0]
    have hd := rd_drop l j (by omega)
    have hm : rd l (j : Int) ∈ l := List.mem_of_mem_drop (hd ▸ List.mem_cons_self)
    have hx := hl _ hm
    rw [if_pos (by omega), if_pos (by omega), if_pos (by omega), xor_u32_byte hc hx.1 hx.2, byte_loop _ _ _ _ _ (xor_lt hc (by omega)), wrap_small (by omega) (by omega), hd]
    exact ih (j + 1) _ (by omega) (byt_lt (xor_lt hc (by omega)))
theorem more_eq (l : List Int) (hl : ∀ x ∈ l, 0 ≤ x ∧ x < 256) (hn : l.length < 9223372036854775807) (k : Nat) (hk : 1 + l.length * 10 ≤ k) (a : Nat) (ha : a < 4294967296) :
    crc_More.f k (a : Int) l = some ((more a l : Nat) : Int) := by
  unfold crc_More.f more
  have h2 := xor_u32 (a := 4294967295) (b := a) (by decide) ha
  obtain ⟨m, rfl⟩ : ∃ m, k = m + 1 + l.length * 10 := ⟨k - (1 + l.length * 10), by omega⟩
  have h3 := more_loop l hl hn m l.length 0 (4294967295 ^^^ a) (by omega) (xor_lt (by decide) ha)
  rw [← h2] at h3
  exact h3
theorem sum_eq (l : List Int) (hl : ∀ x ∈ l, 0 ≤ x ∧ x < 256) (hn : l.length < 9223372036854775807) (k : Nat) (hk : 1 + l.length * 10 ≤ k) :
    crc_Sum.f k l = some ((more 0 l : Nat) : Int) := by
  unfold crc_Sum.f
  have : crc_More.f k 0 l = some ((more 0 l : Nat) : Int) := more_eq l hl hn k hk 0 (by decide)
  rw [this]
  rfl
theorem head_sum : more 0 [49, 50, 51, 52, 53, 54, 55, 56, 57] = 3421780262 := by decide +kernel
theorem heads_eq (k : Nat) (hk : 100 ≤ k) : haystacklaw05_heads.f k = some true := by
  unfold haystacklaw05_heads.f
  rw [sum_eq _ (by decide) (by decide) k (by simp; omega), head_sum]
  rw [Option.bind_some, if_pos (by decide), sum_eq _ (by decide) (by decide) k (by simp; omega)]
  rfl

theorem mn_eq (a b : Int) : mn a b = if b < a then b else a := rfl
theorem xor8 {x y z : Int} (hx : 0 ≤ x ∧ x < 256) (hy : 0 ≤ y ∧ y < 256) (hz : 0 ≤ z ∧ z < 256) : bits .xor .u8 (bits .xor .u8 x y) z = ((x.toNat ^^^ y.toNat ^^^ z.toNat : Nat) : Int) ∧ (0 : Int) ≤ ((x.toNat ^^^ y.toNat ^^^ z.toNat : Nat) : Int) ∧ ((x.toNat ^^^ y.toNat ^^^ z.toNat : Nat) : Int) < 256 := by
  have h1 : x.toNat ^^^ y.toNat < 256 := Nat.xor_lt_two_pow (n := 8) (by omega) (by omega)
  have h2 : x.toNat ^^^ y.toNat ^^^ z.toNat < 256 := Nat.xor_lt_two_pow (n := 8) h1 (by omega)
  refine ⟨?_, by omega, by omega⟩
  rw [u8_xor x y hx.1 hx.2 hy.1 hy.2, u8_xor _ z (by omega) (by omega) hz.1 hz.2, Int.toNat_natCast]
theorem tri_ok (a : List Int) : ∀ (b c : List Int), (∀ x ∈ a, 0 ≤ x ∧ x < 256) → (∀ x ∈ b, 0 ≤ x ∧ x < 256) → (∀ x ∈ c, 0 ≤ x ∧ x < 256) → ∀ x ∈ tri a b c, 0 ≤ x ∧ x < 256 := by
  induction a with
  | nil => intro b c _ _ _ x hx; simp [tri] at hx
  | cons x a ih =>
    intro b c ha hb hc
    cases b with
    | nil => intro x hx; simp [tri] at hx
    | cons y b =>
      cases c with
      | nil => intro x hx; simp [tri] at hx
      | cons z c =>
        intro u hu
        simp only [tri, List.mem_cons] at hu
        rcases hu with rfl | hu
        · exact (xor8 (ha _ List.mem_cons_self) (hb _ List.mem_cons_self) (hc _ List.mem_cons_self)).2
        · exact ih b c (fun v hv => ha v (List.mem_cons_of_mem _ hv)) (fun v hv => hb v (List.mem_cons_of_mem _ hv)) (fun v hv => hc v (List.mem_cons_of_mem _ hv)) u hu
theorem tri_length (a : List Int) : ∀ (b c : List Int), a.length = b.length → a.length = c.length → (tri a b c).length = a.length := by
  induction a with
  | nil => intro b c _ _; rfl
  | cons x a ih =>
    intro b c h1 h2
    cases b with
    | nil => simp at h1
    | cons y b =>
      cases c with
      | nil => simp at h2
      | cons z c => simp only [tri, List.length_cons]; rw [ih b c (by simpa using h1) (by simpa using h2)]
theorem tri_take (a b c : List Int) (j : Nat) (h1 : j < a.length) (h2 : j < b.length) (h3 : j < c.length) :
    tri (a.take (j + 1)) (b.take (j + 1)) (c.take (j + 1)) = tri (a.take j) (b.take j) (c.take j) ++ [(((rd a j).toNat ^^^ (rd b j).toNat ^^^ (rd c j).toNat : Nat) : Int)] := by
  induction a generalizing b c j with
  | nil => simp at h1
  | cons x a ih =>
    cases b with
    | nil => simp at h2
    | cons y b =>
      cases c with
      | nil => simp at h3
      | cons z c =>
        cases j with
        | zero => simp [tri, rd]
        | succ j =>
          have := ih b c j (by simpa using h1) (by simpa using h2) (by simpa using h3)
          simp only [List.take_succ_cons, tri, List.cons_append]
          rw [this]
          rfl
theorem rd_mem (l : List Int) (j : Nat) (h : j < l.length) : rd l (j : Int) ∈ l := List.mem_of_mem_drop (rd_drop l j h ▸ List.mem_cons_self)
theorem adds_loop (a b c : List Int) (ha : ∀ x ∈ a, 0 ≤ x ∧ x < 256) (hb : ∀ x ∈ b, 0 ≤ x ∧ x < 256) (hc : ∀ x ∈ c, 0 ≤ x ∧ x < 256) (n : Nat) (hn : n ≤ 10000) (h1 : n ≤ a.length) (h2 : n ≤ b.length) (h3 : n ≤ c.length) (k : Nat) (hk : 200000 ≤ k) : ∀ (d j : Nat), d + j = n →
    haystacklaw05_CrcAdds.l0 (k + 1 + d) a b c (n : Int) (tri (a.take j) (b.take j) (c.take j)) (j : Int) = some true := by
  have la : (a.take n).length = n := List.length_take_of_le h1
  have lb : (b.take n).length = n := List.length_take_of_le h2
  have lc : (c.take n).length = n := List.length_take_of_le h3
  have ta : ∀ x ∈ a.take n, 0 ≤ x ∧ x < 256 := fun x hx => ha x (List.mem_of_mem_take hx)
  have tb : ∀ x ∈ b.take n, 0 ≤ x ∧ x < 256 := fun x hx => hb x (List.mem_of_mem_take hx)
  have tc : ∀ x ∈ c.take n, 0 ≤ x ∧ x < 256 := fun x hx => hc x (List.mem_of_mem_take hx)
  intro d
  induction d with
  | zero =>
    intro j h
    obtain rfl : j = n := by omega
    simp only [haystacklaw05_CrcAdds.l0]
    have lt := tri_length (a.take j) (b.take j) (c.take j) (by omega) (by omega)
    rw [if_neg (by omega), sum_eq _ (tri_ok _ _ _ ta tb tc) (by omega) _ (by omega)]
    simp only [Option.bind_some, Int.toNat_natCast]
    rw [if_pos (by omega), if_pos (by omega), sum_eq _ ta (by omega) _ (by omega)]
    simp only [Option.bind_some]
    rw [if_pos (by omega), sum_eq _ tb (by omega) _ (by omega)]
    simp only [Option.bind_some]
    rw [if_pos (by omega), sum_eq _ tc (by omega) _ (by omega)]
    simp only [Option.bind_some]
    have ma := more_lt (a := 0) (by decide) ta
    have mb := more_lt (a := 0) (by decide) tb
    have mc := more_lt (a := 0) (by decide) tc
    rw [xor_u32 ma mb, xor_u32 (xor_lt ma mb) mc]
    have he : more 0 (tri (a.take j) (b.take j) (c.take j)) = more 0 (a.take j) ^^^ more 0 (b.take j) ^^^ more 0 (c.take j) := by
      unfold more
      have h2 := run_tri (a.take j) (b.take j) (c.take j) (4294967295 ^^^ 0) (4294967295 ^^^ 0) (4294967295 ^^^ 0) (by omega) (by omega)
      rw [← six, ← h2]
      rfl
    rw [he, if_pos rfl, heads_eq _ (by omega)]
    rfl
  | succ d ih =>
    intro j h
    rw [show k + 1 + (d + 1) = (k + 1 + d) + 1 by omega]
    simp only [haystacklaw05_CrcAdds.l0]
    have lt := tri_length (a.take j) (b.take j) (c.take j) (by rw [List.length_take, List.length_take]; omega) (by rw [List.length_take, List.length_take]; omega)
    rw [List.length_take] at lt
    rw [if_pos (by omega), if_pos (by omega), if_pos (by omega), if_pos (by omega), if_pos (by omega), if_pos (by omega), wrap_small (by omega) (by omega),
      (xor8 (ha _ (rd_mem a j (by omega))) (hb _ (rd_mem b j (by omega))) (hc _ (rd_mem c j (by omega)))).1, ← tri_take a b c j (by omega) (by omega) (by omega)]
    exact ih (j + 1) (by omega)
theorem CrcAdds : haystacklaw05_CrcAdds.Pure := by
  intro a b c _ la ha _ lb hb _ lc hc
  unfold haystacklaw05_CrcAdds.f
  obtain ⟨n, hn, h1, h2, h3⟩ : ∃ n : Nat, mn (mn (a.length : Int) (b.length : Int)) (c.length : Int) = (n : Int) ∧ n ≤ a.length ∧ n ≤ b.length ∧ n ≤ c.length := by
    rw [mn_eq, mn_eq]
    by_cases h : (b.length : Int) < a.length
    · rw [if_pos h]
      by_cases h' : (c.length : Int) < b.length
      · rw [if_pos h']; exact ⟨c.length, rfl, by omega, by omega, by omega⟩
      · rw [if_neg h']; exact ⟨b.length, rfl, by omega, by omega, by omega⟩
    · rw [if_neg h]
      by_cases h' : (c.length : Int) < a.length
      · rw [if_pos h']; exact ⟨c.length, rfl, by omega, by omega, by omega⟩
      · rw [if_neg h']; exact ⟨a.length, rfl, by omega, by omega, by omega⟩
  rw [hn]
  by_cases h : (n : Int) > 10000
  · exact ⟨100, by rw [if_pos h, heads_eq 100 (by omega)]; rfl⟩
  · refine ⟨200000 + 1 + n, ?_⟩
    rw [if_neg h]
    exact adds_loop a b c (wf8 ha) (wf8 hb) (wf8 hc) n (by omega) h1 h2 h3 200000 (by omega) n 0 (by omega)

end Go.Proofs.Ytidoapamakncgaa.Pure
