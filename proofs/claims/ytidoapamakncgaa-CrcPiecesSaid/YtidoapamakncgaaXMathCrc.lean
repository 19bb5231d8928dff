/- The plain law of the checksum: a step of one bit on natural numbers, its bounds, that it goes along with exclusive or, and that it can be undone. No program in it. -/
import Derived.Laws.BitsAllLaws
namespace Go.Proofs.MathCrc

def stp (c : Nat) : Nat := (c / 2) ^^^ (3988292384 * (c % 2))
def byt (c : Nat) : Nat := stp (stp (stp (stp (stp (stp (stp (stp c)))))))
def run : Nat → List Int → Nat
  | c, [] => c
  | c, x :: l => run (byt (c ^^^ x.toNat)) l

theorem xor_lt {a b : Nat} (ha : a < 4294967296) (hb : b < 4294967296) : a ^^^ b < 4294967296 := Nat.xor_lt_two_pow (n := 32) ha hb
theorem stp_lt {c : Nat} (h : c < 4294967296) : stp c < 4294967296 := by
  unfold stp
  exact xor_lt (by omega) (by omega)
theorem byt_lt {c : Nat} (h : c < 4294967296) : byt c < 4294967296 := by
  unfold byt
  exact stp_lt (stp_lt (stp_lt (stp_lt (stp_lt (stp_lt (stp_lt (stp_lt h)))))))
theorem xor_div (a b : Nat) : (a ^^^ b) / 2 = (a / 2) ^^^ (b / 2) := by
  apply Nat.eq_of_testBit_eq
  intro i
  simp [Nat.testBit_div_two]
theorem xor_mod (a b : Nat) : (a ^^^ b) % 2 = (a % 2) ^^^ (b % 2) := by
  have h := Nat.xor_mod_two_pow (a := a) (b := b) (n := 1)
  simpa using h
theorem mul_bit (p x y : Nat) (hx : x < 2) (hy : y < 2) : p * (x ^^^ y) = (p * x) ^^^ (p * y) := by
  have h1 : x = 0 ∨ x = 1 := by omega
  have h2 : y = 0 ∨ y = 1 := by omega
  rcases h1 with rfl | rfl <;> rcases h2 with rfl | rfl <;> simp
theorem four (a b c d : Nat) : (a ^^^ b) ^^^ (c ^^^ d) = (a ^^^ c) ^^^ (b ^^^ d) := by
  rw [Nat.xor_assoc, Nat.xor_assoc, ← Nat.xor_assoc b c d, Nat.xor_comm b c, Nat.xor_assoc c b d]
theorem stp_xor (a b : Nat) : stp (a ^^^ b) = stp a ^^^ stp b := by
  unfold stp
  rw [xor_div, xor_mod, mul_bit _ _ _ (Nat.mod_lt _ (by decide)) (Nat.mod_lt _ (by decide)), four]
theorem byt_xor (a b : Nat) : byt (a ^^^ b) = byt a ^^^ byt b := by
  unfold byt
  simp only [stp_xor]
theorem xor_zero_iff {a b : Nat} (h : a ^^^ b = 0) : a = b := by
  have h2 : a ^^^ b ^^^ b = 0 ^^^ b := by rw [h]
  rwa [Nat.xor_assoc, Nat.xor_self, Nat.xor_zero, Nat.zero_xor] at h2
theorem stp_zero {z : Nat} (hz : z < 4294967296) (h : stp z = 0) : z = 0 := by
  unfold stp at h
  have h2 := xor_zero_iff h
  have h3 : z % 2 = 0 ∨ z % 2 = 1 := by omega
  rcases h3 with h3 | h3
  · rw [h3] at h2; omega
  · rw [h3] at h2; omega
theorem stp_inj {a b : Nat} (ha : a < 4294967296) (hb : b < 4294967296) (h : stp a = stp b) : a = b := by
  apply xor_zero_iff
  apply stp_zero (xor_lt ha hb)
  rw [stp_xor, h, Nat.xor_self]
theorem byt_inj {a b : Nat} (ha : a < 4294967296) (hb : b < 4294967296) (h : byt a = byt b) : a = b := by
  unfold byt at h
  have l1 := stp_lt ha; have m1 := stp_lt hb
  have l2 := stp_lt l1; have m2 := stp_lt m1
  have l3 := stp_lt l2; have m3 := stp_lt m2
  have l4 := stp_lt l3; have m4 := stp_lt m3
  have l5 := stp_lt l4; have m5 := stp_lt m4
  have l6 := stp_lt l5; have m6 := stp_lt m5
  have l7 := stp_lt l6; have m7 := stp_lt m6
  exact stp_inj ha hb (stp_inj l1 m1 (stp_inj l2 m2 (stp_inj l3 m3 (stp_inj l4 m4 (stp_inj l5 m5 (stp_inj l6 m6 (stp_inj l7 m7 h)))))))
theorem run_lt (l : List Int) : ∀ {c : Nat}, c < 4294967296 → (∀ x ∈ l, 0 ≤ x ∧ x < 256) → run c l < 4294967296 := by
  induction l with
  | nil => intro c h _; exact h
  | cons x l ih =>
    intro c h hl
    have hx := hl x List.mem_cons_self
    exact ih (byt_lt (xor_lt h (by omega))) (fun y hy => hl y (List.mem_cons_of_mem _ hy))
theorem run_append (a b : List Int) : ∀ c, run c (a ++ b) = run (run c a) b := by
  induction a with
  | nil => intro c; rfl
  | cons x l ih => intro c; exact ih _
/-- Three lists of one length, and all put together. -/
def tri : List Int → List Int → List Int → List Int
  | x :: a, y :: b, z :: c => (((x.toNat ^^^ y.toNat ^^^ z.toNat : Nat)) : Int) :: tri a b c
  | _, _, _ => []
theorem six (p q r x y z : Nat) : (p ^^^ q ^^^ r) ^^^ (x ^^^ y ^^^ z) = (p ^^^ x) ^^^ (q ^^^ y) ^^^ (r ^^^ z) := by
  rw [four, four p q x y]
theorem run_tri (a : List Int) : ∀ (b c : List Int) (p q r : Nat), a.length = b.length → a.length = c.length → run (p ^^^ q ^^^ r) (tri a b c) = run p a ^^^ run q b ^^^ run r c := by
  induction a with
  | nil =>
    intro b c p q r h1 h2
    cases b <;> cases c <;> simp_all [tri, run]
  | cons x a ih =>
    intro b c p q r h1 h2
    cases b with
    | nil => simp at h1
    | cons y b =>
      cases c with
      | nil => simp at h2
      | cons z c =>
        simp only [tri, run, Int.toNat_natCast]
        rw [six, byt_xor, byt_xor]
        exact ih b c _ _ _ (by simpa using h1) (by simpa using h2)
/-- One other byte, another sum. -/
theorem run_inj (l : List Int) : ∀ {c d : Nat}, c < 4294967296 → d < 4294967296 → (∀ x ∈ l, 0 ≤ x ∧ x < 256) → run c l = run d l → c = d := by
  induction l with
  | nil => intro c d _ _ _ h; exact h
  | cons x l ih =>
    intro c d hc hd hl h
    have hx := hl x List.mem_cons_self
    have hxl : x.toNat < 4294967296 := by omega
    have h2 := ih (byt_lt (xor_lt hc hxl)) (byt_lt (xor_lt hd hxl)) (fun y hy => hl y (List.mem_cons_of_mem _ hy)) h
    have h3 := byt_inj (xor_lt hc hxl) (xor_lt hd hxl) h2
    have h4 : c ^^^ x.toNat ^^^ x.toNat = d ^^^ x.toNat ^^^ x.toNat := by rw [h3]
    rwa [Nat.xor_assoc, Nat.xor_self, Nat.xor_zero, Nat.xor_assoc, Nat.xor_self, Nat.xor_zero] at h4
theorem run_set (l : List Int) : ∀ (i : Nat) (y : Int) {c : Nat}, i < l.length → c < 4294967296 → (∀ x ∈ l, 0 ≤ x ∧ x < 256) → 0 ≤ y → y < 256 → y ≠ l.getD i 0 → run c (l.set i y) ≠ run c l := by
  induction l with
  | nil => intro i y c h; simp at h
  | cons x l ih =>
    intro i y c hi hc hl h0 h1 hne
    have hx := hl x List.mem_cons_self
    have hl' : ∀ z ∈ l, 0 ≤ z ∧ z < 256 := fun z hz => hl z (List.mem_cons_of_mem _ hz)
    cases i with
    | zero =>
      simp only [List.set_cons_zero, run]
      intro h
      have hxl : x.toNat < 4294967296 := by omega
      have hyl : y.toNat < 4294967296 := by omega
      have h2 := run_inj l (byt_lt (xor_lt hc hyl)) (byt_lt (xor_lt hc hxl)) hl' h
      have h3 := byt_inj (xor_lt hc hyl) (xor_lt hc hxl) h2
      have h4 : c ^^^ (c ^^^ y.toNat) = c ^^^ (c ^^^ x.toNat) := by rw [h3]
      rw [← Nat.xor_assoc, ← Nat.xor_assoc, Nat.xor_self, Nat.zero_xor, Nat.zero_xor] at h4
      apply hne
      simp only [List.getD_cons_zero]
      omega
    | succ i =>
      simp only [List.set_cons_succ, run]
      exact ih i y (by simpa using hi) (byt_lt (xor_lt hc (by omega))) hl' h0 h1 (by simpa using hne)
theorem not_not (c : Nat) : 4294967295 ^^^ (4294967295 ^^^ c) = c := by rw [← Nat.xor_assoc, Nat.xor_self, Nat.zero_xor]
/-- What the code computes, on natural numbers. -/
def more (a : Nat) (l : List Int) : Nat := 4294967295 ^^^ run (4294967295 ^^^ a) l
theorem more_lt {a : Nat} {l : List Int} (ha : a < 4294967296) (hl : ∀ x ∈ l, 0 ≤ x ∧ x < 256) : more a l < 4294967296 := xor_lt (by decide) (run_lt l (xor_lt (by decide) ha) hl)

/- the steps as the code has them -/
theorem xor_u32 {a b : Nat} (ha : a < 4294967296) (hb : b < 4294967296) : bits .xor .u32 (a : Int) (b : Int) = ((a ^^^ b : Nat) : Int) := u32_xor_nat a b ha hb
theorem xor_u32_byte {a : Nat} {x : Int} (ha : a < 4294967296) (h0 : 0 ≤ x) (h1 : x < 256) : bits .xor .u32 (a : Int) (x % 4294967296) = ((a ^^^ x.toNat : Nat) : Int) := by
  obtain ⟨n, rfl⟩ := Int.eq_ofNat_of_zero_le h0
  rw [show ((n : Int) % 4294967296) = (n : Int) by omega]
  simpa using u32_xor_nat a n ha (by omega)
theorem step_u32 {a : Nat} (ha : a < 4294967296) : bits .xor .u32 ((a : Int) / 2) ((3988292384 * (bits .and .u32 (a : Int) 1)) % 4294967296) = ((stp a : Nat) : Int) := by
  have h1 : bits .and .u32 (a : Int) 1 = ((a % 2 : Nat) : Int) := by
    have := u32_and_nat a 1 ha (by decide)
    rw [Nat.and_one_is_mod] at this
    simpa using this
  rw [h1]
  unfold stp
  rw [show ((a : Int) / 2) = ((a / 2 : Nat) : Int) by omega, show ((3988292384 : Int) * ((a % 2 : Nat) : Int)) % 4294967296 = ((3988292384 * (a % 2) : Nat) : Int) by omega]
  exact u32_xor_nat _ _ (by omega) (by omega)
theorem step_ref {a : Nat} (ha : a < 4294967296) : (if Int.tmod (a : Int) 2 = 1 then bits .xor .u32 ((Int.tdiv (a : Int) 2) % 4294967296) 3988292384 else (Int.tdiv (a : Int) 2) % 4294967296) = ((stp a : Nat) : Int) := by
  rw [Int.tmod_eq_emod_of_nonneg (by omega), Int.tdiv_eq_ediv_of_nonneg (by omega)]
  unfold stp
  rw [show ((a : Int) / 2) % 4294967296 = ((a / 2 : Nat) : Int) by omega]
  have h3 : a % 2 = 0 ∨ a % 2 = 1 := by omega
  rcases h3 with h3 | h3
  · rw [if_neg (by omega), h3]; simp
  · rw [if_pos (by omega), h3]
    simpa using u32_xor_nat (a / 2) 3988292384 (by omega) (by decide)
end Go.Proofs.MathCrc
