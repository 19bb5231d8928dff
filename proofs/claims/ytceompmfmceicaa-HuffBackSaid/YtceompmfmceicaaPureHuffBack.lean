import Derived.Test.YtceompmfmceicaaMathFits
import Derived.Test.YtceompmfmceicaaMathBits
import Derived.Test.YtceompmfmceicaaPHuffBackx9
namespace Go.Proofs.Ytceompmfmceicaa.PureHuffBack
open Go.RowKit Go.Proofs.Ytceompmfmceicaa.PHuffBack Go.Proofs.YtceompmfmceicaaW.PrintWords Go.Proofs.YtceompmfmceicaaW.PrintLast
open Go.Proofs.MathCodes (len codes fitsB fitsB_in)
set_option linter.unusedVariables false
set_option linter.unusedSimpArgs false

theorem heads_0 : haystacklaw11_heads.f 3000 = some true := by decide +kernel
theorem heads_f (m : Nat) (h : 3000 ≤ m) : haystacklaw11_heads.f m = some true := by
  induction m with
  | zero => omega
  | succ m ih =>
    rcases Nat.lt_or_ge m 3000 with h1 | h1
    · have e : m + 1 = 3000 := by omega
      rw [e]; exact heads_0
    · exact haystacklaw11_heads.mono m _ (ih h1)
theorem u8_of {x : Int} (h : (Lit.int .u8 x).wf = true) : 0 ≤ x ∧ x < 256 := by
  simp [Lit.wf, IntKind.min, IntKind.max, IntKind.signed, IntKind.bits] at h
  omega
theorem i64_of {x : Int} (h : (Lit.int .i64 x).wf = true) : -9223372036854775808 ≤ x ∧ x < 9223372036854775808 := by
  simp [Lit.wf, IntKind.min, IntKind.max, IntKind.signed, IntKind.bits] at h
  omega
open Go.Proofs.MathBits (bitN Valid fillN ownN ownN_length ownN_get fillN_get append_valid last_small or_nat and_nat and_mask andNot_zero rev rev_lt rev_bit top_step)
open Go.Proofs.MathCanon (nl apart code_is code_no codes_length st_top)

def cast (ws : List Nat) : List Int := ws.map fun w : Nat => (w : Int)
theorem cast_len (ws : List Nat) : (cast ws).length = ws.length := by unfold cast; rw [List.length_map]
theorem cast_rd (ws : List Nat) (i : Nat) : rd (cast ws) (i : Int) = ((ws.getD i 0 : Nat) : Int) := by
  unfold rd cast
  rw [Int.toNat_natCast, List.getD_eq_getElem?_getD, List.getD_eq_getElem?_getD, List.getElem?_map]
  cases ws[i]? <;> rfl
theorem cast_set (ws : List Nat) (i v : Nat) : (cast ws).set i (v : Int) = cast (ws.set i v) := by
  unfold cast
  rw [List.map_set]
theorem cast_own (ws : List Nat) (m : Nat) : Go.Proofs.Ytceompmfmceicaa.Own.ownL (cast ws) m = cast (ownN ws m) := by
  unfold Go.Proofs.Ytceompmfmceicaa.Own.ownL ownN cast
  rw [List.map_take, List.map_append, List.map_replicate]
  rfl
theorem w64n (x : Nat) (h : x < 9000000000000000000) : wrap64 (x : Int) = (x : Int) := by unfold wrap64; omega
theorem tdivn (x : Nat) : Int.tdiv (x : Int) 64 = ((x / 64 : Nat) : Int) := rfl
theorem tmodn (x : Nat) : Int.tmod (x : Int) 64 = ((x % 64 : Nat) : Int) := rfl
theorem words_f (n : Nat) (h : n ≤ 2000000) : bits_words.f (n : Int) = some (((n + 63) / 64 : Nat) : Int) := by
  unfold bits_words.f
  rw [show (n : Int) + 64 = ((n + 64 : Nat) : Int) by omega, w64n _ (by omega), show ((n + 64 : Nat) : Int) - 1 = ((n + 63 : Nat) : Int) by omega, w64n _ (by omega), tdivn, w64n _ (by omega)]
theorem mask_all : ∀ k : Nat, k < 65 → 0 < k → shr .u64 18446744073709551615 ((64 - k : Nat) : Int) = ((2 ^ k - 1 : Nat) : Int) := by decide +kernel
theorem mask_f (k : Nat) (h : k ≤ 64) : word_Mask.f (k : Int) = some ((2 ^ k - 1 : Nat) : Int) := by
  unfold word_Mask.f
  by_cases h0 : k = 0
  · subst h0
    rfl
  · rw [if_neg (by omega), show (64 : Int) - (k : Int) = ((64 - k : Nat) : Int) by omega, w64n _ (by omega)]
    have e : mx 0 ((64 - k : Nat) : Int) = ((64 - k : Nat) : Int) := by unfold mx; split <;> omega
    rw [e, mask_all k (by omega) (by omega)]
theorem check_f {n : Nat} {ws : List Nat} (hv : Valid n ws) (h : n ≤ 1048576) : bits_Check.f (n : Int) (cast ws) = some true := by
  unfold bits_Check.f
  have hl := hv.len
  rw [if_neg (by omega), if_neg (by omega), words_f n (by omega), Option.bind_some, cast_len, if_pos (by omega), tmodn]
  by_cases h0 : n % 64 = 0
  · rw [h0]; rfl
  · rw [if_neg (by omega), show (ws.length : Int) - 1 = ((ws.length - 1 : Nat) : Int) by omega, w64n _ (by omega), if_pos (by omega), if_pos (by omega), mask_f _ (by omega), Option.bind_some, cast_rd,
      andNot_zero _ _ (by omega) (last_small hv (by omega))]
    rfl
theorem shl_nat (x k : Nat) (h : k < 64) : shl .u64 (x : Int) (k : Int) = ((x * 2 ^ k % 2 ^ 64 : Nat) : Int) := by
  unfold shl
  rw [Int.toNat_natCast, Nat.min_eq_left (by show k ≤ 64; omega), IntKind.wrap_u64]
  rw [Int.natCast_emod, Int.natCast_mul, Int.natCast_pow]
  rfl
theorem shr_nat (y n : Nat) (h : n ≤ 64) : shr .u64 (y : Int) (n : Int) = ((y / 2 ^ n : Nat) : Int) := by
  unfold shr
  rw [Nat.min_eq_left (by show (n : Int).toNat ≤ 64; omega), Int.toNat_natCast]
  rw [Int.natCast_ediv, Int.natCast_pow]
  rfl
theorem fill_f (N : Int) (ws : List Nat) (n x : Nat) (hn : n ≤ 2000000) (hw : ∀ j, ws.getD j 0 < 2 ^ 64) (hx : x < 2 ^ 64) : bits_fill.f N (cast ws) (n : Int) (x : Int) = some (cast (fillN ws n x)) := by
  have e1 : wrap64 (Int.tdiv (n : Int) 64) = ((n / 64 : Nat) : Int) := by rw [tdivn, w64n _ (by omega)]
  have e2 : wrap64 (((n / 64 : Nat) : Int) + 1) = ((n / 64 + 1 : Nat) : Int) := by rw [show ((n / 64 : Nat) : Int) + 1 = ((n / 64 + 1 : Nat) : Int) by omega, w64n _ (by omega)]
  have e3 : wrap64 (64 - ((n % 64 : Nat) : Int)) = ((64 - n % 64 : Nat) : Int) := by rw [show (64 : Int) - ((n % 64 : Nat) : Int) = ((64 - n % 64 : Nat) : Int) by omega, w64n _ (by omega)]
  have hx2 : x / 2 ^ (64 - n % 64) < 2 ^ 64 := Nat.lt_of_le_of_lt (Nat.div_le_self _ _) hx
  unfold bits_fill.f fillN
  dsimp only
  rw [e1, tmodn, e2, e3, cast_len, shl_nat x _ (by omega), shr_nat x _ (by omega), cast_rd, or_nat _ _ (hw _) (Nat.mod_lt _ (by decide))]
  simp only [Int.toNat_natCast, cast_set]
  have hw1 : ∀ j, (ws.set (n / 64) (ws.getD (n / 64) 0 ||| x * 2 ^ (n % 64) % 2 ^ 64)).getD j 0 < 2 ^ 64 := by
    intro j
    by_cases h : n / 64 < ws.length
    · rw [Go.Proofs.MathBits.getD_set _ _ _ _ h]
      split
      · exact Nat.or_lt_two_pow (hw _) (Nat.mod_lt _ (by decide))
      · exact hw j
    · rw [List.set_eq_of_length_le (by omega)]; exact hw j
  by_cases c1 : n / 64 < ws.length
  · rw [if_pos (by omega), if_pos (by omega), if_pos (by omega), Option.bind_some, if_pos c1]
    by_cases c2 : 0 < n % 64
    · rw [if_pos (by omega), if_pos c2]
      by_cases c3 : n / 64 + 1 < ws.length
      · rw [if_pos (by omega), if_pos (by omega), if_pos (by omega), if_pos c3, cast_rd, or_nat _ _ (hw1 _) hx2, cast_set]
      · rw [if_neg (by omega), if_neg c3]
    · rw [if_neg (by omega), if_neg c2]
  · rw [if_neg (by omega), if_neg c1]
    by_cases c2 : 0 < n % 64
    · rw [if_pos (by omega), if_pos c2]
      rw [if_neg (by omega), if_neg (by omega)]
    · rw [if_neg (by omega), if_neg c2]
theorem append_f (q : Nat) {n k x : Nat} {ws : List Nat} (hv : Valid n ws) (hx : x < 2 ^ k) (hk : k ≤ 40) (hn : n + k ≤ 1048576) :
    bits_Append.f (q + 1) (n : Int) (cast ws) (x : Int) (k : Int) = some (((n + k : Nat) : Int), cast (fillN (ownN ws ((n + k + 63) / 64)) n x), 0) := by
  have hl := hv.len
  have hx64 : x < 2 ^ 64 := Nat.lt_of_lt_of_le hx (Nat.pow_le_pow_right (by decide) (by omega))
  unfold bits_Append.f
  rw [check_f hv (by omega), Option.bind_some, if_pos rfl, if_neg (by omega), if_neg (by omega)]
  have e : decide ((k : Int) > wrap64 (1048576 - (n : Int))) = false := by
    rw [show (1048576 : Int) - (n : Int) = ((1048576 - n : Nat) : Int) by omega, w64n _ (by omega)]
    exact decide_eq_false (by omega)
  rw [e]
  unfold bits_Append.j0
  try dsimp only
  rw [if_neg (by decide), show (n : Int) + (k : Int) = ((n + k : Nat) : Int) by omega, w64n _ (by omega)]
  unfold bits_own.f
  rw [if_pos ⟨by omega, by omega, by rw [cast_len]; omega⟩, Option.bind_some, mask_f k (by omega), Option.bind_some]
  try dsimp only
  rw [and_mask x k hx64 (by omega), Nat.mod_eq_of_lt hx, show ((((n + k : Nat) : Int) + 63) / 64).toNat = (n + k + 63) / 64 by omega, cast_own]
  rw [fill_f _ _ n x (by omega) (fun j => by rw [ownN_get _ _ (by omega)]; exact hv.lt j) hx64, Option.bind_some]
theorem put_l0 {n : Nat} {ws : List Nat} (hv : Valid n ws) (L c : Nat) (hL : L ≤ 40) (hc : c < 2 ^ 64) (hn : n + L ≤ 1048576) : ∀ (m t q : Nat), t + m = L → m + 2 ≤ q →
    huff_Put.l0 q (rev c t : Int) (L : Int) (t : Int) (n : Int) (cast ws) (L : Int) (c : Int) = some (((n + L : Nat) : Int), cast (fillN (ownN ws ((n + L + 63) / 64)) n (rev c L)), 0)
  | 0, t, q, ht, hq => by
    obtain ⟨q, rfl⟩ : ∃ p, q = p + 1 + 1 := ⟨q - 2, by omega⟩
    obtain rfl : t = L := by omega
    unfold huff_Put.l0
    try dsimp only
    rw [if_neg (by omega), append_f q hv (rev_lt c t) hL hn, Option.bind_some]
  | m + 1, t, q, ht, hq => by
    obtain ⟨q, rfl⟩ : ∃ p, q = p + 1 := ⟨q - 1, by omega⟩
    have ih := put_l0 hv L c hL hc hn m (t + 1) q (by omega) (by omega)
    unfold huff_Put.l0
    try dsimp only
    have hr := rev_lt c t
    have hr40 : rev c t < 2 ^ 40 := Nat.lt_of_lt_of_le hr (Nat.pow_le_pow_right (by decide) (by omega))
    have hd : c / 2 ^ t < 2 ^ 64 := Nat.lt_of_le_of_lt (Nat.div_le_self _ _) hc
    have e40 : (2 : Nat) ^ 40 = 1099511627776 := by decide
    have e64 : (2 : Nat) ^ 64 = 18446744073709551616 := by decide
    have e1 : IntKind.u64.wrap ((rev c t : Int) * 2) = ((2 * rev c t : Nat) : Int) := by
      rw [IntKind.wrap_u64]; omega
    have e2 : Go.bits .and .u64 (shr .u64 (c : Int) (t : Int)) 1 = ((c / 2 ^ t % 2 : Nat) : Int) := by
      rw [shr_nat c t (by omega)]
      exact and_mask (c / 2 ^ t) 1 hd (by omega)
    have e3 : Go.bits .or .u64 ((2 * rev c t : Nat) : Int) ((c / 2 ^ t % 2 : Nat) : Int) = (rev c (t + 1) : Int) := by
      rw [or_nat _ _ (by omega) (by omega)]
      congr 1
      have := Nat.two_pow_add_eq_or_of_lt (i := 1) (b := c / 2 ^ t % 2) (by omega) (rev c t)
      rw [Nat.pow_one] at this
      rw [← this]
      rfl
    rw [if_pos (by omega), if_pos (by omega), e1, e2, e3, show (t : Int) + 1 = ((t + 1 : Nat) : Int) by omega, w64n _ (by omega)]
    exact ih
theorem put_f (q : Nat) {n : Nat} {ws : List Nat} (hv : Valid n ws) (L c : Nat) (hL : L ≤ 40) (hc : c < 2 ^ 64) (hn : n + L ≤ 1048576) (hq : 100 ≤ q) :
    huff_Put.f q (n : Int) (cast ws) (L : Int) (c : Int) = some (((n + L : Nat) : Int), cast (fillN (ownN ws ((n + L + 63) / 64)) n (rev c L)), 0) := by
  obtain ⟨q, rfl⟩ : ∃ p, q = p + 1 := ⟨q - 1, by omega⟩
  unfold huff_Put.f
  rw [if_neg (by omega), decide_eq_false (by omega)]
  unfold huff_Put.j0
  try dsimp only
  rw [if_neg (by decide)]
  exact put_l0 hv L c hL hc hn L 0 q (by omega) (by omega)
theorem get_f {n : Nat} {ws : List Nat} (hv : Valid n ws) (h : n ≤ 1048576) (i : Nat) (hi : i < n) : bits_Get.f (n : Int) (cast ws) (i : Int) = some (bitN ws i, 0) := by
  have hl := hv.len
  unfold bits_Get.f
  rw [check_f hv h, Option.bind_some, if_pos rfl, if_neg (by omega), if_neg (by omega), tdivn, tmodn, w64n _ (by omega), if_pos (by omega), cast_len, if_pos (by omega), if_pos (by omega), cast_rd, shr_nat _ _ (by omega)]
  have hd : ws.getD (i / 64) 0 / 2 ^ (i % 64) < 2 ^ 64 := Nat.lt_of_le_of_lt (Nat.div_le_self _ _) (hv.lt _)
  have e : Go.bits .and .u64 ((ws.getD (i / 64) 0 / 2 ^ (i % 64) : Nat) : Int) 1 = ((ws.getD (i / 64) 0 / 2 ^ (i % 64) % 2 : Nat) : Int) := and_mask _ 1 hd (by omega)
  rw [e]
  congr 2
  unfold bitN
  rw [Nat.testBit_eq_decide_div_mod_eq]
  by_cases h : ws.getD (i / 64) 0 / 2 ^ (i % 64) % 2 = 1
  · rw [h]; rfl
  · rw [decide_eq_false h, beq_eq_false_iff_ne]
    omega
/-! ### Codes as they are read -/
def cv (l : List Int) (s : Nat) : Nat := ((codes l).getD s (0, 0)).2.toNat
theorem cv_is {l : List Int} (hf : fitsB l = true) {s : Nat} (hs : s < 256) (hp : 0 < len l s) : (codes l)[s]? = some (len l s, (cv l s : Int)) ∧ cv l s < 2 ^ nl l s := by
  obtain ⟨b, h, hst⟩ := code_is hf hs hp
  have e : cv l s = b := by
    unfold cv
    rw [List.getD_eq_getElem?_getD, h]
    simp
  rw [e]
  refine ⟨h, ?_⟩
  have htop := st_top hf hs hp
  have h40 := (fitsB_in hf).2 s hs
  have hpos := Nat.two_pow_pos (40 - nl l s)
  have e2 : 2 ^ 40 = 2 ^ nl l s * 2 ^ (40 - nl l s) := by rw [← Nat.pow_add]; congr 1; unfold nl; omega
  rw [e2, ← hst] at htop
  have h3 : (b + 1) * 2 ^ (40 - nl l s) ≤ 2 ^ nl l s * 2 ^ (40 - nl l s) := by rw [Nat.add_mul, Nat.one_mul]; exact htop
  exact Nat.le_of_mul_le_mul_right h3 hpos
theorem codesS_length {l : List Int} (hf : fitsB l = true) : (codesS l).length = 256 := by
  unfold codesS
  rw [List.length_map, codes_length hf]
theorem codesS_pos {l : List Int} (hf : fitsB l = true) {s : Nat} (hs : s < 256) (hp : 0 < len l s) : rd_T33 (codesS l) (s : Int) = ⟨(nl l s : Int), (cv l s : Int)⟩ := by
  unfold rd_T33 codesS
  rw [Int.toNat_natCast, List.getD_eq_getElem?_getD, List.getElem?_map, (cv_is hf hs hp).1]
  show (⟨len l s, _⟩ : S33) = _
  rw [show len l s = (nl l s : Int) by unfold nl; omega]
theorem codesS_no {l : List Int} (hf : fitsB l = true) {s : Nat} (hs : s < 256) (hp : ¬ 0 < len l s) : rd_T33 (codesS l) (s : Int) = ⟨0, 0⟩ := by
  unfold rd_T33 codesS
  rw [Int.toNat_natCast, List.getD_eq_getElem?_getD, List.getElem?_map, code_no hf hs hp]
  rfl
theorem codesS_len {l : List Int} (hf : fitsB l = true) {s : Nat} (hs : s < 256) : (rd_T33 (codesS l) (s : Int)).f0 = len l s := by
  by_cases hp : 0 < len l s
  · rw [codesS_pos hf hs hp]; show (nl l s : Int) = _; unfold nl; omega
  · rw [codesS_no hf hs hp]
    have := (fitsB_in hf).2 s hs
    show (0 : Int) = _
    omega
/-- The codes are the ones of their lengths. -/
theorem right_l0 {l : List Int} (hf : fitsB l = true) (k : Nat) (hk : api_Code_47.f k (codesS l) (codesS l) = some true) : ∀ (m i q : Nat), i + m = 256 → q = m + k + 1 → huff_right.l0 q (codesS l) (l.take i) (codesS l) 256 (i : Int) = some true
  | 0, i, q, hi, hq => by
    subst hq
    obtain rfl : i = 256 := by omega
    have hl := (fitsB_in hf).1
    rw [show 0 + k + 1 = k + 1 by omega]
    unfold huff_right.l0
    try dsimp only
    rw [if_neg (by omega), List.take_of_length_le (by omega)]
    unfold huff_Codes.f
    rw [if_pos hf, Option.bind_some, if_pos rfl, hk]
    rfl
  | m + 1, i, q, hi, hq => by
    subst hq
    have hl := (fitsB_in hf).1
    have ih := right_l0 hf k hk m (i + 1) (m + k + 1) (by omega) rfl
    have hcl := codesS_length hf
    rw [show m + 1 + k + 1 = (m + k + 1) + 1 by omega]
    unfold huff_right.l0
    try dsimp only
    have e : l.take i ++ [(rd_T33 (codesS l) (i : Int)).f0] = l.take (i + 1) := by
      rw [codesS_len hf (by omega), List.take_succ_eq_append_getElem (show i < l.length by omega)]
      unfold len
      rw [List.getD_eq_getElem?_getD, List.getElem?_eq_getElem (show i < l.length by omega)]
      rfl
    rw [if_pos (by omega), if_pos (by omega), if_pos (by rw [hcl]; omega), if_pos (by rw [List.length_take]; omega), e, show (i : Int) + 1 = ((i + 1 : Nat) : Int) by omega, w64n _ (by omega)]
    exact ih
theorem same_l0 (c : List S33) (hc : c.length = 256) : ∀ (m i q : Nat), i + m = 256 → m + 1 ≤ q → api_Code_47.l0 q c c 256 (i : Int) = some true
  | 0, i, q, hi, hq => by
    obtain ⟨q, rfl⟩ : ∃ p, q = p + 1 := ⟨q - 1, by omega⟩
    unfold api_Code_47.l0
    try dsimp only
    rw [if_neg (by omega)]
  | m + 1, i, q, hi, hq => by
    obtain ⟨q, rfl⟩ : ∃ p, q = p + 1 := ⟨q - 1, by omega⟩
    have ih := same_l0 c hc m (i + 1) q (by omega) (by omega)
    unfold api_Code_47.l0
    try dsimp only
    rw [if_pos (by omega), if_pos (by omega), if_pos (by omega), if_pos (by omega), if_neg (by simp), show (i : Int) + 1 = ((i + 1 : Nat) : Int) by omega, w64n _ (by omega)]
    exact ih
theorem right_f {l : List Int} (hf : fitsB l = true) : huff_right.f (2 * (codesS l).length + 1000) (codesS l) = some true := by
  have hcl := codesS_length hf
  unfold huff_right.f
  rw [hcl]
  have h47 : ∀ k, 300 ≤ k → api_Code_47.f k (codesS l) (codesS l) = some true := by
    intro k hk
    unfold api_Code_47.f
    rw [if_pos rfl, hcl]
    exact same_l0 _ hcl 256 0 k (by omega) (by omega)
  exact right_l0 hf 1255 (h47 _ (by omega)) 256 0 1512 (by omega) (by omega)
theorem index_no (c : List S33) (n : Nat) (hc : c.length = n) (hn : n ≤ 1000) (j v : Int) (h : ∀ i : Nat, i < n → ¬ (j = (rd_T33 c (i : Int)).f0 ∧ v = (rd_T33 c (i : Int)).f1)) : ∀ (m i q : Nat), i + m = n → m + 1 ≤ q → api_Code_36.l0 q c (n : Int) (i : Int) j v = some (-1)
  | 0, i, q, hi, hq => by
    obtain ⟨q, rfl⟩ : ∃ p, q = p + 1 := ⟨q - 1, by omega⟩
    unfold api_Code_36.l0
    try dsimp only
    rw [if_neg (by omega)]
  | m + 1, i, q, hi, hq => by
    obtain ⟨q, rfl⟩ : ∃ p, q = p + 1 := ⟨q - 1, by omega⟩
    have ih := index_no c n hc hn j v h m (i + 1) q (by omega) (by omega)
    unfold api_Code_36.l0
    try dsimp only
    rw [if_pos (by omega), if_pos (by omega), if_pos (by omega), if_neg (by
      have := h i (by omega)
      simpa using this), show (i : Int) + 1 = ((i + 1 : Nat) : Int) by omega, w64n _ (by omega)]
    exact ih
theorem index_yes (c : List S33) (n : Nat) (hc : c.length = n) (hn : n ≤ 1000) (j v : Int) (s : Nat) (hs : s < n) (hy : j = (rd_T33 c (s : Int)).f0 ∧ v = (rd_T33 c (s : Int)).f1) (h : ∀ i : Nat, i < n → j = (rd_T33 c (i : Int)).f0 ∧ v = (rd_T33 c (i : Int)).f1 → i = s) :
    ∀ (m i q : Nat), i + m = s → m + 1 ≤ q → api_Code_36.l0 q c (n : Int) (i : Int) j v = some (s : Int)
  | 0, i, q, hi, hq => by
    obtain ⟨q, rfl⟩ : ∃ p, q = p + 1 := ⟨q - 1, by omega⟩
    obtain rfl : i = s := by omega
    unfold api_Code_36.l0
    try dsimp only
    rw [if_pos (by omega), if_pos (by omega), if_pos (by omega), if_pos (by simpa using hy)]
  | m + 1, i, q, hi, hq => by
    obtain ⟨q, rfl⟩ : ∃ p, q = p + 1 := ⟨q - 1, by omega⟩
    have ih := index_yes c n hc hn j v s hs hy h m (i + 1) q (by omega) (by omega)
    unfold api_Code_36.l0
    try dsimp only
    rw [if_pos (by omega), if_pos (by omega), if_pos (by omega), if_neg (by
      intro e
      have := h i (by omega) (by simpa using e)
      omega), show (i : Int) + 1 = ((i + 1 : Nat) : Int) by omega, w64n _ (by omega)]
    exact ih
/-- A symbol's bits are read as that symbol. -/
theorem next_go {l : List Int} (hf : fitsB l = true) {n : Nat} {ws : List Nat} (hv : Valid n ws) (hn : n ≤ 1048576) {s : Nat} (hs : s < 256) (hp : 0 < len l s) (p : Nat) (hpn : p + nl l s ≤ n)
    (hb : ∀ j, j < nl l s → bitN ws (p + j) = (cv l s).testBit (nl l s - 1 - j)) : ∀ (m j q : Nat), j + m = nl l s → m + 1 ≤ q →
    nextGo (codesS l) (n : Int) (cast ws) (p : Int) q (j : Int) ((cv l s / 2 ^ (nl l s - j) : Nat) : Int) = some ((s : Int), ((p + nl l s : Nat) : Int), 0)
  | 0, j, q, hj, hq => by
    obtain ⟨q, rfl⟩ : ∃ p, q = p + 1 := ⟨q - 1, by omega⟩
    have hcl := codesS_length hf
    have hnl : 0 < nl l s := by unfold nl; omega
    obtain rfl : j = nl l s := by omega
    have hcs := cv_is hf hs hp
    have hS := codesS_pos hf hs hp
    have hi : api_Code_36.f ((codesS l).length + 1) (codesS l) (nl l s : Int) ((cv l s / 2 ^ (nl l s - nl l s) : Nat) : Int) = some (s : Int) := by
      unfold api_Code_36.f
      rw [hcl, Nat.sub_self, Nat.pow_zero, Nat.div_one]
      refine index_yes (codesS l) 256 hcl (by omega) _ _ s hs (by rw [hS]; exact ⟨rfl, rfl⟩) (fun i hi ⟨h1, h2⟩ => ?_) s 0 257 (by omega) (by omega)
      by_cases e : i = s
      · exact e
      · exfalso
        by_cases hpi : 0 < len l i
        · have hSi := codesS_pos hf hi hpi
          rw [hSi] at h1 h2
          have h1 : (nl l s : Int) = (nl l i : Int) := h1
          have h2 : (cv l s : Int) = (cv l i : Int) := h2
          have hle : len l s ≤ len l i := by unfold nl at h1; omega
          have := (apart hf hs hi (fun x => e x.symm) hp hpi hle hcs.1 (cv_is hf hi hpi).1).1
          rw [show nl l i - nl l s = 0 by omega, Nat.pow_zero, Nat.div_one] at this
          omega
        · rw [codesS_no hf hi hpi] at h1
          have h1 : (nl l s : Int) = 0 := h1
          omega
    unfold nextGo
    rw [hi, Option.bind_some, if_pos ⟨by omega, by omega⟩]
    rfl
  | m + 1, j, q, hj, hq => by
    obtain ⟨q, rfl⟩ : ∃ p, q = p + 1 := ⟨q - 1, by omega⟩
    have ih := next_go hf hv hn hs hp p hpn hb m (j + 1) q (by omega) (by omega)
    have hcl := codesS_length hf
    have hcs := cv_is hf hs hp
    have hS := codesS_pos hf hs hp
    have h40 := (fitsB_in hf).2 s hs
    have hn40 : nl l s ≤ 40 := by unfold nl; omega
    have hidx : ∃ z : Int, api_Code_36.f ((codesS l).length + 1) (codesS l) (j : Int) ((cv l s / 2 ^ (nl l s - j) : Nat) : Int) = some z ∧ ¬ (0 ≤ z ∧ 0 < (j : Int)) := by
      by_cases h0 : 0 < j
      · refine ⟨-1, ?_, by omega⟩
        unfold api_Code_36.f
        rw [hcl]
        refine index_no (codesS l) 256 hcl (by omega) _ _ (fun i hi ⟨h1, h2⟩ => ?_) 256 0 257 (by omega) (by omega)
        by_cases hpi : 0 < len l i
        · have hSi := codesS_pos hf hi hpi
          rw [hSi] at h1 h2
          have h1 : (j : Int) = (nl l i : Int) := h1
          have h2 : ((cv l s / 2 ^ (nl l s - j) : Nat) : Int) = (cv l i : Int) := h2
          have hle : len l i ≤ len l s := by unfold nl at h1 hj; omega
          have hne : i ≠ s := by rintro rfl; omega
          have := (apart hf hi hs hne hpi hp hle (cv_is hf hi hpi).1 hcs.1).1
          rw [show nl l s - nl l i = nl l s - j by omega] at this
          omega
        · rw [codesS_no hf hi hpi] at h1
          have h1 : (j : Int) = 0 := h1
          omega
      · have hz : ∃ z, api_Code_36.f ((codesS l).length + 1) (codesS l) (j : Int) ((cv l s / 2 ^ (nl l s - j) : Nat) : Int) = some z := by
          unfold api_Code_36.f
          rw [hcl]
          have tot : ∀ (c : List S33) (J V : Int), c.length = 256 → ∀ (m i q : Nat), i + m = 256 → m + 1 ≤ q → ∃ z, api_Code_36.l0 q c ((256 : Nat) : Int) (i : Int) J V = some z := by
            intro c J V hc m
            induction m with
            | zero =>
              intro i q hi hq
              obtain ⟨q, rfl⟩ : ∃ p, q = p + 1 := ⟨q - 1, by omega⟩
              unfold api_Code_36.l0
              try dsimp only
              rw [if_neg (by omega)]
              exact ⟨_, rfl⟩
            | succ m ihm =>
              intro i q hi hq
              obtain ⟨q, rfl⟩ : ∃ p, q = p + 1 := ⟨q - 1, by omega⟩
              unfold api_Code_36.l0
              try dsimp only
              rw [if_pos (by omega), if_pos (by omega), if_pos (by omega)]
              split
              · exact ⟨_, rfl⟩
              · rw [show (i : Int) + 1 = ((i + 1 : Nat) : Int) by omega, w64n _ (by omega)]
                exact ihm (i + 1) q (by omega) (by omega)
          exact tot _ _ _ hcl 256 0 257 (by omega) (by omega)
        obtain ⟨z, hz⟩ := hz
        exact ⟨z, hz, by omega⟩
    obtain ⟨z, hz, hzn⟩ := hidx
    have hany : (codesS l).any (beginsB (j : Int) ((cv l s / 2 ^ (nl l s - j) : Nat) : Int)) = true := by
      rw [List.any_eq_true]
      refine ⟨⟨(nl l s : Int), (cv l s : Int)⟩, ?_, ?_⟩
      · rw [← hS]
        unfold rd_T33
        rw [Int.toNat_natCast, List.getD_eq_getElem?_getD, List.getElem?_eq_getElem (show s < (codesS l).length by omega)]
        exact List.getElem_mem _
      · unfold beginsB
        show (decide ((j : Int) < (nl l s : Int)) && (shr .u64 (cv l s : Int) ((nl l s : Int) - (j : Int)) == ((cv l s / 2 ^ (nl l s - j) : Nat) : Int))) = true
        rw [show ((nl l s : Int) - (j : Int)) = ((nl l s - j : Nat) : Int) by omega, shr_nat _ _ (by omega), decide_eq_true (by omega)]
        simp
    have hg := get_f hv hn (p + j) (by omega)
    unfold nextGo
    rw [hz, Option.bind_some, if_neg hzn, if_pos hany, show (p : Int) + (j : Int) = ((p + j : Nat) : Int) by omega, hg, Option.bind_some]
    try dsimp only
    rw [if_pos rfl]
    have hstep := top_step (cv l s) (nl l s) j (by omega)
    have hsm : cv l s / 2 ^ (nl l s - j) < 2 ^ 40 := Nat.lt_of_le_of_lt (Nat.div_le_self _ _) (Nat.lt_of_lt_of_le hcs.2 (Nat.pow_le_pow_right (by decide) hn40))
    have e40 : (2 : Nat) ^ 40 = 1099511627776 := by decide
    have e1 : IntKind.u64.wrap (((cv l s / 2 ^ (nl l s - j) : Nat) : Int) * 2) = ((2 * (cv l s / 2 ^ (nl l s - j)) : Nat) : Int) := by
      rw [IntKind.wrap_u64]
      omega
    have e2 : (if bitN ws (p + j) = true then IntKind.u64.wrap (IntKind.u64.wrap (((cv l s / 2 ^ (nl l s - j) : Nat) : Int) * 2) + 1) else IntKind.u64.wrap (((cv l s / 2 ^ (nl l s - j) : Nat) : Int) * 2)) = ((cv l s / 2 ^ (nl l s - (j + 1)) : Nat) : Int) := by
      rw [e1, hb j (by omega), hstep]
      generalize cv l s / 2 ^ (nl l s - j) = y at hsm ⊢
      cases (cv l s).testBit (nl l s - 1 - j) with
      | true =>
        rw [if_pos rfl, IntKind.wrap_u64]
        show _ = ((2 * y + 1 : Nat) : Int)
        omega
      | false =>
        rw [if_neg (by decide)]
        show _ = ((2 * y + 0 : Nat) : Int)
        omega
    rw [e2, show (j : Int) + 1 = ((j + 1 : Nat) : Int) by omega]
    exact ih
theorem next_f {l : List Int} (hf : fitsB l = true) {n : Nat} {ws : List Nat} (hv : Valid n ws) (hn : n ≤ 1048576) {s : Nat} (hs : s < 256) (hp : 0 < len l s) (p : Nat) (hpn : p + nl l s ≤ n)
    (hb : ∀ j, j < nl l s → bitN ws (p + j) = (cv l s).testBit (nl l s - 1 - j)) :
    huff_Next.f (codesS l) (n : Int) (cast ws) (p : Int) = some ((s : Int), ((p + nl l s : Nat) : Int), 0) := by
  have hcl := codesS_length hf
  have h40 := (fitsB_in hf).2 s hs
  have hn40 : nl l s ≤ 40 := by unfold nl; omega
  have hall : ∀ c ∈ codesS l, c.f0 ≤ 40 := by
    intro c hc
    obtain ⟨i, hi, rfl⟩ := List.mem_iff_getElem.1 hc
    have h1 := codesS_len hf (show i < 256 by omega)
    unfold rd_T33 at h1
    rw [Int.toNat_natCast, List.getD_eq_getElem?_getD, List.getElem?_eq_getElem hi] at h1
    have h1 : ((codesS l)[i]).f0 = len l i := h1
    rw [h1]
    exact ((fitsB_in hf).2 i (by omega)).2
  unfold huff_Next.f
  rw [if_pos (by omega), right_f hf, Option.bind_some, if_pos rfl, check_f hv hn, Option.bind_some, if_pos rfl, if_neg (by omega), if_neg (by omega), if_pos ⟨by omega, hall⟩]
  have := next_go hf hv hn hs hp p hpn hb (nl l s) 0 64 (by omega) (by omega)
  rw [Nat.sub_zero, Nat.div_eq_of_lt (cv_is hf hs hp).2] at this
  exact this
/-! ### The text -/
open Go.Proofs.MathHuff (lens cnt)
open Go.Proofs.MathFits (sumC)
theorem rdn (l : List Int) (i : Nat) : rd l (i : Int) = l.getD i 0 := by simp [rd]
def sy (x : List Int) (i : Nat) : Nat := (x.getD i 0).toNat
/-- Where the bits of the symbol at place i begin. -/
def off (l x : List Int) : Nat → Nat
  | 0 => 0
  | i + 1 => off l x i + nl l (sy x i)
theorem off_le (l x : List Int) : ∀ {i j : Nat}, i ≤ j → off l x i ≤ off l x j := by
  intro i j h
  induction j with
  | zero => rw [Nat.le_zero.1 h]; exact Nat.le_refl _
  | succ j ih =>
    rcases Nat.lt_or_ge i (j + 1) with h1 | h1
    · exact Nat.le_trans (ih (by omega)) (Nat.le_add_right _ _)
    · rw [show i = j + 1 by omega]; exact Nat.le_refl _
structure Said (l x : List Int) (i : Nat) (ws : List Nat) : Prop where
  val : Valid (off l x i) ws
  bit : ∀ t, t < i → ∀ j, j < nl l (sy x t) → bitN ws (off l x t + j) = (cv l (sy x t)).testBit (nl l (sy x t) - 1 - j)
theorem said_next {l x : List Int} {i : Nat} {ws : List Nat} (h : Said l x i ws) (h40 : nl l (sy x i) ≤ 40) :
    Said l x (i + 1) (fillN (ownN ws ((off l x i + nl l (sy x i) + 63) / 64)) (off l x i) (rev (cv l (sy x i)) (nl l (sy x i)))) := by
  obtain ⟨hv, hb⟩ := append_valid h.val (rev_lt (cv l (sy x i)) (nl l (sy x i))) (by omega)
  refine ⟨hv, fun t ht j hj => ?_⟩
  rw [hb]
  by_cases e : t = i
  · subst e
    rw [h.val.off _ (by omega), decide_eq_true (by omega), Bool.false_or, Bool.true_and, show off l x t + j - off l x t = j by omega, rev_bit _ _ _ hj]
  · have hle := off_le l x (show t + 1 ≤ i by omega)
    have hs : off l x (t + 1) = off l x t + nl l (sy x t) := rfl
    rw [decide_eq_false (by omega), Bool.false_and, Bool.or_false]
    exact h.bit t (by omega) j hj
theorem off_sum (l : List Int) : ∀ (x : List Int), off l x x.length = (x.map fun a => nl l a.toNat).sum := by
  have gen : ∀ (x : List Int) (i : Nat), i ≤ x.length → off l x i = ((x.take i).map fun a => nl l a.toNat).sum := by
    intro x i
    induction i with
    | zero => intro _; simp [off]
    | succ i ih =>
      intro h
      show off l x i + nl l (sy x i) = _
      rw [List.take_succ_eq_append_getElem (show i < x.length by omega), List.map_append, List.sum_append, ← ih (by omega)]
      unfold sy
      rw [List.getD_eq_getElem?_getD, List.getElem?_eq_getElem (show i < x.length by omega)]
      simp
  intro x
  have := gen x x.length (Nat.le_refl _)
  rw [List.take_of_length_le (Nat.le_refl _)] at this
  exact this
theorem l2_end {c l x : List Int} {ws : List Nat} (hf : fitsB l = true) (hx : ∀ a ∈ x, 0 ≤ a ∧ a < 256) (hxl : x.length ≤ 300) (hp : ∀ i, i < x.length → 0 < len l (sy x i)) (hS : Said l x x.length ws) (hN : off l x x.length ≤ 1048576)
    (hcost : huff_Cost.f c l = some (off l x x.length : Int)) (m : Nat) (hh : ∀ k, m ≤ k → haystacklaw11_heads.f k = some true) : ∀ (j i q : Nat), i + j = x.length → m + j + 1 ≤ q →
    haystacklaw11_HuffBack.l2 q x c l (codesS l) (off l x i : Int) (i : Int) (off l x x.length : Int) (cast ws) = some true
  | 0, i, q, hi, hq => by
    obtain ⟨q, rfl⟩ : ∃ p, q = p + 1 := ⟨q - 1, by omega⟩
    obtain rfl : i = x.length := by omega
    unfold haystacklaw11_HuffBack.l2
    try dsimp only
    rw [if_neg (by omega), if_pos rfl, hcost, Option.bind_some, if_pos rfl, hh _ (by omega)]
    rfl
  | j + 1, i, q, hi, hq => by
    obtain ⟨q, rfl⟩ : ∃ p, q = p + 1 := ⟨q - 1, by omega⟩
    have ih := l2_end hf hx hxl hp hS hN hcost m hh j (i + 1) q (by omega) (by omega)
    have hil : i < x.length := by omega
    have hm : x.getD i 0 ∈ x := by
      rw [List.getD_eq_getElem?_getD, List.getElem?_eq_getElem hil]
      exact List.getElem_mem _
    have ha := hx _ hm
    have hs : sy x i < 256 := by unfold sy; omega
    have hle := off_le l x (show i + 1 ≤ x.length by omega)
    have ho : off l x (i + 1) = off l x i + nl l (sy x i) := rfl
    have hn := next_f hf hS.val hN hs (hp i hil) (off l x i) (by omega) (fun j hj => hS.bit i hil j hj)
    unfold haystacklaw11_HuffBack.l2
    try dsimp only
    have hw : wrap64 (rd x (i : Int)) = (sy x i : Int) := by
      rw [rdn]
      unfold sy wrap64
      omega
    rw [if_pos (by omega), hn, Option.bind_some]
    try dsimp only
    rw [if_pos rfl, if_pos (by omega), hw, if_pos rfl, show (i : Int) + 1 = ((i + 1 : Nat) : Int) by omega, w64n _ (by omega), ← ho]
    exact ih
theorem l1_end {c l x : List Int} (hf : fitsB l = true) (hx : ∀ a ∈ x, 0 ≤ a ∧ a < 256) (hxl : x.length ≤ 300) (hp : ∀ i, i < x.length → 0 < len l (sy x i)) (hN : off l x x.length ≤ 1048576)
    (hcost : huff_Cost.f c l = some (off l x x.length : Int)) (m : Nat) (hm100 : 100 ≤ m) (hh : ∀ k, m ≤ k → haystacklaw11_heads.f k = some true) : ∀ (j i q : Nat) (ws : List Nat), i + j = x.length → Said l x i ws → m + j + 400 ≤ q →
    haystacklaw11_HuffBack.l1 q x c l (codesS l) (i : Int) (off l x i : Int) (cast ws) = some true
  | 0, i, q, ws, hi, hS, hq => by
    obtain ⟨q, rfl⟩ : ∃ p, q = p + 1 := ⟨q - 1, by omega⟩
    obtain rfl : i = x.length := by omega
    unfold haystacklaw11_HuffBack.l1
    try dsimp only
    rw [if_neg (by omega)]
    exact l2_end hf hx hxl hp hS hN hcost m hh x.length 0 q (by omega) (by omega)
  | j + 1, i, q, ws, hi, hS, hq => by
    obtain ⟨q, rfl⟩ : ∃ p, q = p + 1 := ⟨q - 1, by omega⟩
    have hil : i < x.length := by omega
    have hm : x.getD i 0 ∈ x := by
      rw [List.getD_eq_getElem?_getD, List.getElem?_eq_getElem hil]
      exact List.getElem_mem _
    have ha := hx _ hm
    have hs : sy x i < 256 := by unfold sy; omega
    have hle := off_le l x (show i + 1 ≤ x.length by omega)
    have ho : off l x (i + 1) = off l x i + nl l (sy x i) := rfl
    have h40 := (fitsB_in hf).2 _ hs
    have hn40 : nl l (sy x i) ≤ 40 := by unfold nl; omega
    have ih := l1_end hf hx hxl hp hN hcost m hm100 hh j (i + 1) q _ (by omega) (said_next hS hn40) (by omega)
    have hcs := cv_is hf hs (hp i hil)
    have hc64 : cv l (sy x i) < 2 ^ 64 := Nat.lt_of_lt_of_le hcs.2 (Nat.pow_le_pow_right (by decide) (by omega))
    have hput := put_f q hS.val (nl l (sy x i)) (cv l (sy x i)) hn40 hc64 (by omega) (by omega)
    have hr : rd x (i : Int) = (sy x i : Int) := by
      rw [rdn]
      unfold sy
      omega
    have hcl := codesS_length hf
    unfold haystacklaw11_HuffBack.l1
    try dsimp only
    rw [hr, if_pos (by omega), if_pos (by omega), if_pos (by omega), if_pos (by omega), codesS_pos hf hs (hp i hil)]
    try dsimp only
    rw [hput, Option.bind_some]
    try dsimp only
    rw [if_pos rfl, show (i : Int) + 1 = ((i + 1 : Nat) : Int) by omega, w64n _ (by omega), ← ho]
    exact ih
/-- The counts after i symbols. -/
structure Cnt (x : List Int) (i : Nat) (c : List Int) : Prop where
  sz : c.length = 256
  at_ : ∀ s, s < 256 → c.getD s 0 = ((x.take i).count (s : Int) : Int)
theorem cnt_next {x c : List Int} {i : Nat} (h : Cnt x i c) (hi : i < x.length) (ha : 0 ≤ x.getD i 0 ∧ x.getD i 0 < 256) (hxl : x.length ≤ 300) :
    Cnt x (i + 1) (c.set (sy x i) (wrap64 (rd c (sy x i : Int) + 1))) := by
  have hs : sy x i < 256 := by unfold sy; omega
  refine ⟨by rw [List.length_set]; exact h.sz, fun s hs' => ?_⟩
  have hg : x[i] = (sy x i : Int) := by
    have : x.getD i 0 = x[i] := by rw [List.getD_eq_getElem?_getD, List.getElem?_eq_getElem hi]; rfl
    unfold sy
    omega
  rw [List.take_succ_eq_append_getElem hi, List.count_append, hg]
  have hb : (x.take i).count (s : Int) ≤ 300 := Nat.le_trans List.count_le_length (by rw [List.length_take]; omega)
  by_cases e : s = sy x i
  · subst e
    rw [List.getD_eq_getElem?_getD, List.getElem?_set_self (by rw [h.sz]; exact hs), Option.getD_some, rdn, h.at_ _ hs]
    rw [show (((x.take i).count (sy x i : Int) : Nat) : Int) + 1 = (((x.take i).count (sy x i : Int) + 1 : Nat) : Int) by omega, w64n _ (by omega)]
    simp
  · rw [List.getD_eq_getElem?_getD, List.getElem?_set_ne (Ne.symm e), ← List.getD_eq_getElem?_getD, h.at_ s hs']
    have : List.count (s : Int) [(sy x i : Int)] = 0 := by
      rw [List.count_eq_zero]
      intro hm
      exact e (Int.ofNat_inj.1 (List.mem_singleton.1 hm))
    rw [this]
    simp
theorem l0_end {x : List Int} (hx : ∀ a ∈ x, 0 ≤ a ∧ a < 256) (hxl : x.length ≤ 300) (m : Nat) (hm100 : 100 ≤ m) (hh : ∀ k, m ≤ k → haystacklaw11_heads.f k = some true) : ∀ (j i q : Nat) (c : List Int), i + j = x.length → Cnt x i c → m + j + 1000 ≤ q →
    haystacklaw11_HuffBack.l0 q x c (i : Int) = some true
  | 0, i, q, c, hi, hC, hq => by
    obtain ⟨q, rfl⟩ : ∃ p, q = p + 1 + 1 := ⟨q - 2, by omega⟩
    obtain rfl : i = x.length := by omega
    have hat : ∀ s, s < 256 → cnt c s = (x.count (s : Int) : Int) := fun s hs => by
      have := hC.at_ s hs
      rw [List.take_of_length_le (Nat.le_refl _)] at this
      exact this
    have hcnt : ∀ s : Nat, x.count (s : Int) ≤ 300 := fun s => Nat.le_trans List.count_le_length hxl
    have hcB : Go.Proofs.Ytceompmfmceicaa.Huff.countedB c = true := by
      unfold Go.Proofs.Ytceompmfmceicaa.Huff.countedB
      have hany : c.any (Go.Proofs.Ytceompmfmceicaa.Huff.outP 1048576) = false := by
        rw [List.any_eq_false]
        intro y hy
        obtain ⟨s, hs, rfl⟩ := List.mem_iff_getElem.1 hy
        have h1 := hat s (by rw [hC.sz] at hs; exact hs)
        unfold cnt at h1
        rw [List.getD_eq_getElem?_getD, List.getElem?_eq_getElem hs, Option.getD_some] at h1
        have h2 := hcnt s
        unfold Go.Proofs.Ytceompmfmceicaa.Huff.outP
        simp
        omega
      rw [hany, decide_eq_true hC.sz]
      rfl
    have htot := Go.Proofs.MathFits.total hx hat
    have hf : fitsB (lens c) = true := Go.Proofs.MathFits.fits_lens (T := 300) (by rw [htot]; exact hxl) (by decide)
    obtain ⟨hLl, hLi⟩ := fitsB_in hf
    have hL : ∀ s, s < 256 → nl (lens c) s = Go.Proofs.MathTree.L c s := fun s hs => rfl
    have hsy : ∀ i, i < x.length → sy x i < 256 ∧ 0 < cnt c (sy x i) := fun i hi => by
      have hm : x.getD i 0 ∈ x := by
        rw [List.getD_eq_getElem?_getD, List.getElem?_eq_getElem hi]
        exact List.getElem_mem _
      have ha := hx _ hm
      have hs : sy x i < 256 := by unfold sy; omega
      refine ⟨hs, ?_⟩
      rw [hat _ hs]
      have e : (sy x i : Int) = x.getD i 0 := by unfold sy; omega
      rw [e]
      have := List.count_pos_iff.2 hm
      omega
    have hp : ∀ i, i < x.length → 0 < len (lens c) (sy x i) := fun i hi => by
      obtain ⟨h1, h2⟩ := hsy i hi
      have h3 := Go.Proofs.MathTree.lens_pos h1 h2
      unfold len
      rw [h3.2]
      omega
    have hsum := off_sum (lens c) x
    have hcost0 := Go.Proofs.MathFits.cost_text (counts := c) (x := x) (Go.Proofs.MathTree.L c) hat 256 (Nat.le_refl _)
    have hoffx : (256 : Nat) ≤ 256 := Nat.le_refl _
    have hsa := Go.Proofs.MathFits.sumC_all (Go.Proofs.MathTree.L c) x hx
    have hoff : off (lens c) x x.length = sumC x (Go.Proofs.MathTree.L c) 256 := hsum.trans hsa.symm
    have hN : off (lens c) x x.length ≤ 1048576 := by
      have : ∀ y : List Int, (∀ a ∈ y, 0 ≤ a ∧ a < 256) → (y.map fun a => nl (lens c) a.toNat).sum ≤ 40 * y.length := by
        intro y hy
        induction y with
        | nil => exact Nat.le_refl _
        | cons a y ih =>
          have h1 := ih fun b hb => hy b (List.mem_cons_of_mem _ hb)
          have h2 := hLi a.toNat (by have := hy a (List.mem_cons_self ..); omega)
          rw [List.map_cons, List.sum_cons, List.length_cons]
          have h3 : nl (lens c) a.toNat ≤ 40 := by unfold nl; omega
          omega
      have := this x hx
      omega
    have hcost : huff_Cost.f c (lens c) = some (off (lens c) x x.length : Int) := by
      unfold huff_Cost.f
      rw [if_pos (by omega)]
      refine congrArg some ?_
      have hany : (lens c).any (Go.Proofs.Ytceompmfmceicaa.Huff.outP 40) = false := by
        rw [List.any_eq_false]
        intro y hy
        obtain ⟨s, hs, rfl⟩ := List.mem_iff_getElem.1 hy
        have h1 := hLi s (by omega)
        unfold len at h1
        rw [List.getD_eq_getElem?_getD, List.getElem?_eq_getElem hs, Option.getD_some] at h1
        unfold Go.Proofs.Ytceompmfmceicaa.Huff.outP
        simp
        omega
      unfold Go.Proofs.Ytceompmfmceicaa.Huff.costF
      rw [hcB, decide_eq_true hLl, hany, if_pos (by decide), hoff, ← hcost0]
      have ce : ∀ n, n ≤ 256 → Go.Proofs.Ytceompmfmceicaa.Huff.costTo c (lens c) n = Go.Proofs.MathTree.costTo c (Go.Proofs.MathTree.L c) n := by
        intro n
        induction n with
        | zero => intro _; rfl
        | succ n ih =>
          intro hn
          unfold Go.Proofs.Ytceompmfmceicaa.Huff.costTo Go.Proofs.MathTree.costTo
          rw [ih (by omega), rdn, rdn, Go.Proofs.MathTree.lens_L (show n < 256 by omega)]
          rfl
      exact ce 256 (Nat.le_refl _)
    have hcl := codesS_length hf
    unfold haystacklaw11_HuffBack.l0
    try dsimp only
    rw [if_neg (by omega)]
    unfold huff_Lengths.f
    rw [if_pos hcB, Option.bind_some]
    try dsimp only
    unfold huff_Codes.f
    rw [if_pos hf, Option.bind_some]
    try dsimp only
    have e256 : (((codesS (lens c)).length : Int) != 256) = false := by rw [hcl]; decide
    rw [if_pos rfl, if_pos rfl, e256]
    unfold haystacklaw11_HuffBack.j1
    try dsimp only
    rw [if_neg (by decide)]
    have h0 : Said (lens c) x 0 [] := ⟨⟨by show 0 = (0 + 63) / 64; decide, fun j => by simp, fun i _ => by unfold bitN; simp⟩, fun t ht => absurd ht (Nat.not_lt_zero _)⟩
    exact l1_end hf hx hxl hp hN hcost m hm100 hh x.length 0 q [] (by omega) h0 (by omega)
  | j + 1, i, q, c, hi, hC, hq => by
    obtain ⟨q, rfl⟩ : ∃ p, q = p + 1 := ⟨q - 1, by omega⟩
    have hil : i < x.length := by omega
    have hm : x.getD i 0 ∈ x := by
      rw [List.getD_eq_getElem?_getD, List.getElem?_eq_getElem hil]
      exact List.getElem_mem _
    have ha := hx _ hm
    have hs : sy x i < 256 := by unfold sy; omega
    have ih := l0_end hx hxl m hm100 hh j (i + 1) q _ (by omega) (cnt_next hC hil ha hxl) (by omega)
    have hr : rd x (i : Int) = (sy x i : Int) := by
      rw [rdn]
      unfold sy
      omega
    have hsz := hC.sz
    unfold haystacklaw11_HuffBack.l0
    try dsimp only
    rw [hr, if_pos (by omega), if_pos (by omega), if_pos (by omega), if_pos (by omega), Int.toNat_natCast, show (i : Int) + 1 = ((i + 1 : Nat) : Int) by omega, w64n _ (by omega)]
    exact ih

end Go.Proofs.Ytceompmfmceicaa.PureHuffBack
namespace Go.Proofs.Ytceompmfmceicaa.Pure
open Go.RowKit Go.Proofs.Ytceompmfmceicaa.PureHuffBack Go.Proofs.Ytceompmfmceicaa.PHuffBack Go.Proofs.YtceompmfmceicaaW.PrintWords Go.Proofs.YtceompmfmceicaaW.PrintLast
open Go.Proofs.MathCodes (len codes fitsB fitsB_in)
open Go.Proofs.MathCanon (nl apart code_is code_no codes_length)

theorem HuffBack : haystacklaw11_HuffBack.Pure := by
  intro x hm hB hw
  obtain ⟨m, hm3⟩ : ∃ m : Nat, m = 3000 := ⟨_, rfl⟩
  have hh : ∀ k, m ≤ k → haystacklaw11_heads.f k = some true := fun k hk => heads_f k (by omega)
  obtain ⟨k, hk⟩ : ∃ k, k = m + 2000 := ⟨_, rfl⟩
  refine ⟨k, ?_⟩
  unfold haystacklaw11_HuffBack.f
  by_cases c1 : (x.length : Int) > 300
  · rw [if_pos c1, hh _ (by omega)]; rfl
  rw [if_neg c1, if_pos (by decide)]
  have hx : ∀ a ∈ x, 0 ≤ a ∧ a < 256 := fun a ha => u8_of (hw a ha)
  refine l0_end hx (by omega) m (by omega) hh x.length 0 k _ (by omega) ⟨List.length_replicate, fun s hs => ?_⟩ (by omega)
  rw [List.getD_eq_getElem?_getD, List.getElem?_replicate, if_pos hs, List.take_zero]
  rfl

end Go.Proofs.Ytceompmfmceicaa.Pure
