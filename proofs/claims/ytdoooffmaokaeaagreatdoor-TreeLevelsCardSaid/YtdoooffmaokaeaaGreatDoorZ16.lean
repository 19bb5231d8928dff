/- Part 16 of what this claim leans on: MathAll, YMergeB. -/
import Derived.Sort.LotA
import Derived.Sort.WalkA
import Derived.Test.YtdoooffmaokaeaaGreatDoorZ15
/- Merging, in plain Lean: two runs that ascend, told apart by their numbers. No program. -/
section
set_option linter.unusedVariables false
set_option linter.unusedSimpArgs false
set_option linter.unusedSectionVars false
namespace Go.Proofs.MathMerge
open Go Go.Proofs Go.Sort
set_option linter.unusedVariables false
variable (L : Int → Int)

def lexB (x y : Int) : Bool := decide (L x < L y ∨ (L x = L y ∧ x < y))
def ltB (x y : Int) : Bool := decide (L x < L y)
theorem lexB_iff {L : Int → Int} {x y : Int} : lexB L x y = true ↔ (L x < L y ∨ (L x = L y ∧ x < y)) := by unfold lexB; rw [decide_eq_true_eq]
theorem lexB_not {L : Int → Int} {x y : Int} : lexB L x y = false ↔ (L y < L x ∨ (L x = L y ∧ y ≤ x)) := by
  unfold lexB
  rw [decide_eq_false_iff_not]
  omega
theorem swo : SWO (lexB L) := by
  refine ⟨fun x => lexB_not.2 (by omega), fun x y z h1 h2 => ?_, fun x y z h1 h2 => ?_⟩
  · rw [lexB_iff] at *
    omega
  · rw [lexB_not] at *
    omega
theorem lt_lex {L : Int → Int} {x y : Int} (h : y < x) : ltB L x y = lexB L x y := by
  unfold ltB lexB
  by_cases h1 : L x < L y
  · rw [decide_eq_true h1, decide_eq_true (Or.inl h1)]
  · rw [decide_eq_false h1, decide_eq_false (by omega)]

/-! ### The blocks' sort -/
theorem ins_inner {L : Int → Int} (a : Nat) : ∀ (j : Nat) (d : Array Int), j < d.size → (∀ k, a ≤ k → k < j → d[k]! < d[j]!) → insInner (ltB L) a j d = insInner (lexB L) a j d
  | 0, d, _, _ => by unfold insInner; rfl
  | j + 1, d, hs, h => by
    unfold insInner
    by_cases hja : j + 1 > a
    · have e : ltB L d[j + 1]! d[j]! = lexB L d[j + 1]! d[j]! := lt_lex (h j (by omega) (by omega))
      rw [e]
      split
      · refine ins_inner a j _ (by rw [size_swp]; omega) fun k h1 h2 => ?_
        rw [swp_right d (j + 1) j (by omega), swp_other d (j + 1) j k (by omega) (by omega)]
        exact h k h1 (by omega)
      · rfl
    · rw [decide_eq_false hja]
      rfl
theorem ins_outer {L : Int → Int} (a b : Nat) : ∀ (n i : Nat) (d : Array Int), b - i = n → a < i → i ≤ b → b ≤ d.size → SortedIn (lexB L) a i d → (∀ k k', a ≤ k → k < i → i ≤ k' → k' < b → d[k]! < d[k']!) → (∀ k k', i ≤ k → k < k' → k' < b → d[k]! < d[k']!) → insOuter (ltB L) a b i d = insOuter (lexB L) a b i d
  | 0, i, d, hn, _, hib, _, _, _, _ => by
    rw [insOuter_stop (ltB L) a b i d (by omega), insOuter_stop (lexB L) a b i d (by omega)]
  | n + 1, i, d, hn, hai, hib, hb, hs, h1, h2 => by
    rw [insOuter_go (ltB L) a b i d (by omega), insOuter_go (lexB L) a b i d (by omega), ins_inner a i d (by omega) fun k hk hk2 => h1 k i hk hk2 (by omega) (by omega)]
    have hsp := insInner_spec (swo L) swp_permIn permIn_refl permIn_trans a (i + 1) i (by omega) i d (by omega) (Nat.le_refl _) (by omega) ⟨fun p q hap hpq hqi _ hq => hs p q hap hpq (by omega), fun q h1 h2 => by omega⟩
    obtain ⟨⟨p1, p2, p3⟩, hsr⟩ := hsp
    refine ins_outer a b n (i + 1) _ (by omega) (by omega) (by omega) (by rw [p1]; exact hb) hsr (fun k k' q1 q2 q3 q4 => ?_) (fun k k' q1 q2 q3 => ?_)
    · rw [p2 k' (by omega)]
      refine permIn_all d _ a (i + 1) (fun x => x < d[k']!) (by omega) ⟨p1, p2, p3⟩ (fun t t1 t2 => ?_) k q1 q2
      by_cases e : t = i
      · subst e; exact h2 t k' (by omega) (by omega) q4
      · exact h1 t k' t1 (by omega) (by omega) q4
    · rw [p2 k (by omega), p2 k' (by omega)]
      exact h2 k k' (by omega) q2 q3
theorem ins_lex {L : Int → Int} (d : Array Int) (a b : Nat) (hab : a ≤ b) (hb : b ≤ d.size) (h : ∀ k k', a ≤ k → k < k' → k' < b → d[k]! < d[k']!) : PermIn a b d (insertionSort (ltB L) d a b) ∧ SortedIn (lexB L) a b (insertionSort (ltB L) d a b) := by
  have e : insertionSort (ltB L) d a b = insertionSort (lexB L) d a b := by
    unfold insertionSort
    by_cases hne : a < b
    · exact ins_outer a b (b - (a + 1)) (a + 1) d rfl (by omega) (by omega) hb (fun i j h1 h2 h3 => by omega) (fun k k' h1 h2 h3 h4 => h k k' h1 (by omega) h4) (fun k k' h1 h2 h3 => h k k' (by omega) h2 h3)
    · rw [insOuter_stop (ltB L) a b (a + 1) d (by omega), insOuter_stop (lexB L) a b (a + 1) d (by omega)]
  rw [e]
  exact insertionSort_holds (swo L) d a b hab hb

/-! ### One into many -/
/-- The first one goes up to place i. -/
structure Up (d d' : Array Int) (a i : Nat) : Prop where
  size : d'.size = d.size
  low : ∀ k, a ≤ k → k < i → d'[k]! = d[k + 1]!
  it : d'[i]! = d[a]!
  out : ∀ k, k < a ∨ i < k → d'[k]! = d[k]!
theorem Up.start (d : Array Int) (a : Nat) : Up d d a a := ⟨rfl, fun k h1 h2 => by omega, rfl, fun k _ => rfl⟩
theorem Up.step {d d' : Array Int} {a i : Nat} (h : Up d d' a i) (hai : a ≤ i) (hi : i + 1 < d.size) : Up d (swp d' i (i + 1)) a (i + 1) := by
  have hs := h.size
  have g := swp_get d' (i := i) (j := i + 1) (by omega) (by omega)
  refine ⟨by rw [size_swp, hs], fun k h1 h2 => ?_, ?_, fun k h1 => ?_⟩
  · rw [g, if_neg (by omega)]
    by_cases e : k = i
    · rw [if_pos e, h.out (i + 1) (by omega), e]
    · rw [if_neg e, h.low k h1 (by omega)]
  · rw [g, if_pos rfl, h.it]
  · rw [g, if_neg (by omega), if_neg (by omega), h.out k (by omega)]
theorem Up.sorted {d d' : Array Int} {a i b : Nat} (h : Up d d' a i) (hai : a ≤ i) (hib : i < b) (hs : SortedIn (lexB L) (a + 1) b d) (h1 : ∀ k, a + 1 ≤ k → k < i + 1 → lexB L d[k]! d[a]! = true) (h2 : ∀ k, i + 1 ≤ k → k < b → lexB L d[k]! d[a]! = false) : SortedIn (lexB L) a b d' := by
  intro p q hp hpq hq
  by_cases c1 : q < i
  · rw [h.low q (by omega) c1, h.low p hp (by omega)]
    exact hs (p + 1) (q + 1) (by omega) (by omega) (by omega)
  · by_cases c2 : q = i
    · subst c2
      rw [h.it, h.low p hp hpq]
      exact (swo L).asymmA (h1 (p + 1) (by omega) (by omega))
    · rw [h.out q (by omega)]
      by_cases c3 : p < i
      · rw [h.low p hp c3]
        by_cases c4 : p + 1 < q
        · exact hs (p + 1) q (by omega) c4 hq
        · omega
      · by_cases c4 : p = i
        · subst c4
          rw [h.it]
          exact h2 q (by omega) hq
        · rw [h.out p (by omega)]
          exact hs p q (by omega) hpq hq
/-- The last one goes down to place i. -/
structure Down (d d' : Array Int) (m i : Nat) : Prop where
  size : d'.size = d.size
  high : ∀ k, i < k → k ≤ m → d'[k]! = d[k - 1]!
  it : d'[i]! = d[m]!
  out : ∀ k, k < i ∨ m < k → d'[k]! = d[k]!
theorem Down.start (d : Array Int) (m : Nat) : Down d d m m := ⟨rfl, fun k h1 h2 => by omega, rfl, fun k _ => rfl⟩
theorem Down.step {d d' : Array Int} {m i : Nat} (h : Down d d' m (i + 1)) (him : i + 1 ≤ m) (hm : m < d.size) : Down d (swp d' (i + 1) i) m i := by
  have hs := h.size
  have g := swp_get d' (i := i + 1) (j := i) (by omega) (by omega)
  refine ⟨by rw [size_swp, hs], fun k h1 h2 => ?_, ?_, fun k h1 => ?_⟩
  · rw [g, if_neg (by omega)]
    by_cases e : k = i + 1
    · rw [if_pos e, h.out i (by omega), e]; rfl
    · rw [if_neg e, h.high k (by omega) h2]
  · rw [g, if_pos rfl, h.it]
  · rw [g, if_neg (by omega), if_neg (by omega), h.out k (by omega)]
theorem Down.sorted {d d' : Array Int} {a m i : Nat} (h : Down d d' m i) (hai : a ≤ i) (him : i ≤ m) (hs : SortedIn (lexB L) a m d) (h1 : ∀ k, a ≤ k → k < i → lexB L d[m]! d[k]! = false) (h2 : ∀ k, i ≤ k → k < m → lexB L d[m]! d[k]! = true) : SortedIn (lexB L) a (m + 1) d' := by
  intro p q hp hpq hq
  by_cases c1 : q < i
  · rw [h.out q (by omega), h.out p (by omega)]
    exact hs p q hp hpq (by omega)
  · by_cases c2 : q = i
    · subst c2
      rw [h.it, h.out p (by omega)]
      exact h1 p hp hpq
    · rw [h.high q (by omega) (by omega)]
      by_cases c3 : p < i
      · rw [h.out p (by omega)]
        by_cases c4 : p < q - 1
        · exact hs p (q - 1) hp c4 (by omega)
        · omega
      · by_cases c4 : p = i
        · subst c4
          rw [h.it]
          exact (swo L).asymmA (h2 (q - 1) (by omega) (by omega))
        · rw [h.high p (by omega) (by omega)]
          exact hs (p - 1) (q - 1) (by omega) (by omega) (by omega)

/-! ### Two halves -/
theorem halves {L : Int → Int} {d2 d3 d4 : Array Int} {a c b : Nat} (hac : a ≤ c) (hcb : c ≤ b) (hb : b ≤ d2.size) (h : ∀ i j, a ≤ i → i < c → c ≤ j → j < b → lexB L d2[j]! d2[i]! = false)
    (p1 : PermIn a c d2 d3) (s1 : SortedIn (lexB L) a c d3) (p2 : PermIn c b d3 d4) (s2 : SortedIn (lexB L) c b d4) : PermIn a b d2 d4 ∧ SortedIn (lexB L) a b d4 := by
  have z1 := p1.1
  have z2 := p2.1
  refine ⟨permIn_trans _ _ _ a b (permIn_mono d2 d3 a c a b (Nat.le_refl _) hcb hb p1) (permIn_mono d3 d4 c b a b hac (Nat.le_refl _) (by omega) p2), fun p q hp hpq hq => ?_⟩
  by_cases c1 : q < c
  · rw [p2.2.1 q (by omega), p2.2.1 p (by omega)]
    exact s1 p q hp hpq c1
  · by_cases c2 : p < c
    · rw [p2.2.1 p (by omega)]
      refine permIn_all d3 d4 c b (fun x => lexB L x d3[p]! = false) (by omega) p2 (fun j h1 h2 => ?_) q (by omega) hq
      rw [p1.2.1 j (by omega)]
      exact permIn_all d2 d3 a c (fun x => lexB L d2[j]! x = false) (by omega) p1 (fun i h3 h4 => h i j h3 h4 h1 h2) p hp c2
    · exact s2 p q (by omega) hpq hq
end Go.Proofs.MathMerge
/- Runs of a row, in plain Lean: what a sort by blocks keeps. No program. -/
namespace Go.Proofs.MathStable
open Go Go.Proofs Go.Sort Go.Proofs.MathMerge
set_option linter.unusedVariables false

/-- A run: it ascends, and holds the numbers of its places. -/
def Blk (L : Int → Int) (d : Array Int) (lo hi : Nat) : Prop := SortedIn (lexB L) lo hi d ∧ ∀ k, lo ≤ k → k < hi → (lo : Int) ≤ d[k]! ∧ d[k]! < (hi : Int)
theorem Blk.same {L : Int → Int} {d d' : Array Int} {lo hi : Nat} (h : Blk L d lo hi) (he : ∀ k, lo ≤ k → k < hi → d'[k]! = d[k]!) : Blk L d' lo hi :=
  ⟨fun i j h1 h2 h3 => by rw [he i h1 (by omega), he j (by omega) h3]; exact h.1 i j h1 h2 h3, fun k h1 h2 => by rw [he k h1 h2]; exact h.2 k h1 h2⟩
/-- All runs of a length, from a place on. -/
def Runs (L : Int → Int) (d : Array Int) (bs a sz : Nat) : Prop := ∀ lo, a ≤ lo → lo < sz → bs ∣ (lo - a) → Blk L d lo (min (lo + bs) sz)
/-- All runs of a length, up to a place. -/
def Done (L : Int → Int) (d : Array Int) (bs a : Nat) : Prop := ∀ lo, lo < a → bs ∣ lo → lo + bs ≤ a ∧ Blk L d lo (lo + bs)
theorem Done.step {L : Int → Int} {d d' : Array Int} {bs a : Nat} (hb : 0 < bs) (ha : bs ∣ a) (h : Done L d bs a) (he : ∀ k, k < a → d'[k]! = d[k]!) (hn : Blk L d' a (a + bs)) : Done L d' bs (a + bs) := by
  intro lo h1 h2
  by_cases c : lo < a
  · obtain ⟨q1, q2⟩ := h lo c h2
    exact ⟨by omega, q2.same fun k k1 k2 => he k (by omega)⟩
  · have h3 : bs ∣ lo - a := Nat.dvd_sub h2 ha
    have h4 : lo - a = 0 := Nat.eq_zero_of_dvd_of_lt h3 (by omega)
    obtain rfl : lo = a := by omega
    exact ⟨Nat.le_refl _, hn⟩
theorem Runs.rest {L : Int → Int} {d d' : Array Int} {bs a sz : Nat} (c : Nat) (h : Runs L d bs a sz) (hc : bs ∣ c) (he : ∀ k, a + c ≤ k → k < sz → d'[k]! = d[k]!) : Runs L d' bs (a + c) sz := by
  intro lo h1 h2 h3
  refine (h lo (by omega) h2 ?_).same fun k k1 k2 => he k (by omega) (by omega)
  rw [show lo - a = (lo - (a + c)) + c by omega]
  exact Nat.dvd_add h3 hc
theorem Done.runs {L : Int → Int} {d : Array Int} {bs a sz : Nat} (hb : 0 < bs) (ha : bs ∣ a) (h : Done L d bs a) (has : a ≤ sz) (hsz : sz ≤ a + bs) (hl : a < sz → Blk L d a sz) : Runs L d bs 0 sz := by
  intro lo h1 h2 h3
  rw [Nat.sub_zero] at h3
  by_cases c : lo < a
  · obtain ⟨q1, q2⟩ := h lo c h3
    rw [Nat.min_eq_left (by omega)]
    exact q2
  · have h4 : bs ∣ lo - a := Nat.dvd_sub h3 ha
    have h5 : lo - a = 0 := Nat.eq_zero_of_dvd_of_lt h4 (by omega)
    obtain rfl : lo = a := by omega
    rw [Nat.min_eq_right hsz]
    exact hl h2
/-- Two runs, one behind the other, become one. -/
theorem Blk.merged {L : Int → Int} {d d' : Array Int} {a m b : Nat} (h1 : Blk L d a m) (h2 : Blk L d m b) (ham : a ≤ m) (hmb : m ≤ b) (hb : b ≤ d.size) (hp : PermIn a b d d') (hs : SortedIn (lexB L) a b d') : Blk L d' a b := by
  refine ⟨hs, fun k k1 k2 => ?_⟩
  refine permIn_all d d' a b (fun x => (a : Int) ≤ x ∧ x < (b : Int)) hb hp (fun i i1 i2 => ?_) k k1 k2
  by_cases c : i < m
  · have := h1.2 i i1 c
    omega
  · have := h2.2 i (by omega) i2
    omega
theorem Blk.cross {L : Int → Int} {d : Array Int} {a m b : Nat} (h1 : Blk L d a m) (h2 : Blk L d m b) : ∀ i j, a ≤ i → i < m → m ≤ j → j < b → d[i]! < d[j]! := by
  intro i j i1 i2 j1 j2
  have := h1.2 i i1 i2
  have := h2.2 j j1 j2
  omega
end Go.Proofs.MathStable
/- The order of symbols by lengths, then numbers; the codes that come of it: in plain Lean. -/
namespace Go.Proofs.MathCodes
open Go Go.Proofs Go.Sort Go.Proofs.MathMerge
set_option linter.unusedVariables false

/-- The length of a symbol. -/
def len (l : List Int) (c : Nat) : Int := l.getD c 0
def order (l : List Int) : List Nat := (List.range 41).flatMap fun n : Nat => (List.range 256).filter fun c => decide (len l c = (n : Int))
def ahead (l : List Int) (a b : Nat) : Prop := len l a < len l b ∨ len l a = len l b ∧ a < b
/-- One symbol's turn: the next number, the last length, the codes. -/
structure St where
  next : Int
  long : Int
  out : List (Int × Int)
def shl64 (x n : Int) : Int := IntKind.u64.wrap (x * 2 ^ n.toNat)
def step (l : List Int) (s : St) (c : Nat) : St :=
  if 0 < len l c then ⟨IntKind.u64.wrap (shl64 s.next (len l c - s.long) + 1), len l c, s.out.set c (len l c, shl64 s.next (len l c - s.long))⟩ else s
def start : St := ⟨0, 0, List.replicate 256 (0, 0)⟩
def codes (l : List Int) : List (Int × Int) := ((order l).foldl (step l) start).out
def upto (l : List Int) (k : Nat) : St := ((order l).take k).foldl (step l) start
theorem upto_zero (l : List Int) : upto l 0 = start := rfl
theorem upto_succ (l : List Int) (k : Nat) (h : k < (order l).length) : upto l (k + 1) = step l (upto l k) ((order l)[k]) := by
  unfold upto
  rw [List.take_succ_eq_append_getElem h, List.foldl_append]
  rfl
theorem upto_all (l : List Int) (k : Nat) (h : (order l).length ≤ k) : (upto l k).out = codes l := by
  unfold upto codes
  rw [List.take_of_length_le h]
theorem wrap_u64_lt (x : Int) : 0 ≤ IntKind.u64.wrap x ∧ IntKind.u64.wrap x < 18446744073709551616 := by
  rw [IntKind.wrap_u64]
  omega
theorem upto_next (l : List Int) : ∀ k, k ≤ (order l).length → 0 ≤ (upto l k).next ∧ (upto l k).next < 18446744073709551616
  | 0, _ => by rw [upto_zero]; exact ⟨Int.le_refl _, by decide⟩
  | k + 1, h => by
    rw [upto_succ l k h]
    unfold step
    split
    · exact wrap_u64_lt _
    · exact upto_next l k (by omega)
/-! ### Lengths that may be -/
def part (x : Int) : Int := if 0 < x then 2 ^ (40 - x).toNat else 0
def sumTo (l : List Int) : Nat → Int
  | 0 => 0
  | n + 1 => sumTo l n + part (len l n)
def cntTo (l : List Int) : Nat → Int
  | 0 => 0
  | n + 1 => cntTo l n + if 0 < len l n then 1 else 0
def maxTo (l : List Int) : Nat → Int
  | 0 => 0
  | n + 1 => if 0 < len l n then (if maxTo l n < len l n then len l n else maxTo l n) else maxTo l n
def inB (l : List Int) : Bool := (List.range 256).all fun c => decide (0 ≤ len l c) && decide (len l c ≤ 40)
def kraftB (l : List Int) : Bool := cntTo l 256 == 0 || (cntTo l 256 == 1 && maxTo l 256 == 1) || sumTo l 256 == 1099511627776
def fitsB (l : List Int) : Bool := decide (l.length = 256) && inB l && kraftB l
end Go.Proofs.MathCodes
/- A heap as a function on places: what a push and a pop keep. In plain Lean; no program. -/
namespace Go.Proofs.MathHeap
set_option linter.unusedVariables false

/-- A strict order, total. -/
structure Ord (lt : Nat → Nat → Bool) : Prop where
  irrefl : ∀ x, lt x x = false
  asymm : ∀ x y, lt x y = true → lt y x = false
  ntrans : ∀ x y z, lt x y = false → lt y z = false → lt x z = false
def par (i : Nat) : Nat := (i - 1) / 2
def swap (L : Nat → Nat) (i j : Nat) : Nat → Nat := fun k => if k = i then L j else if k = j then L i else L k
def upd (L : Nat → Nat) (i v : Nat) : Nat → Nat := fun k => if k = i then v else L k
def ids (L : Nat → Nat) (n : Nat) : List Nat := (List.range n).map L
def HeapOrd (lt : Nat → Nat → Bool) (L : Nat → Nat) (n : Nat) : Prop := ∀ j, 0 < j → j < n → lt (L j) (L (par j)) = false
structure UpInv (lt : Nat → Nat → Bool) (L : Nat → Nat) (n i : Nat) : Prop where
  all : ∀ j, 0 < j → j < n → j ≠ i → lt (L j) (L (par j)) = false
  kids : ∀ j, 0 < j → j < n → par j = i → 0 < i → lt (L j) (L (par i)) = false
theorem UpInv.start {lt : Nat → Nat → Bool} {L : Nat → Nat} {n v : Nat} (h : HeapOrd lt L n) : UpInv lt (upd L n v) (n + 1) n := by
  refine ⟨fun j h1 h2 h3 => ?_, fun j h1 h2 h3 h4 => ?_⟩
  · have hp : par j ≠ n := by unfold par; omega
    unfold upd
    rw [if_neg h3, if_neg hp]
    exact h j h1 (by omega)
  · unfold par at h3
    omega
theorem UpInv.stop {lt : Nat → Nat → Bool} {L : Nat → Nat} {n i : Nat} (h : UpInv lt L n i) (hs : 0 < i → lt (L i) (L (par i)) = false) : HeapOrd lt L n := by
  intro j h1 h2
  by_cases e : j = i
  · subst e; exact hs h1
  · exact h.all j h1 h2 e
theorem UpInv.step {lt : Nat → Nat → Bool} (O : Ord lt) {L : Nat → Nat} {n i : Nat} (h : UpInv lt L n i) (hi : i < n) (h0 : 0 < i) (hl : lt (L i) (L (par i)) = true) : UpInv lt (swap L i (par i)) n (par i) := by
  have hpi : par i < i := by unfold par; omega
  refine ⟨fun j h1 h2 h3 => ?_, fun j h1 h2 h3 h4 => ?_⟩
  · unfold swap
    by_cases e1 : j = i
    · subst e1
      rw [if_pos rfl, if_neg (by omega), if_pos rfl]
      exact O.asymm _ _ hl
    · rw [if_neg e1, if_neg h3]
      by_cases e2 : par j = i
      · rw [if_pos e2]
        exact h.kids j h1 h2 e2 h0
      · rw [if_neg e2]
        by_cases e3 : par j = par i
        · rw [if_pos e3]
          have h5 := h.all j h1 h2 e1
          rw [e3] at h5
          exact O.ntrans _ _ _ h5 (O.asymm _ _ hl)
        · rw [if_neg e3]
          exact h.all j h1 h2 e1
  · have hpp : par (par i) < par i := by unfold par at h4 ⊢; omega
    have h6 := h.all (par i) h4 (by omega) (by omega)
    unfold swap
    rw [if_neg (show par (par i) ≠ i by omega), if_neg (show par (par i) ≠ par i by omega)]
    by_cases e1 : j = i
    · subst e1
      rw [if_pos rfl]
      exact h6
    · rw [if_neg e1, if_neg (by unfold par at *; omega)]
      have h5 := h.all j h1 h2 e1
      rw [h3] at h5
      exact O.ntrans _ _ _ h5 h6
structure DownInv (lt : Nat → Nat → Bool) (L : Nat → Nat) (n i : Nat) : Prop where
  all : ∀ j, 0 < j → j < n → par j ≠ i → lt (L j) (L (par j)) = false
  kids : ∀ j, 0 < j → j < n → par j = i → 0 < i → lt (L j) (L (par i)) = false
theorem DownInv.start {lt : Nat → Nat → Bool} {L : Nat → Nat} {n v : Nat} (h : HeapOrd lt L (n + 1)) : DownInv lt (upd L 0 v) n 0 := by
  refine ⟨fun j h1 h2 h3 => ?_, fun j h1 h2 h3 h4 => absurd h4 (Nat.lt_irrefl _)⟩
  unfold upd
  rw [if_neg (by omega), if_neg h3]
  exact h j h1 (by omega)
theorem DownInv.stop {lt : Nat → Nat → Bool} {L : Nat → Nat} {n i : Nat} (h : DownInv lt L n i) (hs : ∀ j, 0 < j → j < n → par j = i → lt (L j) (L i) = false) : HeapOrd lt L n := by
  intro j h1 h2
  by_cases e : par j = i
  · rw [e]; exact hs j h1 h2 e
  · exact h.all j h1 h2 e
theorem DownInv.step {lt : Nat → Nat → Bool} (O : Ord lt) {L : Nat → Nat} {n i m : Nat} (h : DownInv lt L n i) (hm0 : 0 < m) (hmn : m < n) (hpm : par m = i) (hl : lt (L m) (L i) = true) (ho : ∀ j, 0 < j → j < n → par j = i → lt (L j) (L m) = false) : DownInv lt (swap L i m) n m := by
  have him : i < m := by unfold par at hpm; omega
  refine ⟨fun j h1 h2 h3 => ?_, fun j h1 h2 h3 h4 => ?_⟩
  · unfold swap
    by_cases e1 : j = m
    · subst e1
      rw [if_neg (by omega), if_pos rfl, if_pos hpm]
      exact O.asymm _ _ hl
    · by_cases e2 : j = i
      · subst e2
        rw [if_pos rfl, if_neg (by unfold par; omega), if_neg h3]
        exact h.kids m hm0 hmn hpm h1
      · rw [if_neg e2, if_neg e1]
        by_cases e3 : par j = i
        · rw [if_pos e3]
          exact ho j h1 h2 e3
        · rw [if_neg e3, if_neg h3]
          exact h.all j h1 h2 e3
  · have hjm : m < j := by unfold par at h3; omega
    unfold swap
    rw [if_neg (by omega), if_neg (by omega), if_pos (by rw [hpm])]
    have h5 := h.all j h1 h2 (by omega)
    rw [h3] at h5
    exact h5
/-- The first one is the least one. -/
theorem HeapOrd.least {lt : Nat → Nat → Bool} (O : Ord lt) {L : Nat → Nat} {n : Nat} (h : HeapOrd lt L n) : ∀ j, j < n → lt (L j) (L 0) = false := by
  intro j
  induction j using Nat.strongRecOn with
  | ind j ih =>
    intro hj
    by_cases e : j = 0
    · subst e; exact O.irrefl _
    · exact O.ntrans _ _ _ (h j (by omega) hj) (ih (par j) (by unfold par; omega) (by unfold par; omega))
theorem HeapOrd.same {lt lt' : Nat → Nat → Bool} {L : Nat → Nat} {n : Nat} (h : HeapOrd lt L n) (he : ∀ i j, i < n → j < n → lt' (L i) (L j) = lt (L i) (L j)) : HeapOrd lt' L n := by
  intro j h1 h2
  rw [he j (par j) h2 (by unfold par; omega)]
  exact h j h1 h2
/-- A thing: its weight, its number, the one that it became. -/
structure Th where
  w : Int
  id : Int
  up : Int
def bef (a b : Th) : Bool := decide (a.w < b.w ∨ a.w = b.w ∧ a.id < b.id)
def none_ : Th := ⟨0, 0, 0⟩
def ltT (T : List Th) (a b : Nat) : Bool := bef (T.getD a none_) (T.getD b none_)
theorem bef_not {a b : Th} : bef a b = false ↔ ¬ (a.w < b.w ∨ a.w = b.w ∧ a.id < b.id) := by unfold bef; rw [decide_eq_false_iff_not]
end Go.Proofs.MathHeap
/- Huffman's lengths: what is computed, and the machine of numbered things that computes it, in plain Lean. No program. -/
namespace Go.Proofs.MathHuff
open Go.Proofs.MathHeap
set_option linter.unusedVariables false

/-- An item: its number, its weight, the symbols in it. -/
structure It where
  id : Nat
  w : Int
  syms : List Nat
def dflt : It := ⟨0, 0, []⟩
def befI (a b : It) : Bool := decide (a.w < b.w ∨ a.w = b.w ∧ a.id < b.id)
def leastAt (l : List It) : Nat := (List.range l.length).foldl (fun m i => if befI (l.getD i dflt) (l.getD m dflt) then i else m) 0
def bump (out : List Int) (s : List Nat) : List Int := s.foldl (fun o c => o.set c (o.getD c 0 + 1)) out
def least (l : List It) : It := l.getD (leastAt l) dflt
def rest (l : List It) : List It := l.eraseIdx (leastAt l)
def join (next : Nat) (l : List It) : It := ⟨next, (least l).w + (least (rest l)).w, (least l).syms ++ (least (rest l)).syms⟩
def hgo : Nat → Nat → List It → List Int → List Int
  | 0, _, _, out => out
  | f + 1, next, l, out => if l.length ≤ 1 then out else hgo f (next + 1) (rest (rest l) ++ [join next l]) (bump out ((least l).syms ++ (least (rest l)).syms))
def cnt (counts : List Int) (c : Nat) : Int := counts.getD c 0
def begin_ (counts : List Int) : List It := ((List.range 256).filter fun c => decide (0 < cnt counts c)).map fun c => ⟨c, cnt counts c, [c]⟩
def noughts : List Int := List.replicate 256 0
def lens (counts : List Int) : List Int := if (begin_ counts).length = 1 then noughts.set (least (begin_ counts)).id 1 else hgo 256 256 (begin_ counts) noughts

theorem least_go (l : List It) : ∀ n, n ≤ l.length → ((List.range n).foldl (fun m i => if befI (l.getD i dflt) (l.getD m dflt) then i else m) 0 < l.length ∨ l = []) ∧ ∀ j, j < n → befI (l.getD j dflt) (l.getD ((List.range n).foldl (fun m i => if befI (l.getD i dflt) (l.getD m dflt) then i else m) 0) dflt) = false
  | 0, _ => ⟨by
      rw [List.range_zero, List.foldl_nil]
      cases l with
      | nil => exact .inr rfl
      | cons x l => exact .inl (Nat.succ_pos _), fun j hj => absurd hj (Nat.not_lt_zero _)⟩
  | n + 1, h => by
    obtain ⟨h1, h2⟩ := least_go l n (by omega)
    rw [List.range_succ, List.foldl_append, List.foldl_cons, List.foldl_nil]
    generalize (List.range n).foldl (fun m i => if befI (l.getD i dflt) (l.getD m dflt) then i else m) 0 = m at h1 h2
    by_cases c : befI (l.getD n dflt) (l.getD m dflt) = true
    · rw [if_pos c]
      refine ⟨.inl (by omega), fun j hj => ?_⟩
      by_cases e : j = n
      · subst e
        unfold befI
        rw [decide_eq_false_iff_not]
        omega
      · have h3 := h2 j (by omega)
        unfold befI at c h3 ⊢
        rw [decide_eq_true_iff] at c
        rw [decide_eq_false_iff_not] at h3 ⊢
        omega
    · rw [if_neg c]
      refine ⟨h1, fun j hj => ?_⟩
      by_cases e : j = n
      · subst e
        exact Bool.eq_false_iff.2 c
      · exact h2 j (by omega)
theorem leastAt_lt {l : List It} (h : l ≠ []) : leastAt l < l.length := ((least_go l l.length (Nat.le_refl _)).1).resolve_right h
theorem least_le {l : List It} : ∀ t ∈ l, befI t (least l) = false := by
  intro t ht
  obtain ⟨j, hj, rfl⟩ := List.mem_iff_getElem.1 ht
  have := (least_go l l.length (Nat.le_refl _)).2 j hj
  rw [List.getD_eq_getElem?_getD, List.getElem?_eq_getElem hj] at this
  exact this
theorem least_mem {l : List It} (h : l ≠ []) : least l ∈ l := by
  have := leastAt_lt h
  unfold least
  rw [List.getD_eq_getElem?_getD, List.getElem?_eq_getElem this]
  exact List.getElem_mem _
theorem out_perm : ∀ (l : List It) (i : Nat) (h : i < l.length), l.Perm (l[i] :: l.eraseIdx i)
  | x :: l, 0, _ => List.Perm.refl _
  | x :: l, i + 1, h => ((out_perm l i (Nat.lt_of_succ_lt_succ h)).cons x).trans (List.Perm.swap _ _ _)
theorem rest_perm {l : List It} (h : l ≠ []) : l.Perm (least l :: rest l) := by
  have hl := leastAt_lt h
  unfold rest
  unfold least
  rw [List.getD_eq_getElem?_getD, List.getElem?_eq_getElem hl]
  exact out_perm l _ hl
theorem bump_length (s : List Nat) : ∀ out : List Int, (bump out s).length = out.length := by
  induction s with
  | nil => intro out; rfl
  | cons c s ih =>
    intro out
    show (bump (out.set c _) s).length = _
    rw [ih, List.length_set]
theorem bump_get (s : List Nat) : ∀ (out : List Int) (c : Nat), c < out.length → (bump out s).getD c 0 = out.getD c 0 + (s.count c : Int) := by
  induction s with
  | nil => intro out c _; simp [bump]
  | cons d s ih =>
    intro out c hc
    show (bump (out.set d (out.getD d 0 + 1)) s).getD c 0 = _
    rw [ih _ c (by rw [List.length_set]; exact hc), List.count_cons]
    by_cases e : d = c
    · subst e
      simp only [List.getD_eq_getElem?_getD, List.getElem?_set_self hc, List.getElem?_eq_getElem hc, Option.getD_some, beq_self_eq_true, if_true]
      omega
    · have e' : (d == c) = false := by simpa using e
      simp only [List.getD_eq_getElem?_getD, List.getElem?_set_ne e, e', Bool.false_eq_true, if_false]
      omega
/-! ### The machine of numbered things -/
inductive Ch (T : List Th) : Nat → Nat → Nat → Prop
  | stop {c : Nat} {t : Th} : T[c]? = some t → t.up = -1 → Ch T c 0 c
  | step {c x d r : Nat} {t : Th} : T[c]? = some t → t.up = (x : Int) → Ch T x d r → Ch T c (d + 1) r
theorem Ch.last {T : List Th} {c d r : Nat} (h : Ch T c d r) : ∃ t, T[r]? = some t ∧ t.up = -1 := by
  induction h with
  | stop h1 h2 => exact ⟨_, h1, h2⟩
  | step _ _ _ ih => exact ih
theorem Ch.le {T : List Th} (asc : ∀ (x y : Nat) (t : Th), T[x]? = some t → t.up = (y : Int) → x < y) {c d r : Nat} (h : Ch T c d r) : c + d ≤ r ∧ r < T.length := by
  induction h with
  | stop h1 _ => exact ⟨Nat.le_refl _, (List.getElem?_eq_some_iff.1 h1).1⟩
  | step h1 h2 _ ih =>
    have := asc _ _ _ h1 h2
    omega
structure Sim (S : Int) (T : List Th) (l : List It) (out : List Int) : Prop where
  nod : (l.map It.id).Nodup
  it : ∀ t ∈ l, T[t.id]? = some ⟨t.w, (t.id : Int), -1⟩
  sz : out.length = 256
  big : 256 ≤ T.length
  ch : ∀ c, c < 256 → ∃ d r : Nat, out.getD c 0 = (d : Int) ∧ Ch T c d r ∧ ∀ t ∈ l, c ∈ t.syms ↔ r = t.id
  syms : ∀ t ∈ l, t.syms.Nodup ∧ ∀ c ∈ t.syms, c < 256
  pos : ∀ t ∈ l, 0 < t.w
  sum : (l.map It.w).sum = S
  asc : ∀ (x y : Nat) (t : Th), T[x]? = some t → t.up = (y : Int) → x < y
/-- The things behind a merge. -/
def mergeT (T : List Th) (a b : Nat) (s : Int) : List Th := ((T ++ [(⟨s, (T.length : Int), -1⟩ : Th)]).set a { T.getD a none_ with up := (T.length : Int) }).set b { T.getD b none_ with up := (T.length : Int) }
theorem mergeT_length (T : List Th) (a b : Nat) (s : Int) : (mergeT T a b s).length = T.length + 1 := by simp [mergeT]
theorem mergeT_new (T : List Th) (a b : Nat) (s : Int) (ha : a < T.length) (hb : b < T.length) : (mergeT T a b s)[T.length]? = some ⟨s, (T.length : Int), -1⟩ := by
  unfold mergeT
  rw [List.getElem?_set_ne (by omega), List.getElem?_set_ne (by omega), List.getElem?_append_right (Nat.le_refl _), Nat.sub_self]
  rfl
theorem mergeT_old (T : List Th) (a b : Nat) (s : Int) (x : Nat) (hx : x < T.length) (hxa : x ≠ a) (hxb : x ≠ b) : (mergeT T a b s)[x]? = T[x]? := by
  unfold mergeT
  rw [List.getElem?_set_ne (Ne.symm hxb), List.getElem?_set_ne (Ne.symm hxa), List.getElem?_append_left hx]
theorem mergeT_b (T : List Th) (a b : Nat) (s : Int) (hb : b < T.length) : (mergeT T a b s)[b]? = some { T.getD b none_ with up := (T.length : Int) } := by
  unfold mergeT
  rw [List.getElem?_set_self (by simp; omega)]
theorem mergeT_a (T : List Th) (a b : Nat) (s : Int) (ha : a < T.length) (hab : a ≠ b) : (mergeT T a b s)[a]? = some { T.getD a none_ with up := (T.length : Int) } := by
  unfold mergeT
  rw [List.getElem?_set_ne (Ne.symm hab), List.getElem?_set_self (by simp; omega)]
theorem Ch.lt {T : List Th} {c d r : Nat} (h : Ch T c d r) : c < T.length := by
  cases h with
  | stop h1 _ => exact (List.getElem?_eq_some_iff.1 h1).1
  | step h1 _ _ => exact (List.getElem?_eq_some_iff.1 h1).1
theorem Ch.merge {T : List Th} {a b : Nat} {s : Int} {ta tb : Th} (ha : T[a]? = some ta) (hb : T[b]? = some tb) (ua : ta.up = -1) (ub : tb.up = -1) (hab : a ≠ b) {c d r : Nat} (h : Ch T c d r) :
    if r = a ∨ r = b then Ch (mergeT T a b s) c (d + 1) T.length else Ch (mergeT T a b s) c d r := by
  have la := (List.getElem?_eq_some_iff.1 ha).1
  have lb := (List.getElem?_eq_some_iff.1 hb).1
  have hnew : Ch (mergeT T a b s) T.length 0 T.length := .stop (mergeT_new T a b s la lb) rfl
  induction h with
  | @stop c t h1 h2 =>
    split
    · rename_i hc
      rcases hc with rfl | rfl
      · exact .step (mergeT_a T c b s la hab) rfl hnew
      · exact .step (mergeT_b T a c s lb) rfl hnew
    · rename_i hc
      have hc' := not_or.1 hc
      exact .stop ((mergeT_old T a b s c (List.getElem?_eq_some_iff.1 h1).1 hc'.1 hc'.2).trans h1) h2
  | @step c x d r t h1 h2 h3 ih =>
    have hca : c ≠ a := by
      rintro rfl
      rw [h1] at ha
      obtain rfl := Option.some.inj ha
      omega
    have hcb : c ≠ b := by
      rintro rfl
      rw [h1] at hb
      obtain rfl := Option.some.inj hb
      omega
    have h1' := (mergeT_old T a b s c (List.getElem?_eq_some_iff.1 h1).1 hca hcb).trans h1
    split
    · rename_i hc
      rw [if_pos hc] at ih
      exact .step h1' h2 ih
    · rename_i hc
      rw [if_neg hc] at ih
      exact .step h1' h2 ih
theorem Sim.merge {S : Int} {T : List Th} {a b : It} {l : List It} {out : List Int} (h : Sim S T (a :: b :: l) out) :
    Sim S (mergeT T a.id b.id (a.w + b.w)) (l ++ [⟨T.length, a.w + b.w, a.syms ++ b.syms⟩]) (bump out (a.syms ++ b.syms)) := by
  have ma : a ∈ a :: b :: l := List.mem_cons_self ..
  have mb : b ∈ a :: b :: l := List.mem_cons_of_mem _ (List.mem_cons_self ..)
  have ml : ∀ t, t ∈ l → t ∈ a :: b :: l := fun t ht => List.mem_cons_of_mem _ (List.mem_cons_of_mem _ ht)
  have ta := h.it a ma
  have tb := h.it b mb
  have la := (List.getElem?_eq_some_iff.1 ta).1
  have lb := (List.getElem?_eq_some_iff.1 tb).1
  have nod := h.nod
  simp only [List.map_cons, List.nodup_cons, List.mem_cons, List.mem_map, not_or] at nod
  obtain ⟨⟨hab, hal⟩, hbl, hnl⟩ := nod
  have hne : ∀ t ∈ l, t.id ≠ a.id ∧ t.id ≠ b.id := fun t ht => ⟨fun e => hal ⟨t, ht, e⟩, fun e => hbl ⟨t, ht, e⟩⟩
  have hlt : ∀ t ∈ l, t.id < T.length := fun t ht => (List.getElem?_eq_some_iff.1 (h.it t (ml t ht))).1
  refine ⟨?_, ?_, by rw [bump_length]; exact h.sz, by rw [mergeT_length]; have := h.big; omega, fun c hc => ?_, ?_, ?_, ?_, ?_⟩
  · rw [List.map_append, List.nodup_append]
    refine ⟨hnl, by simp, fun x hx y hy => ?_⟩
    obtain ⟨t, ht, rfl⟩ := List.mem_map.1 hx
    simp at hy
    have := hlt t ht
    omega
  · intro t ht
    rcases List.mem_append.1 ht with ht | ht
    · rw [mergeT_old T _ _ _ _ (hlt t ht) (hne t ht).1 (hne t ht).2]
      exact h.it t (ml t ht)
    · rw [List.mem_singleton.1 ht]
      exact mergeT_new T _ _ _ la lb
  · obtain ⟨d, r, h1, h2, h3⟩ := h.ch c hc
    have hm := h2.merge (s := a.w + b.w) ta tb rfl rfl hab
    have e1 := h3 a ma
    have e2 := h3 b mb
    have sa := (h.syms a ma).1
    have sb := (h.syms b mb).1
    have hr : r < T.length := by
      obtain ⟨t, ht, _⟩ := h2.last
      exact (List.getElem?_eq_some_iff.1 ht).1
    rw [bump_get _ _ _ (by rw [h.sz]; exact hc), h1, List.count_append]
    have ca : c ∉ a.syms → a.syms.count c = 0 := fun hn => List.count_eq_zero.2 hn
    have cb : c ∉ b.syms → b.syms.count c = 0 := fun hn => List.count_eq_zero.2 hn
    have ca1 : c ∈ a.syms → a.syms.count c = 1 := fun hm => by rw [sa.count, if_pos hm]
    have cb1 : c ∈ b.syms → b.syms.count c = 1 := fun hm => by rw [sb.count, if_pos hm]
    by_cases c1 : r = a.id
    · rw [if_pos (.inl c1)] at hm
      have q1 := e1.2 c1
      have q2 : c ∉ b.syms := fun q => hab (c1.symm.trans (e2.1 q))
      refine ⟨d + 1, T.length, by rw [ca1 q1, cb q2]; omega, hm, fun t ht => ?_⟩
      rcases List.mem_append.1 ht with ht | ht
      · have := hlt t ht
        refine ⟨fun q => ?_, fun q => by omega⟩
        have := (h3 t (ml t ht)).1 q
        exact absurd (this.symm.trans c1) (hne t ht).1
      · rw [List.mem_singleton.1 ht]
        exact ⟨fun _ => rfl, fun _ => List.mem_append_left _ q1⟩
    · by_cases c2 : r = b.id
      · rw [if_pos (.inr c2)] at hm
        have q1 := e2.2 c2
        have q2 : c ∉ a.syms := fun q => hab ((e1.1 q).symm.trans c2)
        refine ⟨d + 1, T.length, by rw [ca q2, cb1 q1]; omega, hm, fun t ht => ?_⟩
        rcases List.mem_append.1 ht with ht | ht
        · have := hlt t ht
          refine ⟨fun q => ?_, fun q => by omega⟩
          have := (h3 t (ml t ht)).1 q
          exact absurd (this.symm.trans c2) (hne t ht).2
        · rw [List.mem_singleton.1 ht]
          exact ⟨fun _ => rfl, fun _ => List.mem_append_right _ q1⟩
      · rw [if_neg (not_or.2 ⟨c1, c2⟩)] at hm
        have q1 : c ∉ a.syms := fun q => c1 (e1.1 q)
        have q2 : c ∉ b.syms := fun q => c2 (e2.1 q)
        refine ⟨d, r, by rw [ca q1, cb q2]; omega, hm, fun t ht => ?_⟩
        rcases List.mem_append.1 ht with ht | ht
        · exact h3 t (ml t ht)
        · rw [List.mem_singleton.1 ht]
          refine ⟨fun q => ?_, fun q => ?_⟩
          · rcases List.mem_append.1 q with q | q
            · exact absurd q q1
            · exact absurd q q2
          · have : r = T.length := q
            omega
  · intro t ht
    rcases List.mem_append.1 ht with ht | ht
    · exact h.syms t (ml t ht)
    · rw [List.mem_singleton.1 ht]
      refine ⟨?_, fun c hc => ?_⟩
      · rw [List.nodup_append]
        refine ⟨(h.syms a ma).1, (h.syms b mb).1, fun x hx y hy e => ?_⟩
        subst e
        obtain ⟨d, r, _, _, h3⟩ := h.ch x ((h.syms a ma).2 x hx)
        exact hab (((h3 a ma).1 hx).symm.trans ((h3 b mb).1 hy))
      · rcases List.mem_append.1 hc with hc | hc
        · exact (h.syms a ma).2 c hc
        · exact (h.syms b mb).2 c hc
  · intro t ht
    rcases List.mem_append.1 ht with ht | ht
    · exact h.pos t (ml t ht)
    · rw [List.mem_singleton.1 ht]
      have := h.pos a ma
      have := h.pos b mb
      show 0 < a.w + b.w
      omega
  · rw [← h.sum]
    simp only [List.map_append, List.sum_append, List.map_cons, List.map_nil, List.sum_cons, List.sum_nil]
    omega
  · intro x y t ht hy
    by_cases xb : x = b.id
    · subst xb
      rw [mergeT_b T _ _ _ lb] at ht
      obtain rfl := Option.some.inj ht
      have : (T.length : Int) = (y : Int) := hy
      omega
    · by_cases xa : x = a.id
      · subst xa
        rw [mergeT_a T _ _ _ la hab] at ht
        obtain rfl := Option.some.inj ht
        have : (T.length : Int) = (y : Int) := hy
        omega
      · by_cases xn : x < T.length
        · rw [mergeT_old T _ _ _ x xn xa xb] at ht
          exact h.asc x y t ht hy
        · have hx := (List.getElem?_eq_some_iff.1 ht).1
          rw [mergeT_length] at hx
          obtain rfl : x = T.length := by omega
          rw [mergeT_new T _ _ _ la lb] at ht
          obtain rfl := Option.some.inj ht
          have : (-1 : Int) = (y : Int) := hy
          omega
/-- The least of the heap is the least item. -/
theorem Sim.takes {S : Int} {T : List Th} {l : List It} {out : List Int} (h : Sim S T l out) {ids ids' : List Nat} {x : Nat} (hi : ids.Perm (l.map It.id)) (hp : ids.Perm (x :: ids')) (hm : ∀ y ∈ ids', ltT T y x = false) :
    l ≠ [] ∧ x = (least l).id ∧ ids'.Perm ((rest l).map It.id) := by
  have hne : l ≠ [] := by
    rintro rfl
    have h1 := hi.length_eq
    have h2 := hp.length_eq
    rw [List.length_cons] at h2
    rw [List.map_nil, List.length_nil] at h1
    omega
  have hx : x ∈ l.map It.id := hi.mem_iff.1 (hp.mem_iff.2 (List.mem_cons_self ..))
  obtain ⟨t, ht, rfl⟩ := List.mem_map.1 hx
  have hlm := least_mem hne
  have hnod := h.nod
  have e : t.id = (least l).id := by
    have h1 := least_le t ht
    by_cases c : (least l).id = t.id
    · exact c.symm
    · have h2 : (least l).id ∈ ids' := by
        have : (least l).id ∈ t.id :: ids' := hp.mem_iff.1 (hi.mem_iff.2 (List.mem_map.2 ⟨_, hlm, rfl⟩))
        rcases List.mem_cons.1 this with h | h
        · exact absurd h c
        · exact h
      have h3 := hm _ h2
      unfold ltT at h3
      have g1 := h.it t ht
      have g2 := h.it _ hlm
      rw [List.getD_eq_getElem?_getD, List.getD_eq_getElem?_getD, g1, g2] at h3
      have h3 := bef_not.1 h3
      simp only [Option.getD_some] at h3
      unfold befI at h1
      rw [decide_eq_false_iff_not] at h1
      omega
  refine ⟨hne, e, ?_⟩
  have h1 : (l.map It.id).Perm ((least l).id :: (rest l).map It.id) := (rest_perm hne).map _
  have h2 := (hp.symm.trans hi).trans h1
  rw [e] at h2
  exact h2.cons_inv
end Go.Proofs.MathHuff
end
/- slices.symMergeCmpFunc at []int, by its contract: two runs that ascend become one. -/
section
set_option linter.unusedVariables false
set_option linter.unusedSimpArgs false
set_option linter.unusedSectionVars false
namespace Go.Proofs.YtdoooffmaokaeaaGreatDoor.StableB
open Go.RowKit Go.Shelf Go.Lib Go.Sort Go.Proofs Go.Proofs.MathMerge
set_option linter.unusedVariables false
set_option linter.unusedSimpArgs false

theorem lexB_step {L : Int → Int} {x y z : Int} (h : lexB L x z = true) (h2 : lexB L x y = false) : lexB L y z = true := by
  rw [lexB_iff] at *
  rw [lexB_not] at h2
  omega
theorem lexB_step2 {L : Int → Int} {x y z : Int} (h : lexB L x z = false) (h2 : lexB L y x = false) : lexB L y z = false := by
  rw [lexB_not] at *
  omega
theorem lexB_step3 {L : Int → Int} {x y z : Int} (h : lexB L x y = true) (h2 : lexB L z y = false) : lexB L x z = true := by
  rw [lexB_iff] at *
  rw [lexB_not] at h2
  omega
theorem lexB_step4 {L : Int → Int} {x y z : Int} (h : lexB L x y = false) (h2 : lexB L y z = false) : lexB L x z = false := by
  rw [lexB_not] at *
  omega
/-- What the merge is told, once. -/
structure Told (L : Int → Int) (enc : Int → Value) (cf : Int → Int → Int) (g : Nat) (cb : Array Value) (blk off : Nat) (d0 : Array Int) (w0 : World) : Prop where
  R : Row1 enc w0 blk off d0
  eg : ∀ args w, (callFunc g args).run Tryz.prog w = .ok (.enter g args) w
  hC : CmpLays1 Tryz.prog g cb enc cf blk off d0.size w0
  lt : ∀ x y, cf x y < 0 ↔ ltB L x y = true
  sz : d0.size < 4611686018427387904
/-- What comes of it. -/
def Merged (L : Int → Int) (enc : Int → Value) (blk off a b : Nat) (d : Array Int) (w0 : World) (e : Ending) (w' : World) : Prop :=
  e = .returned (.tuple #[]) ∧ ∃ d', PermIn a b d d' ∧ SortedIn (lexB L) a b d' ∧ SW enc w0 blk off d' w'

set_option maxHeartbeats 16000000 in
set_option maxRecDepth 1000000 in
theorem symMerge_one (L : Int → Int) (enc : Int → Value) (cf : Int → Int → Int) (g : Nat) (cb : Array Value) (blk off cap a b sz : Nat) (d0 d : Array Int) (w0 w : World) (T : Told L enc cf g cb blk off d0 w0) (h0 : d0.size = sz)
    (hs : d.size = sz) (S : SW enc w0 blk off d w) (hab : a + 1 < b) (hb : b ≤ sz) (hsr : SortedIn (lexB L) (a + 1) b d) (hx : ∀ k, a + 1 ≤ k → k < b → d[a]! < d[k]!) :
    Calls Tryz.prog 101 #[.slice (some ⟨blk, off, none⟩) sz cap, .int .i64 a, .int .i64 ((a + 1 : Nat) : Int), .int .i64 b, .func (.func g) #[] cb] w (Merged L enc blk off a b d w0) := by
  have mixed := mixed
  have hcl0 := T.R.hO.cells
  simp only [Value.cells] at hcl0
  have hst := T.R.hO.store Tryz.prog
  have eg := T.eg
  have hsz := T.sz
  have S0 : Aside (SW enc w0 blk off d w) := S
  have HT := Lib.hid T
  have HX := Lib.hid hx; have HS := Lib.hid hsr
  clear S T hx hsr
  have z1 : IntKind.i64.wrap (((a + 1 : Nat) : Int) - (a : Int)) = 1 := by rw [IntKind.wrap_i64]; omega
  obtain ⟨m, hm⟩ : ∃ m, m = a + 1 := ⟨_, rfl⟩
  rw [← hm] at z1 ⊢
  have HM := Lib.hid hm
  clear hm
  go_enter Tryz.func101, Tryz.ntmps101
  go_wp2
  go_loopg [10, 11] sz (fun kx s10 s11 wr => ∃ lo hi : Nat, s10 = .int .i64 lo ∧ s11 = .int .i64 hi ∧ m ≤ lo ∧ lo ≤ hi ∧ hi ≤ b ∧ hi - lo ≤ kx ∧ Aside (SW enc w0 blk off d wr) ∧ Hid ((∀ k, m ≤ k → k < lo → lexB L d[k]! d[a]! = true) ∧ (∀ k, hi ≤ k → k < b → lexB L d[k]! d[a]! = false)))
  case atStart =>
    have hm := HM.out
    exact ⟨m, b, rfl, rfl, by omega, by omega, by omega, by omega, S0, Lib.hid ⟨fun k h1 h2 => by omega, fun k h1 h2 => by omega⟩⟩
  case round =>
    clear S0
    obtain ⟨lo, hi, rfl, rfl, hml, hlh, hhb, hkx, S1, I⟩ := hrel
    have hm := HM.out
    by_cases hlt : lo < hi
    · have hlz : (lo : Int) < (hi : Int) := by omega
      obtain ⟨h, hh⟩ : ∃ h, h = (lo + hi) / 2 := ⟨_, rfl⟩
      have zh : ((lo : Int) + (hi : Int)) / 2 = (h : Int) := by omega
      have hh1 : lo ≤ h ∧ h < hi := by omega
      have l1 := S1.out.cl HT.out.R (by omega) h (by omega)
      have l2 := S1.out.cl HT.out.R (by omega) a (by omega)
      obtain ⟨x, hxe⟩ : ∃ x, x = d[h]! := ⟨_, rfl⟩
      obtain ⟨y, hye⟩ : ∃ y, y = d[a]! := ⟨_, rfl⟩
      rw [← hxe] at l1
      rw [← hye] at l2
      have hc := S1.out.cmp HT.out.hC (by omega) x y
      have hlx : ltB L x y = lexB L x y := lt_lex (by rw [hxe, hye]; exact HX.out h (by omega) (by omega))
      have hcf := HT.out.lt x y
      rw [hlx] at hcf
      have bh : (h : Int) < (sz : Int) := by omega
      have ba : (a : Int) < (sz : Int) := by omega
      have HXY := Lib.hid (And.intro hxe hye)
      have HH := Lib.hid hh1
      have sub1 : ∀ k, m ≤ k → k ≤ h → lexB L d[h]! d[k]! = false → True := fun _ _ _ _ => trivial
      clear hxe hye hh hlx hh1 hm sub1
      cases hv : lexB L x y with
      | true =>
        have hv2 : cf x y < 0 := hcf.2 hv
        have hd2 : decide (cf x y < 0) = true := decide_eq_true hv2
        have HV := Lib.hid hv
        clear hcf hv
        go_wp2_with fail
        go_quiet_grown (first | (go_at_fn g; refine Calls.grown_of (hc _ _)))
        have S2 : Aside (SW enc w0 blk off d (grow (wr.drewN nq) osq)) := S1.out.grown nq osq
        clear l1 l2 hc S1
        generalize grow (wr.drewN nq) osq = w2 at S2 ⊢
        clear nq osq zh
        go_wp2
        go_roundg (hi - (h + 1))
        case measure => have := HH.out; omega
        case rel =>
          have hh := HH.out
          have hm := HM.out
          refine ⟨h + 1, hi, by go_num, rfl, by omega, by omega, hhb, by omega, S2, Lib.hid ⟨fun k h1 h2 => ?_, I.out.2⟩⟩
          by_cases e : k < h
          · refine lexB_step ?_ (HS.out k h (by omega) e (by omega))
            rw [← HXY.out.1, ← HXY.out.2]
            exact HV.out
          · rw [show k = h by omega, ← HXY.out.1, ← HXY.out.2]
            exact HV.out
      | false =>
        have hv2 : ¬ cf x y < 0 := fun h => by rw [hcf.1 h] at hv; cases hv
        have hd2 : decide (cf x y < 0) = false := decide_eq_false hv2
        have HV := Lib.hid hv
        clear hcf hv
        go_wp2_with fail
        go_quiet_grown (first | (go_at_fn g; refine Calls.grown_of (hc _ _)))
        have S2 : Aside (SW enc w0 blk off d (grow (wr.drewN nq) osq)) := S1.out.grown nq osq
        clear l1 l2 hc S1
        generalize grow (wr.drewN nq) osq = w2 at S2 ⊢
        clear nq osq zh
        go_wp2
        go_roundg (h - lo)
        case measure => have := HH.out; omega
        case rel =>
          have hh := HH.out
          have hm := HM.out
          refine ⟨lo, h, rfl, rfl, hml, by omega, by omega, by omega, S2, Lib.hid ⟨I.out.1, fun k h1 h2 => ?_⟩⟩
          by_cases e : h < k
          · refine lexB_step2 ?_ (HS.out h k (by omega) e h2)
            rw [← HXY.out.1, ← HXY.out.2]
            exact HV.out
          · rw [show k = h by omega, ← HXY.out.1, ← HXY.out.2]
            exact HV.out
    · obtain rfl : lo = hi := by omega
      have hlz : ¬ (lo : Int) < (lo : Int) := by omega
      obtain ⟨q, hq⟩ : ∃ q, q + 1 = lo := ⟨lo - 1, by omega⟩
      have HQ := Lib.hid hq
      have zq : IntKind.i64.wrap ((lo : Int) - 1) = (q : Int) := by rw [IntKind.wrap_i64]; omega
      have haq : a ≤ q := by omega
      have hqb : q < b := by omega
      clear hm hq
      go_wp2
      go_loopg [13] sz (fun kx s13 wr => ∃ (k : Nat) (dk : Array Int), s13 = .int .i64 k ∧ a ≤ k ∧ k ≤ q ∧ q - k ≤ kx ∧ dk.size = sz ∧ Aside (SW enc w0 blk off dk wr) ∧ Hid (Up d dk a k ∧ PermIn a b d dk))
      case atStart => exact ⟨a, d, rfl, by omega, haq, by omega, hs, S1, Lib.hid ⟨Up.start d a, permIn_refl d a b⟩⟩
      case round =>
        clear S1
        obtain ⟨k, dk, rfl, hak, hkq, hkx, hds, S1, HU⟩ := hrel
        by_cases hlt : k < q
        · have hkz : (k : Int) < (q : Int) := by omega
          obtain ⟨jN, hjN⟩ : ∃ q, q = k + 1 := ⟨_, rfl⟩
          have ra : IntKind.i64.wrap ((k : Int) + 1) = (jN : Int) := by rw [IntKind.wrap_i64]; omega
          have ba : (k : Int) < (sz : Int) := by omega
          have bc : (jN : Int) < (sz : Int) := by omega
          obtain ⟨x, hx⟩ : ∃ x, x = dk[k]! := ⟨_, rfl⟩
          obtain ⟨y, hy⟩ : ∃ x, x = dk[k + 1]! := ⟨_, rfl⟩
          have S2 : Aside (SW enc w0 blk off (swp dk k (k + 1)) ((wr.setCell ⟨blk, off + k, none⟩ (enc y)).setCell ⟨blk, off + jN, none⟩ (enc x)).drew) := by
            rw [hjN, hx, hy]; exact S1.out.swapped HT.out.R k (k + 1) (by omega) (by omega)
          have c1 := S1.out.c1 HT.out.R (by omega) k (by omega)
          have c2 := S1.out.c1 HT.out.R (by omega) (k + 1) (by omega)
          have f1 := S1.out.f1 HT.out.R (by omega) k (by omega)
          have f2 := S1.out.f1 HT.out.R (by omega) (k + 1) (by omega)
          obtain ⟨u, c3⟩ := S1.out.c2 HT.out.R (by omega) k (k + 1) (by omega) (by omega) (enc y)
          rw [← hy] at c2
          rw [← hjN] at c3 c2 f2
          rw [← hx] at c1
          have HJ := Lib.hid hjN
          clear S1 hx hy hjN
          go_wp2_with fail
          go_big_region_o
          clear c1 c2 c3 f1 f2
          generalize ((wr.setCell ⟨blk, off + k, none⟩ (enc y)).setCell ⟨blk, off + jN, none⟩ (enc x)).drew = w2 at S2 ⊢
          go_wp2
          go_roundg (q - (k + 1))
          case measure => omega
          case rel =>
            have := HJ.out
            exact ⟨k + 1, _, by first | go_num | (congr 1; omega), by omega, by omega, by omega, by rw [size_swp]; exact hds, S2, Lib.hid ⟨HU.out.1.step hak (by omega), permIn_trans _ _ _ a b HU.out.2 (swp_permIn dk a b k (k + 1) (by omega) (by omega) (by omega) (by omega) (by omega))⟩⟩
        · obtain rfl : k = q := by omega
          have hkz : ¬ (k : Int) < (k : Int) := by omega
          go_wp2
          refine bodyPost_ret (results_none rfl _ _ _) rfl ?_
          have hq := HQ.out
          have hm := HM.out
          refine ⟨rfl, dk, HU.out.2, HU.out.1.sorted L hak hqb HS.out (fun j h1 h2 => I.out.1 j (by omega) (by omega)) (fun j h1 h2 => I.out.2 j (by omega) h2), S1.out⟩

set_option maxHeartbeats 16000000 in
set_option maxRecDepth 1000000 in
theorem symMerge_last (L : Int → Int) (enc : Int → Value) (cf : Int → Int → Int) (g : Nat) (cb : Array Value) (blk off cap a m sz : Nat) (d0 d : Array Int) (w0 w : World) (T : Told L enc cf g cb blk off d0 w0) (h0 : d0.size = sz)
    (hs : d.size = sz) (S : SW enc w0 blk off d w) (hab : a + 1 < m) (hb : m + 1 ≤ sz) (hsr : SortedIn (lexB L) a m d) (hx : ∀ k, a ≤ k → k < m → d[k]! < d[m]!) :
    Calls Tryz.prog 101 #[.slice (some ⟨blk, off, none⟩) sz cap, .int .i64 a, .int .i64 m, .int .i64 ((m + 1 : Nat) : Int), .func (.func g) #[] cb] w (Merged L enc blk off a (m + 1) d w0) := by
  have mixed := mixed
  have hcl0 := T.R.hO.cells
  simp only [Value.cells] at hcl0
  have hst := T.R.hO.store Tryz.prog
  have eg := T.eg
  have hsz := T.sz
  have S0 : Aside (SW enc w0 blk off d w) := S
  have HT := Lib.hid T
  have HX := Lib.hid hx; have HS := Lib.hid hsr
  clear S T hx hsr
  obtain ⟨b, hm⟩ : ∃ b, b = m + 1 := ⟨_, rfl⟩
  obtain ⟨n1, hn1⟩ : ∃ n1, n1 + a = m := ⟨m - a, by omega⟩
  have z0 : IntKind.i64.wrap ((m : Int) - (a : Int)) = (n1 : Int) := by rw [IntKind.wrap_i64]; omega
  have z01 : ¬ (n1 : Int) = 1 := by omega
  have z02 : ((n1 : Int) == 1) = false := by simp only [beq_eq_false_iff_ne, ne_eq]; omega
  have z1 : IntKind.i64.wrap ((b : Int) - (m : Int)) = 1 := by rw [IntKind.wrap_i64]; omega
  rw [← hm]
  have HM := Lib.hid hm
  clear hm hn1
  go_enter Tryz.func101, Tryz.ntmps101
  go_wp2
  go_loopg [14, 15] sz (fun kx s14 s15 wr => ∃ lo hi : Nat, s14 = .int .i64 lo ∧ s15 = .int .i64 hi ∧ a ≤ lo ∧ lo ≤ hi ∧ hi ≤ m ∧ hi - lo ≤ kx ∧ Aside (SW enc w0 blk off d wr) ∧ Hid ((∀ k, a ≤ k → k < lo → lexB L d[m]! d[k]! = false) ∧ (∀ k, hi ≤ k → k < m → lexB L d[m]! d[k]! = true)))
  case atStart =>
    have hm := HM.out
    exact ⟨a, m, rfl, rfl, by omega, by omega, by omega, by omega, S0, Lib.hid ⟨fun k h1 h2 => by omega, fun k h1 h2 => by omega⟩⟩
  case round =>
    clear S0
    obtain ⟨lo, hi, rfl, rfl, hml, hlh, hhb, hkx, S1, I⟩ := hrel
    have hm := HM.out
    by_cases hlt : lo < hi
    · have hlz : (lo : Int) < (hi : Int) := by omega
      obtain ⟨h, hh⟩ : ∃ h, h = (lo + hi) / 2 := ⟨_, rfl⟩
      have zh : ((lo : Int) + (hi : Int)) / 2 = (h : Int) := by omega
      have hh1 : lo ≤ h ∧ h < hi := by omega
      have l1 := S1.out.cl HT.out.R (by omega) h (by omega)
      have l2 := S1.out.cl HT.out.R (by omega) m (by omega)
      obtain ⟨y, hye⟩ : ∃ y, y = d[h]! := ⟨_, rfl⟩
      obtain ⟨x, hxe⟩ : ∃ x, x = d[m]! := ⟨_, rfl⟩
      rw [← hye] at l1
      rw [← hxe] at l2
      have hc := S1.out.cmp HT.out.hC (by omega) x y
      have hlx : ltB L x y = lexB L x y := lt_lex (by rw [hxe, hye]; exact HX.out h (by omega) (by omega))
      have hcf := HT.out.lt x y
      rw [hlx] at hcf
      have bh : (h : Int) < (sz : Int) := by omega
      have ba : (m : Int) < (sz : Int) := by omega
      have HXY := Lib.hid (And.intro hxe hye)
      have HH := Lib.hid hh1
      have sub1 : ∀ k, m ≤ k → k ≤ h → lexB L d[h]! d[k]! = false → True := fun _ _ _ _ => trivial
      clear hxe hye hh hlx hh1 hm sub1
      cases hv : lexB L x y with
      | true =>
        have hv2 : cf x y < 0 := hcf.2 hv
        have hd2 : decide (cf x y < 0) = true := decide_eq_true hv2
        have HV := Lib.hid hv
        clear hcf hv
        go_wp2_with fail
        go_quiet_grown (first | (go_at_fn g; refine Calls.grown_of (hc _ _)))
        have S2 : Aside (SW enc w0 blk off d (grow (wr.drewN nq) osq)) := S1.out.grown nq osq
        clear l1 l2 hc S1
        generalize grow (wr.drewN nq) osq = w2 at S2 ⊢
        clear nq osq zh
        go_wp2
        go_roundg (h - lo)
        case measure => have := HH.out; omega
        case rel =>
          have hh := HH.out
          have hm := HM.out
          refine ⟨lo, h, rfl, rfl, hml, by omega, by omega, by omega, S2, Lib.hid ⟨I.out.1, fun k h1 h2 => ?_⟩⟩
          by_cases e : h < k
          · refine lexB_step3 ?_ (HS.out h k (by omega) e (by omega))
            rw [← HXY.out.1, ← HXY.out.2]
            exact HV.out
          · rw [show k = h by omega, ← HXY.out.1, ← HXY.out.2]
            exact HV.out
      | false =>
        have hv2 : ¬ cf x y < 0 := fun h => by rw [hcf.1 h] at hv; cases hv
        have hd2 : decide (cf x y < 0) = false := decide_eq_false hv2
        have HV := Lib.hid hv
        clear hcf hv
        go_wp2_with fail
        go_quiet_grown (first | (go_at_fn g; refine Calls.grown_of (hc _ _)))
        have S2 : Aside (SW enc w0 blk off d (grow (wr.drewN nq) osq)) := S1.out.grown nq osq
        clear l1 l2 hc S1
        generalize grow (wr.drewN nq) osq = w2 at S2 ⊢
        clear nq osq zh
        go_wp2
        go_roundg (hi - (h + 1))
        case measure => have := HH.out; omega
        case rel =>
          have hh := HH.out
          have hm := HM.out
          refine ⟨h + 1, hi, by go_num, rfl, by omega, by omega, hhb, by omega, S2, Lib.hid ⟨fun k h1 h2 => ?_, I.out.2⟩⟩
          by_cases e : k < h
          · refine lexB_step4 ?_ (HS.out k h (by omega) e (by omega))
            rw [← HXY.out.1, ← HXY.out.2]
            exact HV.out
          · rw [show k = h by omega, ← HXY.out.1, ← HXY.out.2]
            exact HV.out
    · obtain rfl : lo = hi := by omega
      have hlz : ¬ (lo : Int) < (lo : Int) := by omega
      clear hm
      go_wp2
      go_loopg [17] sz (fun kx s17 wr => ∃ (k : Nat) (dk : Array Int), s17 = .int .i64 k ∧ lo ≤ k ∧ k ≤ m ∧ k - lo ≤ kx ∧ dk.size = sz ∧ Aside (SW enc w0 blk off dk wr) ∧ Hid (Down d dk m k ∧ PermIn a (m + 1) d dk))
      case atStart => exact ⟨m, d, rfl, hhb, Nat.le_refl _, by omega, hs, S1, Lib.hid ⟨Down.start d m, permIn_refl d a (m + 1)⟩⟩
      case round =>
        clear S1
        obtain ⟨k, dk, rfl, hlk, hkm, hkx, hds, S1, HU⟩ := hrel
        by_cases hlt : lo < k
        · have hkz : (lo : Int) < (k : Int) := by omega
          obtain ⟨jN, hjN⟩ : ∃ q, q + 1 = k := ⟨k - 1, by omega⟩
          have ra : IntKind.i64.wrap ((k : Int) - 1) = (jN : Int) := by rw [IntKind.wrap_i64]; omega
          have ba : (k : Int) < (sz : Int) := by omega
          have bc : (jN : Int) < (sz : Int) := by omega
          obtain ⟨x, hx⟩ : ∃ x, x = dk[k]! := ⟨_, rfl⟩
          obtain ⟨y, hy⟩ : ∃ x, x = dk[jN]! := ⟨_, rfl⟩
          have S2 : Aside (SW enc w0 blk off (swp dk k jN) ((wr.setCell ⟨blk, off + k, none⟩ (enc y)).setCell ⟨blk, off + jN, none⟩ (enc x)).drew) := by
            rw [hx, hy]; exact S1.out.swapped HT.out.R k jN (by omega) (by omega)
          have c1 := S1.out.c1 HT.out.R (by omega) k (by omega)
          have c2 := S1.out.c1 HT.out.R (by omega) jN (by omega)
          have f1 := S1.out.f1 HT.out.R (by omega) k (by omega)
          have f2 := S1.out.f1 HT.out.R (by omega) jN (by omega)
          obtain ⟨u, c3⟩ := S1.out.c2 HT.out.R (by omega) k jN (by omega) (by omega) (enc y)
          rw [← hy] at c2
          rw [← hx] at c1
          have HJ := Lib.hid hjN
          clear S1 hx hy hjN
          go_wp2_with fail
          go_big_region_o
          clear c1 c2 c3 f1 f2
          generalize ((wr.setCell ⟨blk, off + k, none⟩ (enc y)).setCell ⟨blk, off + jN, none⟩ (enc x)).drew = w2 at S2 ⊢
          go_wp2
          go_roundg (jN - lo)
          case measure => have := HJ.out; omega
          case rel =>
            have hj := HJ.out
            subst hj
            exact ⟨jN, _, rfl, by omega, by omega, by omega, by rw [size_swp]; exact hds, S2, Lib.hid ⟨HU.out.1.step hkm (by omega), permIn_trans _ _ _ a (m + 1) HU.out.2 (swp_permIn dk a (m + 1) (jN + 1) jN (by omega) (by omega) (by omega) (by omega) (by omega))⟩⟩
        · obtain rfl : lo = k := by omega
          have hkz : ¬ (lo : Int) < (lo : Int) := by omega
          go_wp2
          refine bodyPost_ret (results_none rfl _ _ _) rfl ?_
          have hm := HM.out
          subst hm
          refine ⟨rfl, dk, HU.out.2, HU.out.1.sorted L hml hhb HS.out (fun j h1 h2 => I.out.1 j h1 h2) (fun j h1 h2 => I.out.2 j h1 h2), S1.out⟩
end Go.Proofs.YtdoooffmaokaeaaGreatDoor.StableB
end
