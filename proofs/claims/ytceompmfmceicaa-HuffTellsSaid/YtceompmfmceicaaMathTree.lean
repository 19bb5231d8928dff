import Derived.Test.YtceompmfmceicaaMathAll
/- Huffman's merges are best, in plain Lean: whatever lengths keep Kraft's bound cost no less than all merges together. No program. -/
namespace Go.Proofs.MathOpt
set_option linter.unusedVariables false

/-- Weights with lengths: what they cost, and what they take of 2 ^ M. -/
def cost : List (Nat × Nat) → Nat
  | [] => 0
  | p :: l => p.1 * p.2 + cost l
def kraft (M : Nat) : List (Nat × Nat) → Nat
  | [] => 0
  | p :: l => 2 ^ (M - p.2) + kraft M l
theorem cost_perm {a b : List (Nat × Nat)} (h : a.Perm b) : cost a = cost b := by
  induction h with
  | nil => rfl
  | cons x _ ih => simp only [cost, ih]
  | swap x y l => simp only [cost]; omega
  | trans _ _ h1 h2 => exact h1.trans h2
theorem kraft_perm (M : Nat) {a b : List (Nat × Nat)} (h : a.Perm b) : kraft M a = kraft M b := by
  induction h with
  | nil => rfl
  | cons x _ ih => simp only [kraft, ih]
  | swap x y l => simp only [kraft]; omega
  | trans _ _ h1 h2 => exact h1.trans h2
/-- One of the first parts, taken out. -/
theorem take_out {α β : Type} [DecidableEq α] (f : α → β) {P : List α} {b : β} {l : List β} (h : (P.map f).Perm (b :: l)) : ∃ p R, P.Perm (p :: R) ∧ f p = b ∧ (R.map f).Perm l := by
  have hb : b ∈ P.map f := h.mem_iff.2 (List.mem_cons_self ..)
  obtain ⟨p, hp, e⟩ := List.mem_map.1 hb
  have h1 := List.perm_cons_erase hp
  refine ⟨p, P.erase p, h1, e, ?_⟩
  have h2 := (h1.map f).symm.trans h
  rw [List.map_cons, e] at h2
  exact h2.cons_inv
theorem top_of (L : Nat) : ∀ (P : List (Nat × Nat)), P ≠ [] → ∃ m, (∃ p ∈ P, p.2 = m) ∧ ∀ p ∈ P, p.2 ≤ m
  | [], h => absurd rfl h
  | [p], _ => ⟨p.2, ⟨p, List.mem_singleton.2 rfl, rfl⟩, fun q hq => by rw [List.mem_singleton.1 hq]; exact Nat.le_refl _⟩
  | p :: q :: l, _ => by
    obtain ⟨m, ⟨r, hr, e⟩, hm⟩ := top_of L (q :: l) (by simp)
    by_cases h : p.2 ≤ m
    · refine ⟨m, ⟨r, List.mem_cons_of_mem _ hr, e⟩, fun x hx => ?_⟩
      rcases List.mem_cons.1 hx with rfl | hx
      · exact h
      · exact hm x hx
    · refine ⟨p.2, ⟨p, List.mem_cons_self .., rfl⟩, fun x hx => ?_⟩
      rcases List.mem_cons.1 hx with rfl | hx
      · exact Nat.le_refl _
      · have := hm x hx; omega
/-- The least weight gets the greatest length, by an exchange. -/
theorem raise (M : Nat) {p : Nat × Nat} {S : List (Nat × Nat)} {L : Nat} (hmin : ∀ x ∈ S, p.1 ≤ x.1) (hp : p.2 ≤ L) (hS : p.2 = L ∨ ∃ x ∈ S, x.2 = L) :
    ∃ S', (S'.map Prod.fst).Perm (S.map Prod.fst) ∧ (L :: S'.map Prod.snd).Perm (p.2 :: S.map Prod.snd) ∧ p.1 * L + cost S' ≤ p.1 * p.2 + cost S := by
  rcases hS with h | ⟨x, hx, e⟩
  · exact ⟨S, List.Perm.refl _, by rw [h], by rw [h]; exact Nat.le_refl _⟩
  · have h1 := List.perm_cons_erase hx
    have hx1 := hmin x hx
    refine ⟨(x.1, p.2) :: S.erase x, ?_, ?_, ?_⟩
    · refine List.Perm.trans ?_ (h1.map Prod.fst).symm
      rw [List.map_cons, List.map_cons]
    · rw [List.map_cons]
      refine (List.Perm.swap _ _ _).trans (List.Perm.cons _ ?_)
      refine List.Perm.trans ?_ (h1.map Prod.snd).symm
      rw [List.map_cons, e]
    · rw [cost_perm h1]
      simp only [cost]
      rw [e]
      obtain ⟨d, hd⟩ := Nat.exists_eq_add_of_le hx1
      obtain ⟨c, hc⟩ := Nat.exists_eq_add_of_le hp
      rw [hd, hc]
      simp only [Nat.mul_add, Nat.add_mul]
      have : 0 ≤ d * c := Nat.zero_le _
      omega
theorem kraft_snd (M : Nat) : ∀ (P Q : List (Nat × Nat)), (P.map Prod.snd).Perm (Q.map Prod.snd) → kraft M P = kraft M Q := by
  have h : ∀ P : List (Nat × Nat), kraft M P = ((P.map Prod.snd).map fun l => 2 ^ (M - l)).sum := by
    intro P
    induction P with
    | nil => rfl
    | cons p l ih => simp only [kraft, List.map_cons, List.sum_cons, ih]
  intro P Q hp
  rw [h, h]
  exact (hp.map _).sum_nat
def total (P : List (Nat × Nat)) : Nat := (P.map Prod.snd).sum
theorem kraft_dvd (M L : Nat) : ∀ (P : List (Nat × Nat)), (∀ p ∈ P, p.2 < L) → L ≤ M → 2 ^ (M - L + 1) ∣ kraft M P
  | [], _, _ => Nat.dvd_zero _
  | p :: l, h, hL => by
    have h1 := h p (List.mem_cons_self ..)
    refine Nat.dvd_add (Nat.pow_dvd_pow 2 (by omega)) (kraft_dvd M L l (fun q hq => h q (List.mem_cons_of_mem _ hq)) hL)
/-- Two of the least weights get the greatest length. -/
theorem tops (M : Nat) : ∀ (n : Nat) (a b : Nat × Nat) (R : List (Nat × Nat)), total (a :: b :: R) ≤ n → a.1 ≤ b.1 → (∀ x ∈ R, b.1 ≤ x.1) → (∀ p ∈ a :: b :: R, p.2 ≤ M) → kraft M (a :: b :: R) ≤ 2 ^ M →
    ∃ L R', L + 1 ≤ M ∧ (R'.map Prod.fst).Perm (R.map Prod.fst) ∧ (∀ p ∈ R', p.2 ≤ M) ∧ kraft M ((a.1, L + 1) :: (b.1, L + 1) :: R') ≤ 2 ^ M ∧ cost ((a.1, L + 1) :: (b.1, L + 1) :: R') ≤ cost (a :: b :: R) := by
  intro n
  induction n with
  | zero =>
    intro a b R hn _ _ hM hk
    have h1 : a.2 = 0 ∧ b.2 = 0 := by
      simp only [total, List.map_cons, List.sum_cons] at hn
      omega
    simp only [kraft] at hk
    rw [h1.1, h1.2] at hk
    have := Nat.two_pow_pos M
    simp only [Nat.sub_zero] at hk
    omega
  | succ n ih =>
    intro a b R hn hab hbR hM hk
    obtain ⟨L, ⟨t, ht, et⟩, hL⟩ := top_of 0 (a :: b :: R) (by simp)
    have hLM : L ≤ M := by rw [← et]; exact hM t ht
    have haR : ∀ x ∈ b :: R, a.1 ≤ x.1 := by
      intro x hx
      rcases List.mem_cons.1 hx with rfl | hx
      · exact hab
      · exact Nat.le_trans hab (hbR x hx)
    obtain ⟨S, s1, s2, s3⟩ := raise M (p := a) (S := b :: R) (L := L) haR (hL a (List.mem_cons_self ..)) (by
      rcases List.mem_cons.1 ht with rfl | ht
      · exact .inl et
      · exact .inr ⟨t, ht, et⟩)
    obtain ⟨b', R1, q1, q2, q3⟩ := take_out Prod.fst (P := S) (b := b.1) (l := R.map Prod.fst) (by rw [List.map_cons] at s1; exact s1)
    have hlen : ∀ p ∈ (a.1, L) :: S, p.2 ≤ L := by
      intro p hp
      have h1 : p.2 ∈ L :: S.map Prod.snd := by
        rcases List.mem_cons.1 hp with rfl | hp
        · exact List.mem_cons_self ..
        · exact List.mem_cons_of_mem _ (List.mem_map.2 ⟨p, hp, rfl⟩)
      have h2 := s2.mem_iff.1 h1
      rcases List.mem_cons.1 h2 with e | h2
      · rw [e]; exact hL a (List.mem_cons_self ..)
      · obtain ⟨q, hq, e⟩ := List.mem_map.1 h2
        rw [← e]
        exact hL q (List.mem_cons_of_mem _ hq)
    have hk1 : kraft M ((a.1, L) :: S) = kraft M (a :: b :: R) := kraft_snd M _ _ (by rw [List.map_cons, List.map_cons]; exact s2)
    have hkS : kraft M S = kraft M (b' :: R1) := kraft_perm M q1
    have hcS : cost S = cost (b' :: R1) := cost_perm q1
    have hbR1 : ∀ x ∈ R1, b'.1 ≤ x.1 := by
      intro x hx
      rw [q2]
      have : x.1 ∈ R.map Prod.fst := q3.mem_iff.1 (List.mem_map.2 ⟨x, hx, rfl⟩)
      obtain ⟨y, hy, e⟩ := List.mem_map.1 this
      rw [← e]
      exact hbR y hy
    have hb'L : b'.2 ≤ L := hlen b' (List.mem_cons_of_mem _ (q1.mem_iff.2 (List.mem_cons_self ..)))
    by_cases hsec : b'.2 = L ∨ ∃ x ∈ R1, x.2 = L
    · obtain ⟨R2, r1, r2, r3⟩ := raise M (p := b') (S := R1) (L := L) hbR1 hb'L hsec
      have hk2 : kraft M ((b.1, L) :: R2) = kraft M (b' :: R1) := kraft_snd M _ _ (by rw [List.map_cons, List.map_cons]; exact r2)
      have hL0 : L ≠ 0 := by
        intro e
        subst e
        simp only [kraft] at hk1 hk2 hk hkS
        have := Nat.two_pow_pos M
        simp only [Nat.sub_zero] at *
        omega
      obtain ⟨L', rfl⟩ : ∃ L', L = L' + 1 := ⟨L - 1, by omega⟩
      refine ⟨L', R2, hLM, r1.trans q3, ?_, ?_, ?_⟩
      · intro p hp
        have h1 : p.2 ∈ (L' + 1) :: R2.map Prod.snd := List.mem_cons_of_mem _ (List.mem_map.2 ⟨p, hp, rfl⟩)
        have h2 := r2.mem_iff.1 h1
        rcases List.mem_cons.1 h2 with e | h2
        · omega
        · obtain ⟨q, hq, e⟩ := List.mem_map.1 h2
          have := hlen q (List.mem_cons_of_mem _ (q1.mem_iff.2 (List.mem_cons_of_mem _ hq)))
          omega
      · rw [← hk1] at hk
        simp only [kraft] at hk hk2 hkS ⊢
        omega
      · simp only [cost] at s3 hcS ⊢
        rw [q2] at r3 hcS
        omega
    · have hlt : ∀ p ∈ S, p.2 < L := by
        intro p hp
        have h1 := hlen p (List.mem_cons_of_mem _ hp)
        rcases List.mem_cons.1 (q1.mem_iff.1 hp) with rfl | h2
        · have : p.2 ≠ L := fun e => hsec (.inl e)
          omega
        · have : p.2 ≠ L := fun e => hsec (.inr ⟨p, h2, e⟩)
          omega
      have hL0 : L ≠ 0 := by
        intro e
        have := hlt b' (q1.mem_iff.2 (List.mem_cons_self ..))
        omega
      have hpow : 2 ^ (M - L + 1) = 2 * 2 ^ (M - L) := by rw [Nat.pow_succ]; omega
      have hkr : kraft M ((a.1, L - 1) :: S) ≤ 2 ^ M := by
        obtain ⟨c, hc⟩ := kraft_dvd M L S hlt hLM
        obtain ⟨d, hd⟩ : 2 ^ (M - L + 1) ∣ 2 ^ M := Nat.pow_dvd_pow 2 (by omega)
        rw [← hk1] at hk
        simp only [kraft] at hk ⊢
        rw [show M - (L - 1) = M - L + 1 by omega, hc, hd]
        rw [hc, hd] at hk
        have hpos := Nat.two_pow_pos (M - L)
        have hcd : c < d := by
          rcases Nat.lt_or_ge c d with h | h
          · exact h
          · have := Nat.mul_le_mul_left (2 ^ (M - L + 1)) h
            omega
        have := Nat.mul_le_mul_left (2 ^ (M - L + 1)) (show c + 1 ≤ d from hcd)
        rw [Nat.mul_add, Nat.mul_one] at this
        omega
      have htot : total ((a.1, L - 1) :: b' :: R1) ≤ n := by
        have h1 := s2.sum_nat
        have h2 : (S.map Prod.snd).sum = ((b' :: R1).map Prod.snd).sum := (q1.map Prod.snd).sum_nat
        simp only [total, List.map_cons, List.sum_cons] at hn h1 h2 ⊢
        omega
      have hperm : List.Perm ((a.1, L - 1) :: S) ((a.1, L - 1) :: b' :: R1) := List.Perm.cons _ q1
      have hcost : cost ((a.1, L - 1) :: b' :: R1) ≤ cost (a :: b :: R) := by
        rw [← cost_perm hperm]
        have := Nat.mul_le_mul_left a.1 (show L - 1 ≤ L by omega)
        simp only [cost] at s3 ⊢
        omega
      obtain ⟨L', R', h1, h2, h3, h4, h5⟩ := ih (a.1, L - 1) b' R1 htot (by rw [q2]; exact hab) hbR1 (fun p hp => by
        have hp' := hperm.mem_iff.2 hp
        rcases List.mem_cons.1 hp' with rfl | hp'
        · show L - 1 ≤ M; omega
        · have := hlt p hp'; omega) (by rw [← kraft_perm M hperm]; exact hkr)
      refine ⟨L', R', h1, h2.trans q3, h3, ?_, ?_⟩
      · rw [q2] at h4; exact h4
      · rw [q2] at h5; exact Nat.le_trans h5 hcost
/-- Merges: two of the least weights become one, until there is one. -/
inductive Merge : List Nat → Nat → Prop
  | one (w : Nat) : Merge [w] 0
  | perm {l m : List Nat} {k : Nat} : l.Perm m → Merge l k → Merge m k
  | step {a b : Nat} {l : List Nat} {k : Nat} : a ≤ b → (∀ x ∈ l, b ≤ x) → Merge ((a + b) :: l) k → Merge (a :: b :: l) (k + (a + b))
theorem best {W : List Nat} {k : Nat} (h : Merge W k) : ∀ (M : Nat) (P : List (Nat × Nat)), (P.map Prod.fst).Perm W → (∀ p ∈ P, p.2 ≤ M) → kraft M P ≤ 2 ^ M → k ≤ cost P := by
  induction h with
  | one w => intro M P _ _ _; exact Nat.zero_le _
  | perm hp _ ih => intro M P h1 h2 h3; exact ih M P (h1.trans hp.symm) h2 h3
  | @step a b l k hab hl _ ih =>
    intro M P h1 h2 h3
    obtain ⟨p, P1, e1, e2, e3⟩ := take_out Prod.fst h1
    obtain ⟨q, P2, f1, f2, f3⟩ := take_out Prod.fst e3
    have hP : P.Perm (p :: q :: P2) := e1.trans (f1.cons _)
    obtain ⟨L, R', r1, r2, r3, r4, r5⟩ := tops M _ p q P2 (Nat.le_refl _) (by rw [e2, f2]; exact hab) (fun x hx => by
      rw [f2]
      exact hl x.1 (f3.mem_iff.1 (List.mem_map.2 ⟨x, hx, rfl⟩))) (fun x hx => h2 x (hP.mem_iff.2 hx)) (by rw [← kraft_perm M hP]; exact h3)
    rw [cost_perm hP]
    refine Nat.le_trans ?_ r5
    have hk : kraft M ((a + b, L) :: R') ≤ 2 ^ M := by
      simp only [kraft] at r4 ⊢
      have : 2 ^ (M - L) = 2 ^ (M - (L + 1)) + 2 ^ (M - (L + 1)) := by
        rw [show M - L = M - (L + 1) + 1 by omega, Nat.pow_succ]
        omega
      omega
    have := ih M ((a + b, L) :: R') (by
      rw [List.map_cons]
      exact (r2.trans f3).cons _) (fun x hx => by
      rcases List.mem_cons.1 hx with rfl | hx
      · show L ≤ M; omega
      · exact r3 x hx) hk
    simp only [cost] at this ⊢
    rw [e2, f2]
    simp only [Nat.mul_add, Nat.add_mul, Nat.mul_one] at this ⊢
    omega
end Go.Proofs.MathOpt
/- What the merges of Huffman's items give: depths, their cost, Kraft's sum, how deep they can be. Plain Lean; no program. -/
namespace Go.Proofs.MathTree
open Go.Proofs.MathHuff (It hgo bump befI leastAt least rest join least_le least_mem rest_perm rest_length bump_length bump_get cnt begin_ noughts lens)
open Go.Proofs.MathOpt (Merge cost kraft cost_perm kraft_perm best)
set_option linter.unusedVariables false

def wN (t : It) : Nat := t.w.toNat
def pairs (l : List It) (d : Nat → Nat) : List (Nat × Nat) := l.map fun t => (wN t, d t.id)
/-- Fibonacci's numbers, from two of them. -/
def G : Nat → Nat → Nat → Nat
  | 0, _, u => u
  | d + 1, m, u => G d u (u + m)
structure Fin (l : List It) (out out' : List Int) (d : Nat → Nat) : Prop where
  sz : out'.length = out.length
  on : ∀ t ∈ l, ∀ c ∈ t.syms, out'.getD c 0 = out.getD c 0 + (d t.id : Int)
  off : ∀ c, c < out.length → (∀ t ∈ l, c ∉ t.syms) → out'.getD c 0 = out.getD c 0
  mer : Merge (l.map wN) (cost (pairs l d))
  kra : ∀ M, (∀ t ∈ l, d t.id ≤ M) → kraft M (pairs l d) = 2 ^ M
  fib : ∀ m u t, t ∈ l → (∀ s ∈ l, m ≤ wN s) → m ≤ u → u ≤ wN t → G (d t.id) m u ≤ (l.map wN).sum
  ge : 2 ≤ l.length → ∀ t ∈ l, 1 ≤ d t.id
structure Good (n next : Nat) (l : List It) : Prop where
  nod : (l.map It.id).Nodup
  lt : ∀ t ∈ l, t.id < next
  snd : ∀ t ∈ l, t.syms.Nodup ∧ ∀ c ∈ t.syms, c < n
  dis : ∀ t ∈ l, ∀ s ∈ l, t.id ≠ s.id → ∀ c ∈ t.syms, c ∉ s.syms
  pos : ∀ t ∈ l, 0 < t.w
theorem Good.perm {n next : Nat} {l m : List It} (h : Good n next l) (hp : l.Perm m) : Good n next m := by
  have hm : ∀ t, t ∈ m → t ∈ l := fun t ht => hp.mem_iff.2 ht
  exact ⟨(hp.map _).nodup_iff.1 h.nod, fun t ht => h.lt t (hm t ht), fun t ht => h.snd t (hm t ht), fun t ht s hs => h.dis t (hm t ht) s (hm s hs), fun t ht => h.pos t (hm t ht)⟩
theorem Fin.perm {l m : List It} {out out' : List Int} {d : Nat → Nat} (h : Fin l out out' d) (hp : l.Perm m) : Fin m out out' d := by
  have hm : ∀ t, t ∈ m → t ∈ l := fun t ht => hp.mem_iff.2 ht
  have hm' : ∀ t, t ∈ l → t ∈ m := fun t ht => hp.mem_iff.1 ht
  have hpp : (pairs l d).Perm (pairs m d) := hp.map _
  refine ⟨h.sz, fun t ht => h.on t (hm t ht), fun c hc hn => h.off c hc fun t ht => hn t (hm' t ht), ?_, fun M hM => ?_, fun a u t ht hs => ?_, fun hl t ht => h.ge (by rw [hp.length_eq]; exact hl) t (hm t ht)⟩
  · rw [← cost_perm hpp]; exact Merge.perm (hp.map _) h.mer
  · rw [← kraft_perm M hpp]; exact h.kra M fun t ht => hM t (hm' t ht)
  · intro h1 h2
    rw [← (hp.map wN).sum_nat]
    exact h.fib a u t (hm t ht) (fun s hs' => hs s (hm' s hs')) h1 h2
/-- One merge, in front. -/
theorem Fin.back {n next : Nat} {a b : It} {l : List It} {out out' : List Int} {d : Nat → Nat} (g : Good n next (a :: b :: l)) (hn : out.length = n) (hab : wN a ≤ wN b) (hbl : ∀ t ∈ l, wN b ≤ wN t)
    (h : Fin (l ++ [(⟨next, a.w + b.w, a.syms ++ b.syms⟩ : It)]) (bump out (a.syms ++ b.syms)) out' d) :
    Fin (a :: b :: l) out out' (fun i => if i = a.id ∨ i = b.id then d next + 1 else d i) := by
  obtain ⟨j, hj⟩ : ∃ j : It, j = ⟨next, a.w + b.w, a.syms ++ b.syms⟩ := ⟨_, rfl⟩
  rw [← hj] at h
  have h := h.perm (List.perm_append_comm (l₁ := l) (l₂ := [j]))
  simp only [List.singleton_append] at h
  have ma : a ∈ a :: b :: l := List.mem_cons_self ..
  have mb : b ∈ a :: b :: l := List.mem_cons_of_mem _ (List.mem_cons_self ..)
  have ml : ∀ t, t ∈ l → t ∈ a :: b :: l := fun t ht => List.mem_cons_of_mem _ (List.mem_cons_of_mem _ ht)
  have nod := g.nod
  simp only [List.map_cons, List.nodup_cons, List.mem_cons, List.mem_map, not_or] at nod
  obtain ⟨⟨hne, hal⟩, hbl', hnl⟩ := nod
  have hneq : ∀ t ∈ l, ¬ (t.id = a.id ∨ t.id = b.id) := fun t ht => not_or.2 ⟨fun e => hal ⟨t, ht, e⟩, fun e => hbl' ⟨t, ht, e⟩⟩
  have pa := g.pos a ma
  have pb := g.pos b mb
  have jw : wN j = wN a + wN b := by rw [hj]; unfold wN; show (a.w + b.w).toNat = _; omega
  have jid : j.id = next := by rw [hj]
  have js : j.syms = a.syms ++ b.syms := by rw [hj]
  have mj : j ∈ j :: l := List.mem_cons_self ..
  have ml' : ∀ t, t ∈ l → t ∈ j :: l := fun t ht => List.mem_cons_of_mem _ ht
  obtain ⟨D, hD⟩ : ∃ D, D = fun i => if i = a.id ∨ i = b.id then d next + 1 else d i := ⟨_, rfl⟩
  rw [← hD]
  have Da : D a.id = d next + 1 := by rw [hD]; exact if_pos (.inl rfl)
  have Db : D b.id = d next + 1 := by rw [hD]; exact if_pos (.inr rfl)
  have Dl : ∀ t ∈ l, D t.id = d t.id := fun t ht => by rw [hD]; exact if_neg (hneq t ht)
  have hpl : pairs l D = pairs l d := by
    unfold pairs
    exact List.map_congr_left fun t ht => by rw [Dl t ht]
  have hbl2 : ∀ c, c < n → (bump out (a.syms ++ b.syms)).getD c 0 = out.getD c 0 + ((a.syms ++ b.syms).count c : Int) := fun c hc => bump_get _ _ _ (by omega)
  have nodS : (a.syms ++ b.syms).Nodup := by
    rw [List.nodup_append]
    exact ⟨(g.snd a ma).1, (g.snd b mb).1, fun x hx y hy e => g.dis a ma b mb hne x hx (e ▸ hy)⟩
  have onj : ∀ c, c ∈ a.syms ++ b.syms → c < n → out'.getD c 0 = out.getD c 0 + ((d next + 1 : Nat) : Int) := fun c hc hcn => by
    have h1 := h.on j mj c (by rw [js]; exact hc)
    rw [hbl2 c hcn, nodS.count, if_pos hc, jid] at h1
    omega
  refine ⟨h.sz.trans (bump_length _ _), ?_, ?_, ?_, ?_, ?_, ?_⟩
  · intro t ht c hc
    have hcn := (g.snd t ht).2 c hc
    rcases List.mem_cons.1 ht with rfl | ht'
    · rw [Da]; exact onj c (List.mem_append_left _ hc) hcn
    · rcases List.mem_cons.1 ht' with rfl | ht'
      · rw [Db]; exact onj c (List.mem_append_right _ hc) hcn
      · rw [Dl t ht', h.on t (ml' t ht') c hc, hbl2 c hcn, List.count_eq_zero.2]
        · omega
        · intro hm
          rcases List.mem_append.1 hm with hm | hm
          · exact g.dis t ht a ma (fun e => hneq t ht' (.inl e)) c hc hm
          · exact g.dis t ht b mb (fun e => hneq t ht' (.inr e)) c hc hm
  · intro c hc hno
    have hnm : c ∉ a.syms ++ b.syms := by
      intro hm
      rcases List.mem_append.1 hm with hm | hm
      · exact hno a ma hm
      · exact hno b mb hm
    rw [h.off c (by rw [bump_length]; exact hc) ?_, hbl2 c (by omega), List.count_eq_zero.2 hnm]
    · omega
    · intro t ht
      rcases List.mem_cons.1 ht with rfl | ht
      · rw [js]; exact hnm
      · exact hno t (ml t ht)
  · have h1 := h.mer
    unfold pairs at h1 ⊢
    simp only [List.map_cons] at h1 ⊢
    have e : cost ((wN a, D a.id) :: (wN b, D b.id) :: List.map (fun t => (wN t, D t.id)) l) = cost ((wN j, d j.id) :: List.map (fun t => (wN t, d t.id)) l) + (wN a + wN b) := by
      have := hpl
      unfold pairs at this
      rw [this, Da, Db, jid]
      simp only [cost]
      rw [jw, Nat.mul_add, Nat.mul_add, Nat.add_mul]
      omega
    rw [e]
    rw [jw] at h1 ⊢
    refine Merge.step hab ?_ h1
    intro x hx
    obtain ⟨t, ht, rfl⟩ := List.mem_map.1 hx
    exact hbl t ht
  · intro M hM
    have h1 := hM a ma
    rw [Da] at h1
    have h2 := h.kra M fun t ht => by
      rcases List.mem_cons.1 ht with rfl | ht
      · rw [jid]; omega
      · have := hM t (ml t ht); rw [Dl t ht] at this; exact this
    have e := hpl
    unfold pairs at h2 e ⊢
    simp only [List.map_cons, kraft] at h2 ⊢
    rw [e, Da, Db]
    rw [jid] at h2
    have : 2 ^ (M - d next) = 2 ^ (M - (d next + 1)) + 2 ^ (M - (d next + 1)) := by
      rw [show M - d next = M - (d next + 1) + 1 by omega, Nat.pow_succ]
      omega
    omega
  · intro m u t ht hm hmu hut
    have hs : ((a :: b :: l).map wN).sum = ((j :: l).map wN).sum := by
      simp only [List.map_cons, List.sum_cons]
      omega
    rw [hs]
    have hma := hm a ma
    have hmb := hm b mb
    have joined : u ≤ wN b → u + m ≤ wN j → G (d next + 1) m u ≤ ((j :: l).map wN).sum := by
      intro hu1 hu2
      show G (d next) u (u + m) ≤ _
      rw [← jid]
      refine h.fib u (u + m) j mj (fun s hs => ?_) (by omega) hu2
      rcases List.mem_cons.1 hs with rfl | hs
      · omega
      · have := hbl s hs; omega
    rcases List.mem_cons.1 ht with rfl | ht'
    · rw [Da]; exact joined (by omega) (by omega)
    · rcases List.mem_cons.1 ht' with rfl | ht'
      · rw [Db]; exact joined (by omega) (by omega)
      · rw [Dl t ht']
        refine h.fib m u t (ml' t ht') (fun s hs => ?_) hmu hut
        rcases List.mem_cons.1 hs with rfl | hs
        · omega
        · exact hm s (ml s hs)
  · intro hlen t ht
    rcases List.mem_cons.1 ht with rfl | ht'
    · rw [Da]; omega
    · rcases List.mem_cons.1 ht' with rfl | ht'
      · rw [Db]; omega
      · rw [Dl t ht']
        have : 0 < l.length := List.length_pos_of_mem ht'
        exact h.ge (by rw [List.length_cons]; omega) t (ml' t ht')
theorem Good.merge {n next : Nat} {a b : It} {l : List It} (g : Good n next (a :: b :: l)) : Good n (next + 1) (l ++ [(⟨next, a.w + b.w, a.syms ++ b.syms⟩ : It)]) := by
  have ma : a ∈ a :: b :: l := List.mem_cons_self ..
  have mb : b ∈ a :: b :: l := List.mem_cons_of_mem _ (List.mem_cons_self ..)
  have ml : ∀ t, t ∈ l → t ∈ a :: b :: l := fun t ht => List.mem_cons_of_mem _ (List.mem_cons_of_mem _ ht)
  have nod := g.nod
  simp only [List.map_cons, List.nodup_cons, List.mem_cons, List.mem_map, not_or] at nod
  obtain ⟨⟨hne, hal⟩, hbl', hnl⟩ := nod
  have hneq : ∀ t ∈ l, t.id ≠ a.id ∧ t.id ≠ b.id := fun t ht => ⟨fun e => hal ⟨t, ht, e⟩, fun e => hbl' ⟨t, ht, e⟩⟩
  refine ⟨?_, ?_, ?_, ?_, ?_⟩
  · rw [List.map_append, List.nodup_append]
    refine ⟨hnl, by simp, fun x hx y hy => ?_⟩
    obtain ⟨t, ht, rfl⟩ := List.mem_map.1 hx
    simp at hy
    have := g.lt t (ml t ht)
    omega
  · intro t ht
    rcases List.mem_append.1 ht with ht | ht
    · have := g.lt t (ml t ht); omega
    · rw [List.mem_singleton.1 ht]; show next < next + 1; omega
  · intro t ht
    rcases List.mem_append.1 ht with ht | ht
    · exact g.snd t (ml t ht)
    · rw [List.mem_singleton.1 ht]
      refine ⟨?_, fun c hc => ?_⟩
      · show (a.syms ++ b.syms).Nodup
        rw [List.nodup_append]
        exact ⟨(g.snd a ma).1, (g.snd b mb).1, fun x hx y hy e => g.dis a ma b mb hne x hx (e ▸ hy)⟩
      · rcases List.mem_append.1 hc with hc | hc
        · exact (g.snd a ma).2 c hc
        · exact (g.snd b mb).2 c hc
  · intro t ht s hs hts c hc hcs
    rcases List.mem_append.1 ht with ht | ht
    · rcases List.mem_append.1 hs with hs | hs
      · exact g.dis t (ml t ht) s (ml s hs) hts c hc hcs
      · rw [List.mem_singleton.1 hs] at hcs
        rcases List.mem_append.1 hcs with h | h
        · exact g.dis t (ml t ht) a ma (hneq t ht).1 c hc h
        · exact g.dis t (ml t ht) b mb (hneq t ht).2 c hc h
    · rw [List.mem_singleton.1 ht] at hc hts
      rcases List.mem_append.1 hs with hs | hs
      · rcases List.mem_append.1 hc with h | h
        · exact g.dis s (ml s hs) a ma (hneq s hs).1 c hcs h
        · exact g.dis s (ml s hs) b mb (hneq s hs).2 c hcs h
      · rw [List.mem_singleton.1 hs] at hts
        exact hts rfl
  · intro t ht
    rcases List.mem_append.1 ht with ht | ht
    · exact g.pos t (ml t ht)
    · rw [List.mem_singleton.1 ht]
      have := g.pos a ma
      have := g.pos b mb
      show 0 < a.w + b.w
      omega
theorem fin_one {t : It} {out : List Int} : Fin [t] out out (fun _ => 0) := by
  refine ⟨rfl, fun s _ c _ => by omega, fun c _ _ => rfl, Merge.one _, fun M _ => ?_, fun m u s hs _ _ hu => ?_, fun h => ?_⟩
  · unfold pairs
    simp only [List.map_cons, List.map_nil, kraft]
    rfl
  · rw [List.mem_singleton.1 hs] at hu
    show u ≤ _
    simpa using hu
  · rw [List.length_singleton] at h; omega
theorem fin_all : ∀ (f next : Nat) (l : List It) (out : List Int), l ≠ [] → l.length ≤ f + 1 → Good out.length next l → ∃ d, Fin l out (hgo f next l out) d
  | 0, next, l, out, h0, h1, _ => by
    match l, h0, h1 with
    | [t], _, _ => exact ⟨_, fin_one⟩
    | _ :: _ :: _, _, h1 => rw [List.length_cons, List.length_cons] at h1; omega
  | f + 1, next, l, out, h0, h1, g => by
    unfold hgo
    by_cases c : l.length ≤ 1
    · rw [if_pos c]
      match l, h0, c with
      | [t], _, _ => exact ⟨_, fin_one⟩
      | _ :: _ :: _, _, h1 => rw [List.length_cons, List.length_cons] at h1; omega
    · rw [if_neg c]
      have hr := rest_length h0
      have hr0 : rest l ≠ [] := fun e => by rw [e] at hr; simp at hr; omega
      have hrr := rest_length hr0
      have hp : l.Perm (least l :: least (rest l) :: rest (rest l)) := (rest_perm h0).trans ((rest_perm hr0).cons _)
      have g' := g.perm hp
      have g2 := g'.merge
      have hlen := bump_length ((least l).syms ++ (least (rest l)).syms) out
      obtain ⟨d, hd⟩ := fin_all f (next + 1) (rest (rest l) ++ [join next l]) (bump out ((least l).syms ++ (least (rest l)).syms)) (by simp) (by simp; omega) (by rw [hlen]; exact g2)
      have le_of : ∀ (m : List It) (t : It), t ∈ m → wN (least m) ≤ wN t := by
        intro m t ht
        have := least_le t ht
        unfold befI at this
        rw [decide_eq_false_iff_not] at this
        unfold wN
        omega
      refine ⟨_, (Fin.back g' rfl ?_ ?_ hd).perm hp.symm⟩
      · refine le_of l _ ?_
        exact (rest_perm h0).mem_iff.2 (List.mem_cons_of_mem _ (least_mem hr0))
      · intro t ht
        exact le_of (rest l) t ((rest_perm hr0).mem_iff.2 (List.mem_cons_of_mem _ ht))
/-! ### The lengths of counts -/
def L (counts : List Int) (c : Nat) : Nat := ((lens counts).getD c 0).toNat
def beginN (counts : List Int) (n : Nat) : List It := ((List.range n).filter fun c => decide (0 < cnt counts c)).map fun c => ⟨c, cnt counts c, [c]⟩
theorem begin_eq (counts : List Int) : begin_ counts = beginN counts 256 := rfl
theorem mem_beginN {counts : List Int} {n : Nat} {t : It} : t ∈ beginN counts n ↔ ∃ c, c < n ∧ 0 < cnt counts c ∧ t = ⟨c, cnt counts c, [c]⟩ := by
  unfold beginN
  simp only [List.mem_map, List.mem_filter, List.mem_range, decide_eq_true_eq]
  constructor
  · rintro ⟨c, ⟨h1, h2⟩, rfl⟩; exact ⟨c, h1, h2, rfl⟩
  · rintro ⟨c, h1, h2, rfl⟩; exact ⟨c, ⟨h1, h2⟩, rfl⟩
theorem beginN_succ (counts : List Int) (n : Nat) : beginN counts (n + 1) = beginN counts n ++ if 0 < cnt counts n then [⟨n, cnt counts n, [n]⟩] else [] := by
  unfold beginN
  rw [List.range_succ, List.filter_append, List.map_append]
  congr 1
  by_cases h : 0 < cnt counts n
  · rw [if_pos h, List.filter_cons_of_pos (by simpa using h)]; rfl
  · rw [if_neg h, List.filter_cons_of_neg (by simpa using h)]; rfl
theorem begin_good (counts : List Int) : Good 256 256 (begin_ counts) := by
  rw [begin_eq]
  refine ⟨?_, ?_, ?_, ?_, ?_⟩
  · unfold beginN
    rw [List.map_map]
    have : (It.id ∘ fun c => (⟨c, cnt counts c, [c]⟩ : It)) = id := rfl
    rw [this, List.map_id]
    exact (List.nodup_range (n := 256)).sublist List.filter_sublist
  · intro t ht
    obtain ⟨c, hc, _, rfl⟩ := mem_beginN.1 ht
    exact hc
  · intro t ht
    obtain ⟨c, hc, _, rfl⟩ := mem_beginN.1 ht
    refine ⟨List.nodup_cons.2 ⟨by simp, List.nodup_nil⟩, fun d hd => ?_⟩
    rw [List.mem_singleton.1 hd]; exact hc
  · intro t ht s hs hne c hc hcs
    obtain ⟨x, hx, _, rfl⟩ := mem_beginN.1 ht
    obtain ⟨y, hy, _, rfl⟩ := mem_beginN.1 hs
    have h1 := List.mem_singleton.1 hc
    have h2 := List.mem_singleton.1 hcs
    exact hne (h1.symm.trans h2)
  · intro t ht
    obtain ⟨c, hc, h, rfl⟩ := mem_beginN.1 ht
    exact h
theorem noughts_length : noughts.length = 256 := List.length_replicate
theorem noughts_get (c : Nat) : noughts.getD c 0 = 0 := by
  unfold noughts
  rw [List.getD_eq_getElem?_getD, List.getElem?_replicate]
  split <;> rfl
theorem begin_le (counts : List Int) : (begin_ counts).length ≤ 256 := by
  unfold begin_
  rw [List.length_map]
  exact Nat.le_trans (List.length_filter_le _ _) (by rw [List.length_range]; exact Nat.le_refl _)
theorem Fin.congr {l : List It} {out out' : List Int} {d e : Nat → Nat} (h : Fin l out out' d) (he : ∀ t ∈ l, d t.id = e t.id) : Fin l out out' e := by
  have hp : pairs l e = pairs l d := by unfold pairs; exact List.map_congr_left fun t ht => by rw [he t ht]
  exact ⟨h.sz, fun t ht => by rw [← he t ht]; exact h.on t ht, h.off, by rw [hp]; exact h.mer, fun M hM => by rw [hp]; exact h.kra M fun t ht => by rw [he t ht]; exact hM t ht,
    fun m u t ht => by rw [← he t ht]; exact h.fib m u t ht, fun hl t ht => by rw [← he t ht]; exact h.ge hl t ht⟩
theorem lens_fin {counts : List Int} (h2 : 2 ≤ (begin_ counts).length) : Fin (begin_ counts) noughts (lens counts) (L counts) := by
  obtain ⟨d, hd⟩ := fin_all 256 256 (begin_ counts) noughts (by intro e; rw [e] at h2; simp at h2) (by have := begin_le counts; omega) (by rw [noughts_length]; exact begin_good counts)
  have e : lens counts = hgo 256 256 (begin_ counts) noughts := by unfold lens; rw [if_neg (by omega)]
  rw [← e] at hd
  refine hd.congr fun t ht => ?_
  obtain ⟨c, hc, _, rfl⟩ := mem_beginN.1 ht
  have := hd.on _ ht c (List.mem_singleton.2 rfl)
  rw [noughts_get] at this
  show _ = ((lens counts).getD c 0).toNat
  rw [this]
  simp
theorem lens_one {counts : List Int} (h1 : (begin_ counts).length = 1) : ∃ c, c < 256 ∧ 0 < cnt counts c ∧ lens counts = noughts.set c 1 ∧ ∀ d, d < 256 → 0 < cnt counts d → d = c := by
  obtain ⟨t, ht⟩ := List.length_eq_one_iff.1 h1
  have hm : t ∈ begin_ counts := by rw [ht]; exact List.mem_singleton.2 rfl
  obtain ⟨c, hc, hp, e⟩ := mem_beginN.1 hm
  refine ⟨c, hc, hp, ?_, fun d hd hpd => ?_⟩
  · unfold lens
    rw [if_pos h1]
    have hl := least_mem (l := begin_ counts) (by rw [ht]; simp)
    rw [ht] at hl ⊢
    rw [List.mem_singleton.1 hl, e]
  · have h2 : (⟨d, cnt counts d, [d]⟩ : It) ∈ begin_ counts := mem_beginN.2 ⟨d, hd, hpd, rfl⟩
    rw [ht] at h2
    have h3 := List.mem_singleton.1 h2
    rw [e] at h3
    injection h3
theorem lens_none {counts : List Int} (h0 : (begin_ counts).length = 0) : lens counts = noughts ∧ ∀ c, c < 256 → ¬ 0 < cnt counts c := by
  have hn := List.length_eq_zero_iff.1 h0
  constructor
  · unfold lens
    rw [if_neg (by omega), hn]
    rfl
  · intro c hc hp
    have h2 : (⟨c, cnt counts c, [c]⟩ : It) ∈ begin_ counts := mem_beginN.2 ⟨c, hc, hp, rfl⟩
    rw [hn] at h2
    exact absurd h2 List.not_mem_nil
theorem lens_length (counts : List Int) : (lens counts).length = 256 := by
  rcases Nat.lt_trichotomy (begin_ counts).length 1 with h | h | h
  · rw [(lens_none (by omega)).1]; exact noughts_length
  · obtain ⟨c, _, _, e, _⟩ := lens_one h
    rw [e, List.length_set]; exact noughts_length
  · exact (lens_fin h).sz.trans noughts_length
/-- What counts cost, told over all symbols. -/
def costTo (counts : List Int) (x : Nat → Nat) : Nat → Int
  | 0 => 0
  | n + 1 => costTo counts x n + cnt counts n * (x n : Int)
end Go.Proofs.MathTree
