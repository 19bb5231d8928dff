/- The plain law of turned texts: places of firsts and counts lead from each end to the one that begins earlier. -/
import Derived.Test.YtalhipjgafjmoaaMathCnt
import Derived.Test.YtalhipjgafjmoaaMathSuf
namespace Go.Proofs.Ytalhipjgafjmoaa.Bwt
open Go.Proofs.MathSuf
set_option linter.unusedVariables false

/-- The symbols ahead of ends. -/
def lastOf (l : List Int) : List Int → List Int
  | [] => []
  | p :: ps => if p = 0 then lastOf l ps else l.getD (p - 1).toNat 0 :: lastOf l ps
def rowFrom : List Int → Int → Int → Int
  | [], _, row => row
  | p :: ps, i, row => if p = 0 then rowFrom ps (i + 1) i else rowFrom ps (i + 1) row
def mkLast (l : List Int) : List Int := lastOf l (sufs l)
def mkRow (l : List Int) : Int := rowFrom (sufs l) 0 0

def entry (last : List Int) (j : Nat) : Int := fst last (last.getD j 0).toNat + cnt last j (last.getD j 0).toNat
def stepAt (last : List Int) (row : Nat) (p : Nat) : Int := if p = row then 0 else entry last (if p < row then p else p - 1)
def stepsS (last : List Int) (row : Nat) : List Int := (List.range (last.length + 1)).map (stepAt last row)
theorem stepsS_length (last : List Int) (row : Nat) : (stepsS last row).length = last.length + 1 := by simp [stepsS]
theorem stepsS_get (last : List Int) (row p : Nat) (h : p ≤ last.length) : (stepsS last row).getD p 0 = stepAt last row p := by
  unfold stepsS
  rw [List.getD_eq_getElem?_getD, List.getElem?_map, List.getElem?_range (by omega)]
  rfl

def goBack (last : List Int) (row : Nat) : Nat → Nat → List Int → List Int × Nat
  | 0, _, text => (text, 0)
  | i + 1, place, text => if place = row then (text, i + 1) else goBack last row i (stepAt last row place).toNat (text.set i (last.getD (if row < place then place - 1 else place) 0))
theorem goBack_length (last : List Int) (row : Nat) : ∀ i place text, (goBack last row i place text).1.length = text.length
  | 0, _, _ => rfl
  | i + 1, place, text => by
    unfold goBack
    split
    · rfl
    · rw [goBack_length]; simp
theorem goBack_mem (last : List Int) (row : Nat) (P : Int → Prop) (h0 : P 0) (hl : ∀ x ∈ last, P x) : ∀ i place text, (∀ x ∈ text, P x) → ∀ x ∈ (goBack last row i place text).1, P x
  | 0, _, _, h => h
  | i + 1, place, text, h => by
    unfold goBack
    split
    · exact h
    · refine goBack_mem last row P h0 hl i _ _ fun x hx => ?_
      rcases List.mem_or_eq_of_mem_set hx with hx | rfl
      · exact h x hx
      · rw [List.getD_eq_getElem?_getD]
        cases e : last[if row < place then place - 1 else place]? with
        | none => exact h0
        | some v => exact hl v (List.mem_of_getElem? e)

/-- Turned back: 161, or the text. -/
def backS (last : List Int) (row : Int) (C : List Int) : List Int × Int :=
  if 8192 < last.length ∨ row < 0 ∨ (last.length : Int) < row then ([], 161) else
  let r := goBack last row.toNat last.length 0 (List.replicate last.length 0)
  if r.2 = 0 ∧ mkRow r.1 = row ∧ mkLast r.1 = last ∧ fstTo r.1 256 = C then (r.1, 0) else ([], 161)

/-! bounds -/
theorem entry_le (last : List Int) (j : Nat) (hj : j < last.length) (hb : ∀ x ∈ last, 0 ≤ x) : 1 ≤ entry last j ∧ entry last j ≤ last.length := by
  unfold entry
  have h0 : 0 ≤ last.getD j 0 := by
    rw [List.getD_eq_getElem?_getD, List.getElem?_eq_getElem hj]; exact hb _ (List.getElem_mem hj)
  obtain ⟨x, hx⟩ : ∃ x : Nat, last.getD j 0 = (x : Int) := ⟨(last.getD j 0).toNat, by omega⟩
  rw [hx, Int.toNat_natCast]
  have h1 := fst_le last x
  have h2 := cnt_le last j x
  have h3 := fst_succ last x
  have h4 := fst_le last (x + 1)
  have h5 := cnt_succ last j x hj
  rw [if_pos hx] at h5
  have h6 : ∀ a b, a ≤ b → cnt last a x ≤ cnt last b x := by
    intro a b hab
    unfold cnt
    have : (last.take a).countP (fun y => decide (y = (x : Int))) ≤ (last.take b).countP (fun y => decide (y = (x : Int))) := by
      have hs : (last.take a).Sublist (last.take b) := by
        rw [show a = min a b by omega, ← List.take_take]
        exact List.take_sublist _ _
      exact hs.countP_le
    omega
  have h7 := h6 (j + 1) last.length (by omega)
  omega
theorem stepAt_le (last : List Int) (row p : Nat) (hp : p ≤ last.length) (hr : row ≤ last.length) (hb : ∀ x ∈ last, 0 ≤ x) : 0 ≤ stepAt last row p ∧ stepAt last row p ≤ last.length := by
  unfold stepAt
  split
  · omega
  · have := entry_le last (if p < row then p else p - 1) (by split <;> omega) hb
    omega

/-! ranks of ends -/
def R (l : List Int) (p : Nat) : Nat := (List.range (l.length + 1)).countP fun q => lexlt (l.drop q) (l.drop p)
theorem sufN_length (l : List Int) : (sufN l).length = l.length + 1 := by
  rw [(sufN_is l).perm.length_eq, List.length_range]
theorem sufN_lt (l : List Int) {i j : Nat} (hi : i < (sufN l).length) (hj : j < (sufN l).length) (h : i < j) : lexlt (l.drop (sufN l)[i]) (l.drop (sufN l)[j]) = true :=
  List.pairwise_iff_getElem.1 (sufN_is l).sorted i j hi hj h
theorem take_all (l : List Int) (i : Nat) (hi : i < (sufN l).length) : ∀ q, q ∈ (sufN l).take i → lexlt (l.drop q) (l.drop (sufN l)[i]) = true := by
  intro q hq
  obtain ⟨j, hj, rfl⟩ := List.mem_iff_getElem.1 hq
  have hj' : j < i := by rw [List.length_take] at hj; omega
  rw [List.getElem_take]
  exact sufN_lt l (by omega) hi hj'
theorem drop_none (l : List Int) (i : Nat) (hi : i < (sufN l).length) : ∀ q, q ∈ (sufN l).drop i → lexlt (l.drop q) (l.drop (sufN l)[i]) = false := by
  intro q hq
  obtain ⟨j, hj, rfl⟩ := List.mem_iff_getElem.1 hq
  rw [List.getElem_drop]
  rw [List.length_drop] at hj
  rcases Nat.eq_zero_or_pos j with h | h
  · subst h
    exact lexlt_irrefl _
  · exact lexlt_asymm (sufN_lt l hi (by omega) (by omega))
theorem count_less (l : List Int) (i : Nat) (hi : i < (sufN l).length) (f : Nat → Bool) :
    (List.range (l.length + 1)).countP (fun q => f q && lexlt (l.drop q) (l.drop (sufN l)[i])) = ((sufN l).take i).countP f := by
  have ha := take_all l i hi
  have hd := drop_none l i hi
  obtain ⟨x, hx⟩ : ∃ x, x = (sufN l)[i] := ⟨_, rfl⟩
  rw [← hx] at ha hd ⊢
  rw [← (sufN_is l).perm.countP_eq]
  have h1 : ((sufN l).drop i).countP (fun q => f q && lexlt (l.drop q) (l.drop x)) = 0 := by
    rw [List.countP_eq_zero]
    intro q hq
    rw [hd q hq]
    simp
  have h2 : ((sufN l).take i).countP (fun q => f q && lexlt (l.drop q) (l.drop x)) = ((sufN l).take i).countP f := by
    refine List.countP_congr fun q hq => ?_
    rw [ha q hq]
    simp
  have h3 := List.countP_append (p := fun q => f q && lexlt (l.drop q) (l.drop x)) (l₁ := (sufN l).take i) (l₂ := (sufN l).drop i)
  rw [List.take_append_drop, h1, h2] at h3
  rw [h3]
  omega
theorem R_sufN (l : List Int) (i : Nat) (hi : i < (sufN l).length) : R l (sufN l)[i] = i := by
  unfold R
  have h := count_less l i hi fun _ => true
  simp only [Bool.true_and] at h
  rw [h, List.countP_true, List.length_take]
  omega
theorem sufN_R (l : List Int) (p : Nat) (hp : p ≤ l.length) : ∃ h : R l p < (sufN l).length, (sufN l)[R l p] = p := by
  have hm : p ∈ sufN l := (sufN_is l).perm.mem_iff.2 (List.mem_range.2 (by omega))
  obtain ⟨i, hi, e⟩ := List.mem_iff_getElem.1 hm
  have h := R_sufN l i hi
  rw [e] at h
  subst h
  exact ⟨hi, e⟩
theorem R_le (l : List Int) (p : Nat) (hp : p ≤ l.length) : R l p ≤ l.length := by
  obtain ⟨h, _⟩ := sufN_R l p hp
  rw [sufN_length] at h
  omega
theorem R_inj (l : List Int) {p q : Nat} (hp : p ≤ l.length) (hq : q ≤ l.length) (h : R l p = R l q) : p = q := by
  obtain ⟨h1, e1⟩ := sufN_R l p hp
  obtain ⟨h2, e2⟩ := sufN_R l q hq
  rw [← e1, ← e2]
  simp only [h]
theorem R_end (l : List Int) : R l l.length = 0 := by
  unfold R
  rw [List.countP_eq_zero]
  intro q _
  rw [List.drop_length]
  cases l.drop q <;> simp [lexlt]

theorem countP_range_get (l : List Int) (f : Int → Bool) : (List.range l.length).countP (fun q => f (l.getD q 0)) = l.countP f := by
  have : l = (List.range l.length).map fun q => l.getD q 0 := by
    apply List.ext_getElem
    · simp
    · intro i h1 h2
      rw [List.getElem_map, List.getElem_range, List.getD_eq_getElem?_getD, List.getElem?_eq_getElem h1]
      rfl
  conv => rhs; rw [this]
  rw [List.countP_map]
  rfl
theorem countP_or {α : Type} (f g : α → Bool) (l : List α) (h : ∀ x ∈ l, f x = true → g x = false) : l.countP (fun x => f x || g x) = l.countP f + l.countP g := by
  induction l with
  | nil => rfl
  | cons x l ih =>
    have ih := ih fun y hy => h y (List.mem_cons_of_mem _ hy)
    have hx := h x (List.mem_cons_self ..)
    simp only [List.countP_cons, ih]
    cases hf : f x <;> cases hg : g x
    · simp
    · simp; omega
    · simp; omega
    · rw [hf, hg] at hx; simp at hx
theorem drop_get (l : List Int) (q : Nat) (h : q < l.length) : l.drop q = l.getD q 0 :: l.drop (q + 1) := by
  rw [List.drop_eq_getElem_cons h, List.getD_eq_getElem?_getD, List.getElem?_eq_getElem h]
  rfl
/-- An end's rank by its symbol and the end behind it. -/
theorem R_first (l : List Int) (p : Nat) (hp : p < l.length) (h0 : 0 ≤ l.getD p 0) :
    (R l p : Int) = fst l (l.getD p 0).toNat + (((List.range l.length).countP fun q => decide (l.getD q 0 = l.getD p 0) && lexlt (l.drop (q + 1)) (l.drop (p + 1)) : Nat) : Int) := by
  unfold R fst
  rw [List.range_succ, List.countP_append]
  have h1 : [l.length].countP (fun q => lexlt (l.drop q) (l.drop p)) = 1 := by
    rw [List.countP_singleton, List.drop_length, drop_get l p hp]
    rfl
  rw [h1]
  have h2 : (List.range l.length).countP (fun q => lexlt (l.drop q) (l.drop p)) = (List.range l.length).countP (fun q => decide (l.getD q 0 < l.getD p 0) || (decide (l.getD q 0 = l.getD p 0) && lexlt (l.drop (q + 1)) (l.drop (p + 1)))) := by
    refine List.countP_congr fun q hq => ?_
    have hq := List.mem_range.1 hq
    rw [drop_get l q hq, drop_get l p hp]
    simp only [lexlt]
  rw [h2, countP_or _ _ _ (fun q _ h => by
    rw [decide_eq_true_eq] at h
    have : ¬ l.getD q 0 = l.getD p 0 := by omega
    rw [decide_eq_false this]
    rfl), countP_range_get l fun x => decide (x < l.getD p 0)]
  rw [show ((l.getD p 0).toNat : Int) = l.getD p 0 by omega]
  omega

/-! the symbols ahead -/
def lastN (l : List Int) (o : List Nat) : List Int := (o.filter fun p => p != 0).map fun p => l.getD (p - 1) 0
theorem lastOf_N (l : List Int) : ∀ o : List Nat, lastOf l (o.map fun x : Nat => (x : Int)) = lastN l o
  | [] => rfl
  | p :: o => by
    unfold lastN
    rw [List.map_cons]
    unfold lastOf
    rw [lastOf_N l o]
    unfold lastN
    by_cases h : p = 0
    · subst h
      simp
    · rw [if_neg (by omega), List.filter_cons_of_pos (by simpa using h), List.map_cons]
      congr 1
      rw [show ((p : Int) - 1).toNat = p - 1 by omega]
theorem mkLast_N (l : List Int) : mkLast l = lastN l (sufN l) := lastOf_N l _
theorem lastN_append (l : List Int) (a b : List Nat) : lastN l (a ++ b) = lastN l a ++ lastN l b := by
  unfold lastN
  rw [List.filter_append, List.map_append]
theorem lastN_perm (l : List Int) {a b : List Nat} (h : a.Perm b) : (lastN l a).Perm (lastN l b) := (h.filter _).map _
theorem lastN_range (l : List Int) : lastN l (List.range (l.length + 1)) = l := by
  unfold lastN
  rw [List.range_succ_eq_map, List.filter_cons_of_neg (by simp), List.filter_eq_self.2 (by
    intro x hx
    obtain ⟨y, _, rfl⟩ := List.mem_map.1 hx
    simp), List.map_map]
  apply List.ext_getElem
  · simp
  · intro i h1 h2
    rw [List.getElem_map, List.getElem_range, Function.comp, show (i.succ - 1) = i from rfl, List.getD_eq_getElem?_getD, List.getElem?_eq_getElem h2]
    rfl
theorem mkLast_perm (l : List Int) : (mkLast l).Perm l := by
  rw [mkLast_N]
  have h := lastN_perm l (sufN_is l).perm
  rwa [lastN_range] at h
theorem mkLast_length (l : List Int) : (mkLast l).length = l.length := (mkLast_perm l).length_eq
theorem fst_perm {a b : List Int} (h : a.Perm b) (c : Nat) : fst a c = fst b c := by
  unfold fst
  rw [h.countP_eq]
theorem fstTo_perm {a b : List Int} (h : a.Perm b) (c : Nat) : fstTo a c = fstTo b c := by
  unfold fstTo
  refine List.map_congr_left fun x _ => fst_perm h x
theorem rowFrom_none : ∀ (o : List Nat) (i r : Int), 0 ∉ o → rowFrom (o.map fun x : Nat => (x : Int)) i r = r
  | [], _, _, _ => rfl
  | p :: o, i, r, h => by
    rw [List.map_cons]
    unfold rowFrom
    have hp : p ≠ 0 := fun e => h (by rw [e]; exact List.mem_cons_self ..)
    rw [if_neg (by omega)]
    exact rowFrom_none o _ _ fun hm => h (List.mem_cons_of_mem _ hm)
theorem rowFrom_at : ∀ (o : List Nat) (i r : Int), o.Nodup → ∀ k (hk : k < o.length), o[k] = 0 → rowFrom (o.map fun x : Nat => (x : Int)) i r = i + k
  | p :: o, i, r, hn, k, hk, h0 => by
    rw [List.map_cons]
    unfold rowFrom
    have hn' := List.nodup_cons.1 hn
    cases k with
    | zero =>
      simp only [List.getElem_cons_zero] at h0
      subst h0
      rw [if_pos (show ((0 : Nat) : Int) = 0 from rfl), rowFrom_none o _ _ hn'.1]
      omega
    | succ k =>
      simp only [List.getElem_cons_succ] at h0
      have hp : p ≠ 0 := fun e => hn'.1 (by rw [e, ← h0]; exact List.getElem_mem _)
      rw [if_neg (by omega), rowFrom_at o (i + 1) r hn'.2 k (by simpa using hk) h0]
      omega
theorem sufN_nodup (l : List Int) : (sufN l).Nodup := (sufN_is l).perm.nodup_iff.2 List.nodup_range
theorem mkRow_R (l : List Int) : mkRow l = (R l 0 : Int) := by
  obtain ⟨h, e⟩ := sufN_R l 0 (Nat.zero_le _)
  unfold mkRow sufs
  rw [rowFrom_at (sufN l) 0 0 (sufN_nodup l) (R l 0) h e]
  omega
/-- The symbol ahead of an end, and how many such are ahead of it. -/
theorem take_filter (l : List Int) (i : Nat) (hi : i < (sufN l).length) (h0 : (sufN l)[i] ≠ 0) :
    lastN l ((sufN l).take i) = (mkLast l).take (if i < R l 0 then i else i - 1) ∧ (mkLast l).getD (if i < R l 0 then i else i - 1) 0 = l.getD ((sufN l)[i] - 1) 0 := by
  have hlen : (lastN l ((sufN l).take i)).length = if i < R l 0 then i else i - 1 := by
    unfold lastN
    rw [List.length_map]
    obtain ⟨hr, er⟩ := sufN_R l 0 (Nat.zero_le _)
    have hnd := List.pairwise_iff_getElem.1 (sufN_nodup l)
    have hcount : ((sufN l).take i).countP (fun p => p == 0) = if i < R l 0 then 0 else 1 := by
      split
      · rename_i hlt
        rw [List.countP_eq_zero]
        intro p hp
        obtain ⟨j, hj, rfl⟩ := List.mem_iff_getElem.1 hp
        rw [List.length_take] at hj
        rw [List.getElem_take]
        have := hnd j (R l 0) (by omega) hr (by omega)
        rw [er] at this
        simpa using this
      · rename_i hge
        have hne : i ≠ R l 0 := fun e => h0 (by subst e; exact er)
        have hmem : 0 ∈ (sufN l).take i := by
          rw [List.mem_iff_getElem]
          exact ⟨R l 0, by rw [List.length_take]; omega, by rw [List.getElem_take]; exact er⟩
        have := (sufN_nodup l).sublist (List.take_sublist i (sufN l))
        rw [← List.count_eq_countP]
        exact this.count.trans (if_pos hmem)
    have hc2 := List.length_eq_countP_add_countP (fun p : Nat => p == 0) (l := (sufN l).take i)
    rw [hcount, List.length_take] at hc2
    rw [← List.countP_eq_length_filter]
    have e2 : ((sufN l).take i).countP (fun p => p != 0) = ((sufN l).take i).countP (fun a => decide ¬ (a == 0) = true) := by
      refine List.countP_congr fun p _ => ?_
      by_cases h : p = 0 <;> simp [h]
    rw [e2]
    split at hc2 <;> split <;> omega
  have hsplit : mkLast l = lastN l ((sufN l).take i) ++ (l.getD ((sufN l)[i] - 1) 0 :: lastN l ((sufN l).drop (i + 1))) := by
    rw [mkLast_N]
    conv => lhs; rw [← List.take_append_drop i (sufN l)]
    rw [lastN_append, List.drop_eq_getElem_cons hi]
    congr 1
    unfold lastN
    rw [List.filter_cons_of_pos (by simpa using h0), List.map_cons]
  constructor
  · rw [hsplit, ← hlen, List.take_left]
  · rw [hsplit, ← hlen, List.getD_eq_getElem?_getD, List.getElem?_append_right (Nat.le_refl _), Nat.sub_self]
    rfl
theorem cnt_last (l : List Int) (i c : Nat) (hi : i < (sufN l).length) (h0 : (sufN l)[i] ≠ 0) :
    cnt (mkLast l) (if i < R l 0 then i else i - 1) c = (((List.range l.length).countP fun q => decide (l.getD q 0 = (c : Int)) && lexlt (l.drop (q + 1)) (l.drop (sufN l)[i]) : Nat) : Int) := by
  unfold cnt
  rw [← (take_filter l i hi h0).1]
  unfold lastN
  rw [List.countP_map, List.countP_filter]
  have h := count_less l i hi fun q => decide (l.getD (q - 1) 0 = (c : Int)) && (q != 0)
  have h2 : ((sufN l).take i).countP (fun a => ((fun x => decide (x = (c : Int))) ∘ fun p => l.getD (p - 1) 0) a && a != 0) = ((sufN l).take i).countP (fun q => decide (l.getD (q - 1) 0 = (c : Int)) && (q != 0)) := rfl
  rw [h2, ← h, List.range_succ_eq_map, List.countP_cons_of_neg (by simp), List.countP_map]
  congr 1
  refine List.countP_congr fun q _ => ?_
  simp
theorem bytes_R (l : List Int) (hb : ∀ x ∈ l, 0 ≤ x) (p : Nat) (hp : p < l.length) : 0 ≤ l.getD p 0 := by
  rw [List.getD_eq_getElem?_getD, List.getElem?_eq_getElem hp]
  exact hb _ (List.getElem_mem hp)
/-- A step leads to the end that begins one byte earlier. -/
theorem step_R (l : List Int) (hb : ∀ x ∈ l, 0 ≤ x) (p : Nat) (hp : p < l.length) :
    stepAt (mkLast l) (R l 0) (R l (p + 1)) = (R l p : Int) ∧ (mkLast l).getD (if R l 0 < R l (p + 1) then R l (p + 1) - 1 else R l (p + 1)) 0 = l.getD p 0 ∧ R l (p + 1) ≠ R l 0 := by
  obtain ⟨hi, e⟩ := sufN_R l (p + 1) (by omega)
  have hne : R l (p + 1) ≠ R l 0 := fun h => by have := R_inj l (by omega) (Nat.zero_le _) h; omega
  have h0 : (sufN l)[R l (p + 1)] ≠ 0 := by rw [e]; omega
  have ht := (take_filter l _ hi h0).2
  have hc := fun c => cnt_last l _ c hi h0
  simp only [e] at ht hc
  rw [show p + 1 - 1 = p from rfl] at ht
  have hbp := bytes_R l hb p hp
  refine ⟨?_, ?_, hne⟩
  · unfold stepAt entry
    rw [if_neg hne, ht, hc, R_first l p hp hbp, fst_perm (mkLast_perm l)]
    rw [show ((l.getD p 0).toNat : Int) = l.getD p 0 by omega]
  · rw [← ht]
    congr 1
    split <;> split <;> omega
theorem stepAt_row (l : List Int) : stepAt (mkLast l) (R l 0) (R l 0) = 0 := by
  unfold stepAt
  rw [if_pos rfl]
theorem goBack_R (l : List Int) (hb : ∀ x ∈ l, 0 ≤ x) : ∀ i text, i ≤ l.length → text.length = l.length → text.drop i = l.drop i → goBack (mkLast l) (R l 0) i (R l i) text = (l, 0)
  | 0, text, _, _, h => by
    unfold goBack
    simp only [List.drop_zero] at h
    rw [h]
  | i + 1, text, hi, ht, h => by
    obtain ⟨h1, h2, h3⟩ := step_R l hb i (by omega)
    unfold goBack
    rw [if_neg h3, h1, h2, Int.toNat_natCast]
    refine goBack_R l hb i _ (by omega) (by simpa using ht) ?_
    rw [drop_get l i (by omega), ← h, List.drop_eq_getElem_cons (by simp; omega)]
    simp [List.drop_set]
theorem backS_make (l : List Int) (hb : ∀ x ∈ l, 0 ≤ x) (hn : l.length ≤ 8192) : backS (mkLast l) (mkRow l) (fstTo l 256) = (l, 0) := by
  unfold backS
  have hr := R_le l 0 (Nat.zero_le _)
  rw [mkRow_R, mkLast_length, if_neg (by omega)]
  have h := goBack_R l hb l.length (List.replicate l.length 0) (Nat.le_refl _) (by simp) (by simp)
  rw [R_end] at h
  rw [Int.toNat_natCast, h]
  simp only [mkRow_R, and_self, if_true]
theorem backS_ok {last : List Int} {row : Int} {C : List Int} (h : (backS last row C).2 = 0) : last.length ≤ 8192 ∧ 0 ≤ row ∧ row ≤ last.length ∧ mkRow (backS last row C).1 = row ∧ mkLast (backS last row C).1 = last ∧ fstTo (backS last row C).1 256 = C ∧ (backS last row C).1.length = last.length := by
  unfold backS at h ⊢
  split at h
  · cases h
  · rename_i hc
    rw [if_neg hc]
    have hl := goBack_length last row.toNat last.length 0 (List.replicate last.length 0)
    rw [List.length_replicate] at hl
    generalize goBack last row.toNat last.length 0 (List.replicate last.length 0) = r at h hl ⊢
    dsimp only at h ⊢
    split at h
    · rename_i h2
      rw [if_pos h2]
      exact ⟨by omega, by omega, by omega, h2.2.1, h2.2.2.1, h2.2.2.2, hl⟩
    · cases h
theorem backS_bad {last : List Int} {row : Int} {C : List Int} (h : (backS last row C).2 ≠ 0) : backS last row C = ([], 161) := by
  unfold backS at h ⊢
  split at h
  · rename_i hc; rw [if_pos hc]
  · rename_i hc
    rw [if_neg hc]
    dsimp only at h ⊢
    split at h
    · exact absurd rfl h
    · rename_i h2; rw [if_neg h2]
theorem backS_mem {last : List Int} {row : Int} {C : List Int} (hb : ∀ x ∈ last, 0 ≤ x ∧ x < 256) : ∀ x ∈ (backS last row C).1, 0 ≤ x ∧ x < 256 := by
  unfold backS
  split
  · intro x hx; cases hx
  · dsimp only
    split
    · exact goBack_mem last _ (fun x => 0 ≤ x ∧ x < 256) ⟨by decide, by decide⟩ hb _ _ _ (fun x hx => by have := (List.mem_replicate.1 hx).2; subst this; exact ⟨by decide, by decide⟩)
    · intro x hx; cases hx
end Go.Proofs.Ytalhipjgafjmoaa.Bwt
