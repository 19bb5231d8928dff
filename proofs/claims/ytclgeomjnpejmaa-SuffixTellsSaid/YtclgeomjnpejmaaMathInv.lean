/- Rows that are permutations, and their inverses: plain. -/
import Derived.Test.YtclgeomjnpejmaaMathSuf
namespace Go.Proofs.MathInv
set_option linter.unusedVariables false

def Good (l : List Int) : Prop := ∀ p, p < l.length → 0 ≤ l.getD p 0 ∧ l.getD p 0 < l.length ∧ ∀ q, q < p → l.getD q 0 ≠ l.getD p 0
def IsInv (l a : List Int) : Prop := a.length = l.length ∧ ∀ p, p < l.length → a.getD (l.getD p 0).toNat 0 = (p : Int)
def InvSpec (l : List Int) (r : List Int × Int) : Prop := (Good l ∧ IsInv l r.1 ∧ r.2 = 0) ∨ (¬ Good l ∧ r = ([], 2))

theorem sub_length : ∀ (l m : List Nat), l.Nodup → (∀ x ∈ l, x ∈ m) → l.length ≤ m.length
  | [], _, _, _ => Nat.zero_le _
  | a :: l, m, hn, hs => by
    have ha := hs a (List.mem_cons_self ..)
    have hn' := List.nodup_cons.1 hn
    have h := sub_length l (m.erase a) hn'.2 fun x hx => by
      have hxa : x ≠ a := fun e => hn'.1 (e ▸ hx)
      exact (List.mem_erase_of_ne hxa).2 (hs x (List.mem_cons_of_mem _ hx))
    rw [List.length_erase_of_mem ha] at h
    have hpos : 0 < m.length := List.length_pos_of_mem ha
    simp only [List.length_cons]
    omega

theorem full (l : List Nat) (n : Nat) (hn : l.Nodup) (hl : l.length = n) (hb : ∀ x ∈ l, x < n) (j : Nat) (hj : j < n) : j ∈ l := by
  apply Classical.byContradiction
  intro h
  have h1 := sub_length l ((List.range n).erase j) hn fun x hx => (List.mem_erase_of_ne (fun e : x = j => h (e ▸ hx))).2 (List.mem_range.2 (hb x hx))
  rw [List.length_erase_of_mem (List.mem_range.2 hj), List.length_range] at h1
  omega

theorem Good.surj {l : List Int} (h : Good l) (j : Nat) (hj : j < l.length) : ∃ p, p < l.length ∧ l.getD p 0 = (j : Int) := by
  have hm := full (l.map Int.toNat) l.length ?_ (by simp) ?_ j hj
  · obtain ⟨x, hx, e⟩ := List.mem_map.1 hm
    obtain ⟨p, hp, rfl⟩ := List.mem_iff_getElem.1 hx
    refine ⟨p, hp, ?_⟩
    have h1 := h p hp
    rw [List.getD_eq_getElem?_getD, List.getElem?_eq_getElem hp] at h1 ⊢
    simp only [Option.getD_some] at h1 ⊢
    omega
  · rw [List.nodup_iff_pairwise_ne, List.pairwise_iff_getElem]
    intro q p hq hp hqp
    simp only [List.length_map] at hq hp
    have h1 := h p hp
    have h2 := h q hq
    have h3 := h1.2.2 q hqp
    have ep : l.getD p 0 = l[p] := by rw [List.getD_eq_getElem?_getD, List.getElem?_eq_getElem hp]; rfl
    have eq : l.getD q 0 = l[q] := by rw [List.getD_eq_getElem?_getD, List.getElem?_eq_getElem hq]; rfl
    rw [eq, ep] at h3
    rw [ep] at h1
    rw [eq] at h2
    simp only [List.getElem_map]
    omega
  · intro x hx
    obtain ⟨y, hy, rfl⟩ := List.mem_map.1 hx
    obtain ⟨p, hp, rfl⟩ := List.mem_iff_getElem.1 hy
    have h1 := h p hp
    rw [List.getD_eq_getElem?_getD, List.getElem?_eq_getElem hp] at h1
    simp only [Option.getD_some] at h1
    omega

theorem IsInv.back {l a : List Int} (h : Good l) (ha : IsInv l a) : Good a ∧ IsInv a l := by
  have hv : ∀ j, j < a.length → ∃ p, p < l.length ∧ l.getD p 0 = (j : Int) ∧ a.getD j 0 = (p : Int) := by
    intro j hj
    obtain ⟨p, hp, e⟩ := h.surj j (by rw [ha.1] at hj; exact hj)
    have h1 := ha.2 p hp
    rw [e] at h1
    exact ⟨p, hp, e, h1⟩
  refine ⟨fun j hj => ?_, ha.1.symm, fun j hj => ?_⟩
  · obtain ⟨p, hp, e, e'⟩ := hv j hj
    refine ⟨by omega, by rw [ha.1]; omega, fun q hq he => ?_⟩
    obtain ⟨p', hp', e1, e1'⟩ := hv q (by omega)
    have : p' = p := by omega
    subst this
    omega
  · obtain ⟨p, hp, e, e'⟩ := hv j hj
    rw [e']
    exact e

theorem IsInv.unique {l a b : List Int} (h : Good l) (ha : IsInv l a) (hb : IsInv l b) : a = b := by
  apply List.ext_getElem (by rw [ha.1, hb.1])
  intro j h1 h2
  obtain ⟨p, hp, e⟩ := h.surj j (by rw [ha.1] at h1; exact h1)
  have e1 := ha.2 p hp
  have e2 := hb.2 p hp
  rw [e] at e1 e2
  simp only [Int.toNat_natCast, List.getD_eq_getElem?_getD, List.getElem?_eq_getElem h1, List.getElem?_eq_getElem h2, Option.getD_some] at e1 e2
  rw [e1, e2]

end Go.Proofs.MathInv
