/- suffix.Array, by its contract and its plain law: it answers the order of ends. -/
import Derived.Test.YtalhipjgafjmoaaYPass
import Derived.Test.YtalhipjgafjmoaaMathSuf
namespace Go.Proofs.Ytalhipjgafjmoaa.Suf
open Go.RowKit Go.Proofs.MathSuf
set_option linter.unusedVariables false
set_option linter.unusedSimpArgs false

theorem k2_sec (nm : Nat → Int) (n s x : Nat) : k2 nm n s x = sec nm n s x := rfl
def key (l : List Int) (s : Nat) {n : Nat} (d : Array (Fin (n + 1))) (i : Nat) : List Int := (l.drop d[i]!.val).take (s + s)
theorem kne_iff {l : List Int} {n s : Nat} {nm : Nat → Int} (hn : l.length = n) (h : NInv l l.length s nm) (x y : Nat) (hx : x ≤ n) (hy : y ≤ n) : kne nm n s x y = true ↔ ¬ (l.drop x).take (s + s) = (l.drop y).take (s + s) := by
  subst hn
  rw [← key_eq h x y hx hy]
  unfold kne k1
  simp only [Bool.not_eq_true', Bool.and_eq_false_iff, beq_eq_false_iff_ne, k2_sec]
  constructor
  · rintro (h1 | h1) ⟨h2, h3⟩
    · exact h1 h2
    · exact h1 h3
  · intro h1
    by_cases h2 : nm x = nm y
    · exact .inr fun h3 => h1 ⟨h2, h3⟩
    · exact .inl h2
theorem rnk_ranks {l : List Int} {n s : Nat} {nm : Nat → Int} (hn : l.length = n) (h : NInv l l.length s nm) (d : Array (Fin (n + 1))) : ∀ k, rnk nm n s d k = ranks (key l s d) k
  | 0 => rfl
  | k + 1 => by
    have hx : d[k]!.val ≤ n := by have := (d[k]!).isLt; omega
    have hy : d[k + 1]!.val ≤ n := by have := (d[k + 1]!).isLt; omega
    have hk := kne_iff hn h _ _ hx hy
    rw [ranks_succ]
    unfold rnk
    rw [rnk_ranks hn h d k]
    by_cases e : key l s d k = key l s d (k + 1)
    · rw [if_pos e, if_neg (fun h2 => (hk.1 h2) e)]
    · rw [if_neg e, if_pos (hk.2 e)]
theorem klt_iff {l : List Int} {n s : Nat} {nm : Nat → Int} (hn : l.length = n) (h : NInv l l.length s nm) (x y : Nat) (hx : x ≤ n) (hy : y ≤ n) : klt nm n s x y ↔ lexlt ((l.drop x).take (s + s)) ((l.drop y).take (s + s)) = true := by
  subst hn
  exact key_lt h x y hx hy

def base (n : Nat) : List (Fin (n + 1)) := (Array.ofFn fun i : Fin (n + 1) => i).toList
theorem base_mem (n : Nat) (x : Fin (n + 1)) : x ∈ base n := by
  unfold base
  rw [Array.toList_ofFn, List.mem_iff_getElem]
  exact ⟨x.val, by simp, by rw [List.getElem_ofFn]⟩
theorem base_nodup (n : Nat) : (base n).Nodup := by
  unfold base
  rw [Array.toList_ofFn]
  rw [List.nodup_iff_pairwise_ne, List.pairwise_iff_getElem]
  intro i j hi hj hij
  simp only [List.getElem_ofFn, ne_eq, Fin.mk.injEq]
  omega
theorem base_val (n : Nat) : (base n).map (fun x => x.val) = List.range (n + 1) := by
  unfold base
  rw [Array.toList_ofFn]
  apply List.ext_getElem
  · simp
  · intro i h1 h2
    rw [List.getElem_map, List.getElem_ofFn, List.getElem_range]

def Inv (l : List Int) (n : Nat) (d : Array (Fin (n + 1))) (nm : Nat → Int) (s : Nat) : Prop := d.toList.Perm (base n) ∧ NInv l l.length s nm
def Good (l : List Int) (n : Nat) (d : Array (Fin (n + 1))) : Prop := IsSuf l (d.toList.map fun x => x.val)

theorem sorted_good {l : List Int} {n : Nat} (hn : l.length = n) {d : Array (Fin (n + 1))} (hd : d.size = n + 1) (hp : d.toList.Perm (base n)) (hs : ∀ i j, i < j → j ≤ n → lexlt (l.drop d[i]!.val) (l.drop d[j]!.val) = true) : Good l n d := by
  refine ⟨?_, ?_⟩
  · have h := hp.map (fun x : Fin (n + 1) => x.val)
    rw [base_val] at h
    rw [hn]
    exact h
  · rw [List.pairwise_iff_getElem]
    intro i j hi hj hij
    simp only [List.length_map, Array.length_toList] at hi hj
    have h := hs i j hij (by omega)
    rw [getElem!_pos d i (by omega), getElem!_pos d j (by omega)] at h
    simpa using h

theorem step_math (l : List Int) (n : Nat) (hn : l.length = n) (d : Array (Fin (n + 1))) (nm : Nat → Int) (s : Nat) (d' : Array (Fin (n + 1))) (hI : Inv l n d nm s) (hs1 : 1 ≤ s) (hd : d'.size = n + 1) (hp : d'.toList.Perm d.toList)
    (hsort : ∀ i j, i < j → j < n + 1 → ¬ klt nm n s d'[j]!.val d'[i]!.val) :
    (rnk nm n s d' n < n → s ≤ n → ∀ ff : Nat → Int, (∀ i, i ≤ n → ff d'[i]!.val = rnk nm n s d' i) → Inv l n d' ff (s * 2)) ∧ (¬ (rnk nm n s d' n < n ∧ s ≤ n) → Good l n d') := by
  obtain ⟨hp0, hN⟩ := hI
  have hP := hp.trans hp0
  have hle : ∀ i : Nat, d'[i]!.val ≤ n := fun i => by have := (d'[i]!).isLt; omega
  have hT : ∀ i j : Nat, i < j → j ≤ n → ¬ lexlt (key l s d' j) (key l s d' i) = true := fun i j hij hj h => hsort i j hij (by omega) ((klt_iff hn hN _ _ (hle j) (hle i)).2 h)
  have hR := rnk_ranks hn hN d'
  have hsur : ∀ x : Nat, x ≤ n → ∃ i : Nat, i ≤ n ∧ d'[i]!.val = x := by
    intro x hx
    have hm : (⟨x, by omega⟩ : Fin (n + 1)) ∈ d'.toList := hP.mem_iff.2 (base_mem n _)
    obtain ⟨i, hi, he⟩ := List.getElem_of_mem hm
    have hi' : i < d'.size := by simpa using hi
    refine ⟨i, by omega, ?_⟩
    rw [getElem!_pos d' i hi']
    have : d'[i] = (⟨x, by omega⟩ : Fin (n + 1)) := by simpa using he
    rw [this]
  constructor
  · intro _ _ ff hff
    refine ⟨hP, ?_⟩
    have hs2 : s * 2 = s + s := by omega
    rw [hs2]
    refine ⟨fun x y hx hy => ?_, fun x y hx hy => ?_, fun x hx => ?_⟩
    · obtain ⟨i, hi, rfl⟩ := hsur x (by omega)
      obtain ⟨j, hj, rfl⟩ := hsur y (by omega)
      rw [hff i hi, hff j hj, hR, hR, Int.ofNat_lt]
      exact ranks_lt _ n hT i j hi hj
    · obtain ⟨i, hi, rfl⟩ := hsur x (by omega)
      obtain ⟨j, hj, rfl⟩ := hsur y (by omega)
      rw [hff i hi, hff j hj, hR, hR, Int.ofNat_inj]
      rcases Nat.le_total i j with hij | hij
      · exact ranks_eq _ n hT i j hij hj
      · rw [eq_comm, ranks_eq _ n hT j i hij hi]
        exact eq_comm
    · obtain ⟨i, hi, rfl⟩ := hsur x (by omega)
      rw [hff i hi]
      omega
  · intro hno
    refine sorted_good hn hd hP fun i j hij hj => ?_
    have hne : d'[i]!.val ≠ d'[j]!.val := by
      intro e
      have e2 : d'[i]! = d'[j]! := Fin.ext e
      rw [getElem!_pos d' i (by omega), getElem!_pos d' j (by omega)] at e2
      have hnd : d'.toList.Nodup := hP.nodup_iff.2 (base_nodup n)
      exact List.pairwise_iff_getElem.1 hnd i j (by simp; omega) (by simp; omega) hij (by simpa using e2)
    by_cases hfull : n ≤ rnk nm n s d' n
    · rw [hR] at hfull
      have hk := ranks_full _ n hfull
      have h1 : ranks (key l s d') i < ranks (key l s d') j := by rw [hk i (by omega), hk j hj]; exact hij
      exact lexlt_of_take ((ranks_lt _ n hT i j (by omega) hj).1 h1)
    · have hs3 : n < s := by
        refine Nat.lt_of_not_le fun h => hno ⟨by omega, h⟩
      have ht : ∀ k : Nat, key l s d' k = l.drop d'[k]!.val := fun k => by
        unfold key
        rw [List.take_of_length_le]
        rw [List.length_drop]
        omega
      have h1 := hT i j hij hj
      rw [ht, ht] at h1
      rcases lexlt_total (x := l.drop d'[i]!.val) (y := l.drop d'[j]!.val) (fun e => hne (drop_inj (by have := hle i; omega) (by have := hle j; omega) e)) with h2 | h2
      · exact h2
      · exact absurd h2 h1

/-- The contract: a text of at most 8192 bytes. -/
theorem array_spec (A : Option Addr) (c : Nat) (l : List Int) (w : World) (hn : l.length ≤ 8192) (hA : ∀ k, k < l.length → ∃ ad, A = some ad ∧ w.cell? (ad.add k) = some (.int .u8 (l.getD k 0))) (hb8 : ∀ k, k < l.length → 0 ≤ l.getD k 0 ∧ l.getD k 0 < 256) :
    Calls Try.prog 20 #[.slice A l.length c] w fun e w' => e = .returned (.tuple #[.slice (some ⟨w.heap.size + 1, 0, none⟩) (l.length + 1) (l.length + 1), .int .i64 0]) ∧ w'.heap[w.heap.size + 1]? = some (.cells (rowOf (sufs l)) 3 (0, 0)) ∧ Below w.heap.size w w' := by
  refine (array_any A l.length c l w hn rfl hA hb8 (Inv l l.length) (Good l l.length) ⟨List.Perm.refl _, ninv_one l fun k hk => (hb8 k hk).1⟩ (fun d nm s h => h.1.nodup_iff.2 (base_nodup _)) (step_math l l.length rfl)).mono ?_
  rintro e w' ⟨he, d, nm, ff, s, hd, hG, hM⟩
  refine ⟨he, ?_, hM.bd.below⟩
  rw [sufs_of hG, hM.od]
  congr 2
  unfold tab
  congr 1
  apply List.ext_getElem
  · simp [hd]
  · intro i h1 h2
    have hi : i < d.size := by simpa using h2
    simp only [List.getElem_map, List.getElem_range, Array.getElem_toList]
    rw [getElem!_pos d i hi]
end Go.Proofs.Ytalhipjgafjmoaa.Suf
