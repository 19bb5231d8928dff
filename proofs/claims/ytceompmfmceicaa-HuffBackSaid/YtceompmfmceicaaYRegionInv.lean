/- A region that draws its order, by an invariant: what holds of the operations done so far, kept by each operation that is ready. Of no program. -/
import Derived.Orders
import Derived.OrdersHeld
import Derived.Tactics
namespace Go
section
variable {P : Program} {ops : Array Oper} {Q : Exit → Act → World → Prop}

/-- Each operation waits for earlier ones alone. -/
def edgesDown (ops : Array Oper) : Bool := (List.range ops.size).all fun i => match ops[i]? with
  | some o => o.after.all fun e => e.on < i
  | none => true

theorem edgesDown_spec (h : edgesDown ops = true) {i : Nat} {o : Oper} (ho : ops[i]? = some o) : ∀ e ∈ o.after, e.on < i := by
  intro e he
  have hi : i < ops.size := (Array.getElem?_eq_some_iff.1 ho).1
  have h1 := List.all_eq_true.1 h i (List.mem_range.2 hi)
  rw [ho] at h1
  simpa using Array.all_eq_true_iff_forall_mem.1 h1 e he

theorem ready_mem {md : Region.Mode} {listed : Array Bool} {i : Nat} (h : i ∈ Region.ready md ops listed) : listed.getD i true = false ∧ ∃ o, ops[i]? = some o ∧ ∀ e ∈ o.after, Region.binds md e = true → listed.getD e.on false = true := by
  unfold Region.ready at h
  obtain ⟨hr, hf⟩ := List.mem_filter.1 h
  have hi := List.mem_range.1 hr
  simp only [Bool.and_eq_true, Bool.not_eq_true'] at hf
  obtain ⟨h1, h2⟩ := hf
  refine ⟨h1, ops[i], Array.getElem?_eq_getElem hi, ?_⟩
  rw [Array.getElem?_eq_getElem hi] at h2
  intro e he hb
  have h3 := Array.all_eq_true_iff_forall_mem.1 (show ops[i].after.all _ = true from h2) e he
  simpa [hb] using h3

theorem ready_none {md : Region.Mode} {listed : Array Bool} (hd : edgesDown ops = true) (hs : listed.size = ops.size) (h : Region.ready md ops listed = []) : ∀ i, i < ops.size → listed.getD i false = true := by
  intro i
  induction i using Nat.strongRecOn with
  | ind i ih =>
    intro hi
    cases hl : listed.getD i false with
    | true => rfl
    | false =>
      exfalso
      have hm : i ∈ Region.ready md ops listed := by
        unfold Region.ready
        refine List.mem_filter.2 ⟨List.mem_range.2 hi, ?_⟩
        have h1 : listed.getD i true = false := by
          rw [Array.getD_eq_getD_getElem?, Array.getElem?_eq_getElem (by omega)] at hl ⊢
          exact hl
        rw [h1, Array.getElem?_eq_getElem hi]
        simp only [Bool.not_false, Bool.true_and, Option.map_some, Option.getD_some]
        refine Array.all_eq_true_iff_forall_mem.2 fun e he => ?_
        have hlt := edgesDown_spec hd (Array.getElem?_eq_getElem hi) e he
        rw [ih e.on hlt (by omega)]
        simp
      rw [h] at hm
      simp at hm

theorem wpAny_inv {md : Region.Mode} (hd : edgesDown ops = true) (I : (Nat → Bool) → Act → World → Prop)
    (hstep : ∀ (L : Nat → Bool) (a : Act) (w : World) (i : Nat) (o : Oper), I L a w → ops[i]? = some o → L i = false → (∀ e ∈ o.after, Region.binds md e = true → L e.on = true) →
      if Region.wanted o (yielded ops a.tmps) = true then o.wp P a w (I fun j => j == i || L j) Q else I (fun j => j == i || L j) (a.put o.dst undef) w)
    (hend : ∀ (L : Nat → Bool) (a : Act) (w : World), I L a w → (∀ i, i < ops.size → L i = true) → Q .normal a w) :
    ∀ (fuel : Nat) (listed : Array Bool) (a : Act) (w : World), listed.size = ops.size → (∀ f, f = fuel → (List.range ops.size).countP (fun i => !listed.getD i false) ≤ f) → I (fun j => listed.getD j false) a w → wpAny P md ops Q fuel listed a w := by
  intro fuel
  induction fuel with
  | zero =>
    intro listed a w hs hc hI
    have hc0 := hc 0 rfl
    have hall : ∀ i, i < ops.size → listed.getD i false = true := by
      intro i hi
      have h1 : (List.range ops.size).countP (fun i => !listed.getD i false) = 0 := Nat.le_zero.1 hc0
      have h2 := List.countP_eq_zero.1 h1 i (List.mem_range.2 hi)
      simpa using h2
    refine ⟨?_, hend _ a w hI hall⟩
    cases hr : Region.ready md ops listed with
    | nil => rfl
    | cons i l =>
      exfalso
      have hm : i ∈ Region.ready md ops listed := by rw [hr]; exact List.mem_cons_self
      obtain ⟨h1, o, ho, _⟩ := ready_mem hm
      have hi : i < ops.size := (Array.getElem?_eq_some_iff.1 ho).1
      have h2 := hall i hi
      rw [Array.getD_eq_getD_getElem?, Array.getElem?_eq_getElem (by omega)] at h1 h2
      simp at h1 h2
      rw [h1] at h2
      cases h2
  | succ fuel ih =>
    intro listed a w hs hc hI
    refine ⟨fun hr => hend _ a w hI (ready_none hd hs hr), fun i hi => ?_⟩
    obtain ⟨h1, o, ho, hall⟩ := ready_mem hi
    have hlt : i < ops.size := (Array.getElem?_eq_some_iff.1 ho).1
    have hli : listed.getD i false = false := by
      rw [Array.getD_eq_getD_getElem?, Array.getElem?_eq_getElem (by omega)] at h1 ⊢
      exact h1
    have hset : (fun j => (listed.setIfInBounds i true).getD j false) = fun j => j == i || listed.getD j false := by
      funext j
      rw [Array.getD_eq_getD_getElem?, Array.getElem?_setIfInBounds, Array.getD_eq_getD_getElem?]
      by_cases hj : i = j
      · subst hj
        simp [show i < listed.size by omega]
      · have hj' : (j == i) = false := by simpa using Ne.symm hj
        simp [hj, hj']
    have hcnt : ∀ f, f = fuel → (List.range ops.size).countP (fun j => !(listed.setIfInBounds i true).getD j false) ≤ f := by
      intro f hf
      subst hf
      have h2 := hc (f + 1) rfl
      have h3 : (List.range ops.size).countP (fun j => !(listed.setIfInBounds i true).getD j false) < (List.range ops.size).countP (fun i => !listed.getD i false) := by
        have hfe : (fun j => !(listed.setIfInBounds i true).getD j false) = fun j => !(j == i || listed.getD j false) := by
          funext j
          rw [congrFun hset j]
        rw [hfe]
        have hmem : i ∈ List.range ops.size := List.mem_range.2 hlt
        have hsub : ∀ x ∈ List.range ops.size, (!(x == i || listed.getD x false)) = true → (!listed.getD x false) = true := by
          intro x _ hx
          simp at hx ⊢
          exact hx.2
        refine Nat.lt_of_le_of_ne (List.countP_mono_left hsub) fun heq => ?_
        have h4 : (List.range ops.size).countP (fun x => (!listed.getD x false)) = (List.range ops.size).countP (fun x => (!listed.getD x false) && (x == i)) + (List.range ops.size).countP (fun x => (!listed.getD x false) && !(x == i)) := by
          clear heq hsub hmem hfe
          induction (List.range ops.size) with
          | nil => rfl
          | cons y l ihl =>
            simp only [List.countP_cons]
            rw [ihl]
            cases !listed.getD y false <;> cases y == i <;> simp <;> omega
        have h5 : (fun x => (!listed.getD x false) && !(x == i)) = fun x => !(x == i || listed.getD x false) := by
          funext x
          cases listed.getD x false <;> cases x == i <;> rfl
        rw [h5, heq] at h4
        have h6 : (List.range ops.size).countP (fun x => (!listed.getD x false) && (x == i)) = 0 := by omega
        have h7 := List.countP_eq_zero.1 h6 i hmem
        rw [hli] at h7
        simp at h7
      omega
    have hs' : (listed.setIfInBounds i true).size = ops.size := by rw [Array.size_setIfInBounds]; exact hs
    have hst := hstep _ a w i o hI ho hli (fun e he hb => hall e he hb)
    unfold wpOp
    rw [ho]
    simp only
    rw [← hset] at hst
    split
    · rename_i hw
      rw [if_pos hw] at hst
      exact .inl (Oper.wp_mono (fun a' w' hI' => ih _ a' w' hs' hcnt hI') hst)
    · rename_i hw
      rw [if_neg hw] at hst
      exact ih _ _ _ hs' hcnt hst

theorem wp_region_inv {id : Nat} {a : Act} {w : World} (hm : P.follows .mixedOrders = true) (hd : edgesDown ops = true) (I : (Nat → Bool) → Act → World → Prop) (h0 : I (fun _ => false) a w.drew)
    (hstep : ∀ (L : Nat → Bool) (a : Act) (w : World) (i : Nat) (o : Oper), I L a w → ops[i]? = some o → L i = false → (∀ e ∈ o.after, Region.binds .any e = true → L e.on = true) →
      if Region.wanted o (yielded ops a.tmps) = true then o.wp P a w (I fun j => j == i || L j) Q else I (fun j => j == i || L j) (a.put o.dst undef) w)
    (hend : ∀ (L : Nat → Bool) (a : Act) (w : World), I L a w → (∀ i, i < ops.size → L i = true) → Q .normal a w) :
    (Code.region id ops true).wp P Q a w := by
  refine wp_region_any hm (wpAny_inv hd I hstep hend ops.size _ a _ (by simp) (fun f hf => ?_) ?_)
  · subst hf
    exact Nat.le_trans List.countP_le_length (by simp)
  · have : (fun j => (Array.replicate ops.size false).getD j false) = fun _ => false := by
      funext j
      rw [Array.getD_eq_getD_getElem?, Array.getElem?_replicate]
      split <;> rfl
    rw [this]
    exact h0
end
end Go
