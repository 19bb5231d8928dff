/- Part 12 of what this claim leans on: TT4. -/
import Derived.Test.YtdoooffmaokaeaaGreatDoorZ11
/- The program: texts in eight rows of bits: access, counts, places, sizes. -/
section
set_option linter.unusedVariables false
set_option linter.unusedSimpArgs false
set_option linter.unusedSectionVars false
namespace Go.Proofs.E
open Go Go.Proofs.MV Go.Proofs.MI
set_option linter.unusedVariables false
set_option maxRecDepth 10000
variable {L : Nat → (Nat → Option Obj) → Prop}
theorem pathC_gV (t : List Nat) (c k : Nat) (h : k ≤ 8) : gV (pathC t c 8) (k * 2) = .i .i64 (MT.from_ t k (MT.key k c) : Nat) := by
  rw [pathC_eq]
  rcases k with _ | _ | _ | _ | _ | _ | _ | _ | _ | k <;> first | rfl | omega
theorem sel_node {t : List Nat} (ht : MT.Bytes t) {l v p : Nat} (h1 : l < 8) (hv : v < 2 ^ l) (hp : p < t.length) (hk : MT.K t l p = v) :
    MR.Sel (MT.bitA l (t.getD p 0)) (MT.lev t l) (MR.rk (MT.bitA l (t.getD p 0)) (MT.lev t l) (MT.from_ t l v) + MT.firsts t (l + 1) (2 * v + (MT.bitA l (t.getD p 0)).toNat) p) (MT.from_ t l v + MT.firsts t l v p) := by
  obtain ⟨na, nb⟩ := node_at (t := t) (l := l) hp hk
  have hfl := MT.from_le ht (Nat.le_of_lt h1) hv
  have hll := MT.lev_length ht (l := l) (by omega)
  have hbn := MT.bit_node (t := t) hv nb
  rw [na] at hbn
  have h2 := MT.ones_node (t := t) hv (i := MT.firsts t l v p) (MT.firsts_le t l v p (by omega))
  have h4 := MT.node_ones (t := t) (v := v) h1 p (by omega)
  have hfs := MT.firsts_split (t := t) (v := v) h1 p
  have hc := MR.cnt_le (MT.lev t l) (MT.from_ t l v)
  refine ⟨by rw [hll]; omega, hbn, ?_⟩
  cases MT.bitA l (t.getD p 0)
  · simp only [MR.rk, Bool.false_eq_true, if_false, Bool.toNat_false, Nat.add_zero]
    omega
  · simp only [MR.rk, if_true, Bool.toNat_true]
    omega
theorem b_taccess (hT : ∀ n c, L n c → TabL n c) (kind : Nat) (hk : Kind kind) (t : List Nat) (ht : MT.Bytes t) (hl : t.length ≤ 40000) (hC : Pure Tryz.prog L 23 [treeV kind t] (.b true)) (i : Nat) (hi : i < t.length) : Pure Tryz.prog L 12 [treeV kind t, .i .i64 i] (.tup [.i .u8 (t.getD i 0 : Nat), .i .i64 0]) := by
  refine pure_of_W Tryz.func12 rfl rfl (by kernel_rfl) [] (args_below (tree_below 0 kind hk t) closed) closed fun A hL => ?_
  have h1 := b_symbol (L := L) hT kind hk t ht hl i hi
  have hlc := levC_length kind hk t 8
  unfold treeV at *
  unfold Tryz.f12
  refine gox ?_
  refine hC.does hL (gox ?_)
  refine h1.does hL (gox ?_)
  exact fin_
theorem b_taccess_no (kind : Nat) (hk : Kind kind) (t : List Nat) (ht : MT.Bytes t) (hl : t.length ≤ 40000) (hC : Pure Tryz.prog L 23 [treeV kind t] (.b true)) (i : Nat) (hi : t.length ≤ i) (hi2 : i < 1000000000) : Pure Tryz.prog L 12 [treeV kind t, .i .i64 i] (.tup [.i .u8 (0 : Nat), .i .i64 3]) := by
  refine pure_of_W Tryz.func12 rfl rfl (by kernel_rfl) [] (args_below (tree_below 0 kind hk t) closed) closed fun A hL => ?_
  have hlc := levC_length kind hk t 8
  unfold treeV at *
  unfold Tryz.f12
  refine gox ?_
  refine hC.does hL (gox ?_)
  exact fin_
theorem b_trank (hT : ∀ n c, L n c → TabL n c) (kind : Nat) (hk : Kind kind) (t : List Nat) (ht : MT.Bytes t) (hl : t.length ≤ 40000) (hC : Pure Tryz.prog L 23 [treeV kind t] (.b true)) (c : Nat) (hc : c < 256) (i : Nat) (hi : i ≤ t.length) : Pure Tryz.prog L 13 [treeV kind t, .i .u8 c, .i .i64 i] (.tup [.i .i64 ((t.take i).count c : Nat), .i .i64 0]) := by
  refine pure_of_W Tryz.func13 rfl rfl (by kernel_rfl) [] (args_below (tree_below 0 kind hk t) closed) closed fun A hL => ?_
  have h1 := b_twalk (L := L) hT kind hk t ht hl c hc i hi
  rw [MT.firsts_leaf t c i hi] at h1
  have hlc := levC_length kind hk t 8
  have hpl := pathC_length t c 8
  have hpo := pathC_one t c 8
  have hsp : spl (nums .i64 (List.replicate 18 0)) 0 (pathC t c 8) = pathC t c 8 := spl_all (by rw [hpl, len_nums]; rfl) (by omega)
  unfold treeV at *
  unfold Tryz.f13
  refine gox ?_
  refine hC.does hL (gox ?_)
  refine h1.does hL (gox ?_)
  exact fin_
theorem b_tselect_no (hT : ∀ n c, L n c → TabL n c) (kind : Nat) (hk : Kind kind) (t : List Nat) (ht : MT.Bytes t) (hl : t.length ≤ 40000) (hC : Pure Tryz.prog L 23 [treeV kind t] (.b true)) (c : Nat) (hc : c < 256) (k : Int) (hk0 : k < 0 ∨ ((t.count c : Nat) : Int) ≤ k) (hk1 : -9223372036854775808 ≤ k) (hk2 : k < 9223372036854775808) : Pure Tryz.prog L 21 [treeV kind t, .i .u8 c, .i .i64 k] (.tup [.i .i64 0, .i .i64 3]) := by
  refine pure_of_W Tryz.func21 rfl rfl (by kernel_rfl) [] (args_below (tree_below 0 kind hk t) closed) closed fun A hL => ?_
  have h1 := b_twalk (L := L) hT kind hk t ht hl c hc t.length (Nat.le_refl _)
  rw [MT.firsts_leaf t c _ (Nat.le_refl _), List.take_length] at h1
  have hlc := levC_length kind hk t 8
  have hpl := pathC_length t c 8
  have hpo := pathC_one t c 8
  have hsp : spl (nums .i64 (List.replicate 18 0)) 0 (pathC t c 8) = pathC t c 8 := spl_all (by rw [hpl, len_nums]; rfl) (by omega)
  unfold treeV at *
  unfold Tryz.f21
  refine gox ?_
  refine hC.does hL (gox ?_)
  refine h1.does hL (gox ?_)
  refine ⟨fun h => go ?_, fun h => ?_⟩
  · exact fin_
  · have hk3 : ((t.count c : Nat) : Int) ≤ k := by omega
    refine go ?_
    exact fin_
theorem b_tselect (hT : ∀ n c, L n c → TabL n c) (kind : Nat) (hk : Kind kind) (t : List Nat) (ht : MT.Bytes t) (hl : t.length ≤ 40000) (hC : Pure Tryz.prog L 23 [treeV kind t] (.b true)) (p : Nat) (hp : p < t.length) (c : Nat) (hcp : t.getD p 0 = c) : Pure Tryz.prog L 21 [treeV kind t, .i .u8 c, .i .i64 ((t.take p).count c : Nat)] (.tup [.i .i64 p, .i .i64 0]) := by
  refine pure_of_W Tryz.func21 rfl rfl (by kernel_rfl) [] (args_below (tree_below 0 kind hk t) closed) closed fun A hL => ?_
  have hc : c < 256 := by rw [← hcp]; exact ht.lt p hp
  have h1 := b_twalk (L := L) hT kind hk t ht hl c hc t.length (Nat.le_refl _)
  rw [MT.firsts_leaf t c _ (Nat.le_refl _), List.take_length] at h1
  have hcl : t.count c ≤ t.length := List.count_le_length
  have hcc : (t.take p).count c < t.count c := by
    have e : t = t.take p ++ (t[p] :: t.drop (p + 1)) := by rw [List.getElem_cons_drop, List.take_append_drop]
    have hx : t[p] = c := by rw [← hcp, List.getD_eq_getElem?_getD, List.getElem?_eq_getElem hp]; rfl
    calc (t.take p).count c < (t.take p).count c + (t[p] :: t.drop (p + 1)).count c := by rw [hx, List.count_cons_self]; omega
      _ = t.count c := by rw [← List.count_append, ← e]
  have hlc := levC_length kind hk t 8
  have hpl := pathC_length t c 8
  have hpo := pathC_one t c 8
  have hsp : spl (nums .i64 (List.replicate 18 0)) 0 (pathC t c 8) = pathC t c 8 := spl_all (by rw [hpl, len_nums]; rfl) (by omega)
  have hlev := fun l (h : l < 8) => levC_get kind hk t (m := 8) h
  have hll := fun l (h : l < 8) => MT.lev_length ht (l := l) (by omega)
  have hsel := fun l (h : l < 8) b k q hq => b_vselect (L := L) hT kind hk (MT.lev t l) (by rw [hll l h]; omega) b k q hq
  have hrk := fun l (h : l < 8) b j hj => b_vrank (L := L) hT kind hk (MT.lev t l) (by rw [hll l h]; omega) b j hj
  unfold treeV vecV at *
  unfold Tryz.f21
  refine gox ?_
  refine hC.does hL (gox ?_)
  refine h1.does hL (gox ?_)
  clear hC h1
  have hfr : ∀ H n0, (levC kind t 8).map (frn Tryz.prog H n0 5) = levC kind t 8 := fun H n0 => frn_lev Tryz.prog H n0 3 kind hk t 8
  have hfp : ∀ H n0, (pathC t c 8).map (frn Tryz.prog H n0 6) = pathC t c 8 := fun H n0 => frn_path Tryz.prog H n0 5 t c 8
  refine loop_ (fun l : Nat => ⟨[(1, .i .u8 c), (2, .i .i64 (MT.firsts t l (MT.key l c) p : Nat)), (3, .p 0 0 0), (8, .p 1 0 0), (10, .i .i64 ((l : Int) - 1))], [⟨26, 0, [.i .i64 kind, .i .i64 t.length, .sl false 8 (levC kind t 8)], true⟩, ⟨80, 0, pathC t c 8, true⟩]⟩) (fun l => l ≤ 8) (fun l => l) 8 (Nat.le_refl _) (le_slots' (Nat.zero_le _) ?_ (go ?_)) fun l hl8 => ?_
  · exact congrArg (fun x => [(⟨26, 0, [.i .i64 kind, .i .i64 t.length, .sl false 8 (levC kind t 8)], true⟩ : Blk), ⟨80, 0, x, true⟩]) hsp.symm
  · rw [MT.key_eight, MT.firsts_leaf t c p (by omega)]
  · refine go ?_
    refine ⟨fun h2 => ?_, fun h2 => ?_⟩
    · obtain ⟨m, rfl⟩ : ∃ m, l = m + 1 := ⟨l - 1, by omega⟩
      have hm : m < 8 := by omega
      have hkm : MT.K t m p = MT.key m c := by rw [MT.K, hcp]
      have hkl := MT.key_lt m c (by omega) hc
      have hS := sel_node ht hm hkl hp hkm
      rw [hcp] at hS
      have hs := hsel m hm _ _ _ hS
      have hfl := MT.from_le ht (Nat.le_of_lt hm) hkl
      have hr := hrk m hm (MT.bitA m c) (MT.from_ t m (MT.key m c)) (by rw [hll m hm]; omega)
      rw [← MT.key_succ m c hm] at hs
      have e0 : ((m + 1 : Nat) : Int) - 1 = (m : Nat) := by omega
      have e1 := hlev m hm
      have e2 := vec_one kind hk (MT.lev t m)
      have e3 := vec_length kind hk (MT.lev t m)
      have hsp2 : spl [.i .i64 0, .i .i64 0, .ns, .ns, .ns, .i .i64 0, .i .i64 0, .i .i64 0, .i .i64 0, .ns, .i .i64 0, .ns, .ns, .ns, .i .i64 0, .i .i64 0, .i .i64 0, .i .i64 0, .i .i64 0, .ns, .i .i64 0, .ns] 0 (vecC kind (MT.lev t m)) = vecC kind (MT.lev t m) := spl_all (by rw [e3]; rfl) (by omega)
      have hb := bit_val c m (by omega)
      have p1 := pathC_gV t c m (by omega)
      have hrl := MR.rk_le (MT.bitA m c) (MT.lev t m) (MT.from_ t m (MT.key m c))
      have hfq := MT.firsts_le t (m + 1) (MT.key (m + 1) c) p (by omega)
      have hfl2 := MT.from_le ht (show m + 1 ≤ 8 by omega) (MT.key_lt (m + 1) c (by omega) hc)
      have sh8 : c >>> (7 - m) < 256 := Nat.lt_of_le_of_lt (Nat.shiftRight_le _ _) hc
      have hfx := MT.firsts_le t m (MT.key m c) p (by omega)
      clear hsel hrk hlev hS hsp
      rw [e0]
      refine gox ?_
      refine regL 13 [⟨11, some 2, []⟩, ⟨12, none, [11, 4, 3, 2, 1, 0]⟩] 1 (fun f => [⟨26, 0, [.i .i64 kind, .i .i64 t.length, .sl false 8 (levC kind t 8)], true⟩, ⟨80, 0, pathC t c 8, true⟩, if f 11 = true then ⟨45, 1, if f 12 = true then vecC kind (MT.lev t m) else [.i .i64 0, .i .i64 0, .ns, .ns, .ns, .i .i64 0, .i .i64 0, .i .i64 0, .i .i64 0, .ns, .i .i64 0, .ns, .ns, .ns, .i .i64 0, .i .i64 0, .i .i64 0, .i .i64 0, .i .i64 0, .ns, .i .i64 0, .ns], true⟩ else ⟨0, 0, [], false⟩]) (by kernel_rfl) (by kernel_rfl) (by kernel_rfl) (fun f g h => by simp only [h 11 rfl, h 12 rfl]) rfl ?t1 (fun f hf => ?_) ?_
      rotate_left
      · have g12 : f 12 = true → f 11 = true := fun h => hf ⟨12, none, [11, 4, 3, 2, 1, 0]⟩ (by simp) h ⟨11, some 2, []⟩ (by simp) rfl
        clear hf
        cases h12 : f 12 <;> cases h11 : f 11 <;> first | exact absurd (g12 h12) (by rw [h11]; decide) | (refine gox ?_; first | exact True.intro | rfl)
      refine gox ?_
      refine regD 12 (by kernel_rfl) (by kernel_rfl) (gox ?_)
      refine ⟨_, hr.does hL ⟨rfl, rfl⟩, ?_⟩
      refine gox ?_
      refine hs.does hL (gox ?_)
      refine ⟨m, by omega, by omega, le_gc 2 (Nat.zero_le _) (by simp) ?_ ?_⟩
      · refine go ?_
        simp only [hfr, hfp, and_self]
      · refine gox ?_
        first | exact (hfr _ _).symm | trivial
    · obtain rfl : l = 0 := by omega
      have hz : MT.firsts t 0 (MT.key 0 c) p = p := by rw [MT.key_zero hc]; exact MT.many_root ht p (by omega)
      clear hsp hlev hsel hrk
      refine gox ?_
      exact fin_
def tsz (kind : Nat) (t : List Nat) : Nat → Nat
  | 0 => 0
  | m + 1 => tsz kind t m + vsz kind (MT.lev t m)
theorem b_tsize (hT : ∀ n c, L n c → TabL n c) (kind : Nat) (hk : Kind kind) (t : List Nat) (ht : MT.Bytes t) (hl : t.length ≤ 40000) (hC : Pure Tryz.prog L 23 [treeV kind t] (.b true)) (hv : ∀ l, l < 8 → vsz kind (MT.lev t l) ≤ 1000000000000) : Pure Tryz.prog L 16 [treeV kind t] (.i .i64 (tsz kind t 8 : Nat)) := by
  refine pure_of_W Tryz.func16 rfl rfl (by kernel_rfl) [] (args_below (tree_below 0 kind hk t) closed) closed fun A hL => ?_
  have hlc := levC_length kind hk t 8
  have hlev := fun l (h : l < 8) => levC_get kind hk t (m := 8) h
  have hll := fun l (h : l < 8) => MT.lev_length ht (l := l) (by omega)
  have hsz := fun l (h : l < 8) => b_vsize (L := L) hT kind hk (MT.lev t l) (by rw [hll l h]; omega)
  have hfr : ∀ H n0, (levC kind t 8).map (frn Tryz.prog H n0 5) = levC kind t 8 := fun H n0 => frn_lev Tryz.prog H n0 3 kind hk t 8
  have hbd : ∀ m, m ≤ 8 → tsz kind t m ≤ m * 1000000000000 := by
    intro m
    induction m with
    | zero => intro _; exact Nat.le_refl _
    | succ m ih => intro h; have := ih (by omega); have := hv m (by omega); unfold tsz; omega
  unfold treeV vecV at *
  unfold Tryz.f16
  refine gox ?_
  refine hC.does hL (gox ?_)
  clear hC
  refine loop_ (fun l : Nat => ⟨[(1, .p 0 0 0), (3, .i .i64 (tsz kind t l : Nat)), (10, .sl false 8 (levC kind t 8)), (11, .i .i64 8), (12, .i .i64 l)], [⟨26, 0, [.i .i64 kind, .i .i64 t.length, .sl false 8 (levC kind t 8)], true⟩]⟩) (fun l => l ≤ 8) (fun l => 8 - l) 0 (Nat.zero_le _) (le_slots (Nat.zero_le _) (go ?_)) fun l hl8 => go ?_
  · exact rfl
  refine ⟨fun h1 => ?_, fun h1 => ?_⟩
  · have e1 := hlev l h1
    have e2 := vec_one kind hk (MT.lev t l)
    have e3 := vec_length kind hk (MT.lev t l)
    have hsp : spl [.i .i64 0, .i .i64 0, .ns, .ns, .ns, .i .i64 0, .i .i64 0, .i .i64 0, .i .i64 0, .ns, .i .i64 0, .ns, .ns, .ns, .i .i64 0, .i .i64 0, .i .i64 0, .i .i64 0, .i .i64 0, .ns, .i .i64 0, .ns] 0 (vecC kind (MT.lev t l)) = vecC kind (MT.lev t l) := spl_all (by rw [e3]; rfl) (by omega)
    have hs := hsz l h1
    have hb1 := hbd l hl8
    have hb2 := hv l h1
    have e4 : tsz kind t (l + 1) = tsz kind t l + vsz kind (MT.lev t l) := rfl
    clear hlev hsz hbd hv
    refine gox ?_
    refine hs.does hL (go ?_)
    refine ⟨l + 1, by omega, by omega, le_gc 1 (Nat.zero_le _) (by simp) ?_ ?_⟩
    · refine go ?_
      simp only [hfr, and_self]
    · rw [e4]
      refine gox ?_
      first | exact (hfr _ _).symm | trivial
  · obtain rfl : l = 8 := by omega
    have hb1 := hbd 8 (Nat.le_refl _)
    refine go ?_
    exact fin_
end Go.Proofs.E
end
