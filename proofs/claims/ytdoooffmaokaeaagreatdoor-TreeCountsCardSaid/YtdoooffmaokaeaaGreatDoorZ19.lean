/- Part 19 of what this claim leans on: YLay, MS, TZ, TZ2, TT5, TT6, TT7, TL12. -/
import Derived.Ground.SlsfProg
import Derived.Shelf.SlSortCmp.Whole1
import Derived.Test.YtdoooffmaokaeaaGreatDoorProg
import Derived.Test.YtdoooffmaokaeaaGreatDoorZ11
import Derived.Test.YtdoooffmaokaeaaGreatDoorZ16
import Derived.Test.YtdoooffmaokaeaaGreatDoorZ4
import Derived.Test.YtdoooffmaokaeaaGreatDoorZ12
import Derived.Test.YtdoooffmaokaeaaGreatDoorZ18
import Derived.Test.YtdoooffmaokaeaaGreatDoorZ5
/-
  DERIVED: THE SHELF's CONTRACTS AT THIS DUMP, IN PLAIN WORDS (tools/lay-plain.mjs out of 'TryShelf.lean', which tools/lay-shelf.mjs wrote): THE SAME DECLARATIONS UNDER THE SAME NAMES: 'import', 'namespace', 'open', 'def', 'theorem' AND NOTHING ELSE: no command of the shelf's: FOR A HAND-IN. Each laying: the table of numbers ('.._ren') and one theorem, a field a fact of the dump's own or the kernel's comparison; each contract: ONE APPLICATION.
-/
section
set_option linter.unusedVariables false
set_option linter.unusedSimpArgs false
set_option linter.unusedSectionVars false
namespace Go.Proofs
open Go.Shelf
def Tryz.sortL_ren : Go.Shelf.Ren := ⟨fun | 6 => 84 | 15 => 140 | 14 => 139 | 28 => 179 | 29 => 180 | 20 => 171 | 21 => 172 | 22 => 173 | 23 => 174 | 24 => 175 | 25 => 176 | 26 => 177 | 27 => 178 | 46 => 195 | 47 => 196 | 48 => 197 | 49 => 198 | 50 => 199 | 57 => 201 | n => n, fun | 22 => 35 | 24 => 3 | 25 => 130 | 3 => 3 | 39 => 30 | 0 => 0 | 53 => 206 | 55 => 95 | 4 => 4 | 46 => 199 | 45 => 198 | 50 => 203 | 5 => 5 | 9 => 9 | 66 => 219 | 70 => 223 | 76 => 231 | 77 => 60 | n => n, fun | n => n⟩
theorem Tryz.sortL : Go.Proofs.SlLaysF.n6 Tryz.prog Tryz.sortL_ren := {
  mixed := by kernel_rfl
  f6 := ⟨Tryz.f84.name, by decide, Tryz.func84.trans (congrArg some (by kernel_rfl))⟩
  f14 := ⟨Tryz.f139.name, by decide, Tryz.func139.trans (congrArg some (by kernel_rfl))⟩
  f15 := Tryz.func140.trans (congrArg some (by kernel_rfl))
  f20 := ⟨Tryz.f171.name, by decide, Tryz.func171.trans (congrArg some (by kernel_rfl))⟩
  f21 := ⟨Tryz.f172.name, by decide, Tryz.func172.trans (congrArg some (by kernel_rfl))⟩
  f22 := ⟨Tryz.f173.name, by decide, Tryz.func173.trans (congrArg some (by kernel_rfl))⟩
  f23 := ⟨Tryz.f174.name, by decide, Tryz.func174.trans (congrArg some (by kernel_rfl))⟩
  f24 := ⟨Tryz.f175.name, by decide, Tryz.func175.trans (congrArg some (by kernel_rfl))⟩
  f25 := ⟨Tryz.f176.name, by decide, Tryz.func176.trans (congrArg some (by kernel_rfl))⟩
  f26 := ⟨Tryz.f177.name, by decide, Tryz.func177.trans (congrArg some (by kernel_rfl))⟩
  f27 := ⟨Tryz.f178.name, by decide, Tryz.func178.trans (congrArg some (by kernel_rfl))⟩
  f28 := Tryz.func179.trans (congrArg some (by kernel_rfl))
  f29 := Tryz.func180.trans (congrArg some (by kernel_rfl))
  f46 := ⟨Tryz.f195.name, by decide, Tryz.func195.trans (congrArg some (by kernel_rfl))⟩
  f47 := Tryz.func196.trans (congrArg some (by kernel_rfl))
  f48 := Tryz.func197.trans (congrArg some (by kernel_rfl))
  f49 := ⟨Tryz.f198.name, by decide, Tryz.func198.trans (congrArg some (by kernel_rfl))⟩
  f50 := ⟨Tryz.f199.name, by decide, Tryz.func199.trans (congrArg some (by kernel_rfl))⟩
  f57 := ⟨Tryz.f201.name, by decide, Tryz.func201.trans (congrArg some (by kernel_rfl))⟩
  t0 := Tryz.underlying0
  a0 := Tryz.isAgg0
  z0 := Tryz.sizeOf0
  v0 := Tryz.zeroValue0
  t3 := Tryz.underlying3
  a3 := Tryz.isAgg3
  z3 := Tryz.sizeOf3
  v3 := Tryz.zeroValue3
  t4 := Tryz.underlying4
  a4 := Tryz.isAgg4
  z4 := Tryz.sizeOf4
  v4 := Tryz.zeroValue4
  t5 := Tryz.underlying5
  a5 := Tryz.isAgg5
  z5 := Tryz.sizeOf5
  v5 := Tryz.zeroValue5
  t9 := Tryz.underlying9
  a9 := Tryz.isAgg9
  z9 := Tryz.sizeOf9
  v9 := Tryz.zeroValue9
  t22 := Tryz.underlying35
  a22 := Tryz.isAgg35
  z22 := Tryz.sizeOf35
  v22 := Tryz.zeroValue35
  a24 := Tryz.isAgg3
  z24 := Tryz.sizeOf3
  t25 := Tryz.underlying130
  a25 := Tryz.isAgg130
  z25 := Tryz.sizeOf130
  v25 := Tryz.zeroValue130
  t39 := Tryz.underlying30
  a39 := Tryz.isAgg30
  z39 := Tryz.sizeOf30
  v39 := Tryz.zeroValue30
  t45 := Tryz.underlying198
  a45 := Tryz.isAgg198
  z45 := Tryz.sizeOf198
  v45 := Tryz.zeroValue198
  t46 := Tryz.underlying199
  a46 := Tryz.isAgg199
  z46 := Tryz.sizeOf199
  v46 := Tryz.zeroValue199
  t50 := Tryz.underlying203
  a50 := Tryz.isAgg203
  z50 := Tryz.sizeOf203
  v50 := Tryz.zeroValue203
  t53 := Tryz.underlying206
  a53 := Tryz.isAgg206
  z53 := Tryz.sizeOf206
  v53 := Tryz.zeroValue206
  t55 := Tryz.underlying95
  a55 := Tryz.isAgg95
  z55 := Tryz.sizeOf95
  v55 := Tryz.zeroValue95
  t66 := Tryz.underlying219
  a66 := Tryz.isAgg219
  z66 := Tryz.sizeOf219
  v66 := Tryz.zeroValue219
  t70 := Tryz.underlying223
  a70 := Tryz.isAgg223
  z70 := Tryz.sizeOf223
  v70 := Tryz.zeroValue223
  t76 := Tryz.underlying231
  a76 := Tryz.isAgg231
  z76 := Tryz.sizeOf231
  v76 := Tryz.zeroValue231
  t77 := Tryz.underlying60
  a77 := Tryz.isAgg60
  z77 := Tryz.sizeOf60
  v77 := Tryz.zeroValue60 }
end Go.Proofs
end
/- Places that a sort has put by one bit more; in plain Lean. Of no function of the program. -/
section
set_option linter.unusedVariables false
set_option linter.unusedSimpArgs false
set_option linter.unusedSectionVars false
namespace Go.Proofs.MT
open Go.Sort Go.Proofs.MathMerge
set_option linter.unusedVariables false
/-- 0, 1, .. -/
def idA (n : Nat) : Array Int := ((List.range n).map fun i : Nat => (i : Int)).toArray
theorem idA_size (n : Nat) : (idA n).size = n := by simp [idA]
theorem idA_get (n k : Nat) (h : k < n) : (idA n)[k]! = (k : Int) := by
  rw [getElem!_pos _ k (by rw [idA_size]; exact h)]
  simp [idA]
theorem perm_list {α : Type} [Inhabited α] {d d' : Array α} {n : Nat} (hn : d.size = n) (h : PermIn 0 n d d') : d'.toList.Perm d.toList := by
  have h3 := h.2.2
  have hx : ∀ (x : Array α) (m : Nat), x.size = m → x.extract 0 m = x := fun x m hm => by subst hm; simp
  rw [hx d' _ (by rw [h.1, hn]), hx d _ hn] at h3
  exact h3
theorem sorted_pw {α : Type} [Inhabited α] {lt : α → α → Bool} {d : Array α} {n : Nat} (hn : d.size = n) (h : SortedIn lt 0 n d) : d.toList.Pairwise fun a b => lt b a = false := by
  rw [List.pairwise_iff_getElem]
  intro i j hi hj hij
  have hi' : i < d.size := by simpa using hi
  have hj' : j < d.size := by simpa using hj
  have := h i j (Nat.zero_le _) hij (by omega)
  rw [getElem!_pos d i hi', getElem!_pos d j hj'] at this
  simpa using this
theorem K_half {t : List Nat} {l : Nat} (h : l < 8) (i : Nat) : K t l i = K t (l + 1) i / 2 := by
  have := key_succ l (t.getD i 0) h
  change K t (l + 1) i = 2 * K t l i + _ at this
  have hb := Bool.toNat_lt (bitA l (t.getD i 0))
  omega
/-- A stable sort of the places by one bit more. -/
theorem stable_next {t : List Nat} (ht : Bytes t) {l : Nat} (hl : l < 8) {d' : Array Int} (hp : PermIn 0 t.length (idA t.length) d') (hs : SortedIn (lexB fun i : Int => ((K t (l + 1) ((pos t l).getD i.toNat 0) : Nat) : Int)) 0 t.length d') :
    d'.toList.map (fun i : Int => (pos t l).getD i.toNat 0) = pos t (l + 1) := by
  have hpl := pos_length ht (l := l) (by omega)
  have hperm := perm_list (idA_size _) hp
  have hnd : d'.toList.Nodup := by
    refine hperm.nodup_iff.2 ?_
    simp only [idA]
    exact List.Pairwise.map _ (fun a b (h : a ≠ b) => by omega) (List.nodup_range (n := t.length))
  have hmem : ∀ x ∈ d'.toList, 0 ≤ x ∧ x < (t.length : Int) := fun x hx => by
    have := hperm.mem_iff.1 hx
    simp only [idA, List.mem_map, List.mem_range] at this
    obtain ⟨i, hi, rfl⟩ := this
    omega
  have hpw := sorted_pw (by rw [hp.1, idA_size]) hs
  have hpp := ordTo_pw (K t l) t.length (2 ^ l)
  change (pos t l).Pairwise (ahead (K t l)) at hpp
  refine ordTo_uniq _ _ _ (K_lt ht (by omega)) _ ?_ ?_
  · have h1 : (d'.toList.map fun i : Int => (pos t l).getD i.toNat 0).Perm ((idA t.length).toList.map fun i : Int => (pos t l).getD i.toNat 0) := hperm.map _
    refine h1.trans ?_
    have h2 : ((idA t.length).toList.map fun i : Int => (pos t l).getD i.toNat 0) = pos t l := by
      simp only [idA, List.map_map]
      apply List.ext_getElem (by simp [hpl])
      intro i h1 h2
      simp [h2]
    rw [h2]
    exact ordTo_perm _ _ _ (K_lt ht (by omega))
  · rw [List.pairwise_map]
    have hboth := hpw.and hnd
    refine List.Pairwise.imp_of_mem ?_ hboth
    rintro a b ha hb ⟨hab, hne⟩
    rw [lexB_not] at hab
    have h1 := hmem a ha
    have h2 := hmem b hb
    rcases hab with hab | ⟨hab, hle⟩
    · exact .inl (by omega)
    · refine .inr ⟨by omega, ?_⟩
      have hlt : a.toNat < b.toNat := by omega
      have := (List.pairwise_iff_getElem.1 hpp) a.toNat b.toNat (by rw [hpl]; omega) (by rw [hpl]; omega) hlt
      rw [List.getD_eq_getElem?_getD, List.getD_eq_getElem?_getD, List.getElem?_eq_getElem (by rw [hpl]; omega), List.getElem?_eq_getElem (by rw [hpl]; omega)] at hab ⊢
      simp only [Option.getD_some] at hab ⊢
      have e1 := K_half (t := t) hl (pos t l)[a.toNat]
      have e2 := K_half (t := t) hl (pos t l)[b.toNat]
      unfold ahead at this
      omega
/-- Any sort of the places by one bit more, then by the places. -/
theorem sort_next {t : List Nat} (ht : Bytes t) {l : Nat} (hl : l < 8) {n : Nat} (hn : t.length = n) {q : List Nat} (hp : q.Perm (pos t l)) (hs : q.Pairwise fun a b => ¬ (K t (l + 1) b < K t (l + 1) a ∨ K t (l + 1) b = K t (l + 1) a ∧ b < a)) : q = pos t (l + 1) := by
  have h1 : q.Perm (List.range t.length) := hp.trans (ordTo_perm _ _ _ (K_lt ht (by omega)))
  have hnd : q.Nodup := h1.nodup_iff.2 List.nodup_range
  refine ordTo_uniq _ _ _ (K_lt ht (by omega)) _ h1 (List.Pairwise.imp ?_ (hs.and hnd))
  rintro a b ⟨h1, h2⟩
  have h2 : a ≠ b := h2
  unfold ahead
  omega
end Go.Proofs.MT
end
/- The program: copies of bytes, rows that are sorted. -/
section
set_option linter.unusedVariables false
set_option linter.unusedSimpArgs false
set_option linter.unusedSectionVars false
namespace Go.Proofs.E
open Go Go.Proofs.MV Go.Proofs.MI Go.Sort
set_option linter.unusedVariables false
set_option maxRecDepth 10000
variable {L : Nat → (Nat → Option Obj) → Prop}
theorem b_clone {A : Amb} (f : Bool) (l : List Nat) (h0 : 0 < l.length) (hl : l.length ≤ 1000000) {H : Heap} {K : V → Heap → Prop} (hK : K (.o H.length 0 0 l.length) (H ++ [⟨5, 0, nums .u8 l, true⟩])) : Does Tryz.prog A 27 [.sl f l.length (nums .u8 l)] H K := by
  refine does_of_W Tryz.func27 rfl rfl (by kernel_rfl) [] ?_
  unfold Tryz.f27
  refine gox ?_
  exact hK
theorem b_clone0 {A : Amb} (f : Bool) {H : Heap} {K : V → Heap → Prop} (hK : K (.sl false 0 []) H) : Does Tryz.prog A 27 [.sl f 0 []] H K := by
  refine Does.lo (K' := fun r H' => lo r = .sl false 0 [] ∧ H' = H) ?_ (fun r H' h => by rw [h.1, h.2]; exact hK)
  refine does_of_W Tryz.func27 rfl rfl (by kernel_rfl) [] ?_
  unfold Tryz.f27
  refine gox ?_
  refine ⟨gox ?_, gox ?_⟩
  all_goals first | exact ⟨rfl, rfl⟩ | rfl
theorem b_tcmp (x y l : Nat) (hx : x < 256) (hy : y < 256) (hl : l ≤ 7) : Pure Tryz.prog L 31 [.i .u8 x, .i .u8 y, .r [.i .i64 l] 0] (.i .i64 (((x / 2 ^ (7 - l) : Nat) : Int) - ((y / 2 ^ (7 - l) : Nat) : Int))) := by
  refine pure_of_W Tryz.func31 rfl rfl (by kernel_rfl) [] closed (.i _ _) fun A hL => ?_
  have h1 : x / 2 ^ (7 - l) ≤ x := Nat.div_le_self _ _
  have h2 : y / 2 ^ (7 - l) ≤ y := Nat.div_le_self _ _
  obtain ⟨a, ha⟩ : ∃ a, x / 2 ^ (7 - l) = a := ⟨_, rfl⟩
  obtain ⟨b, hb⟩ : ∃ a, y / 2 ^ (7 - l) = a := ⟨_, rfl⟩
  rw [ha] at h1 ⊢
  rw [hb] at h2 ⊢
  unfold Tryz.f31
  refine gox ?_
  refine regD 12 (by kernel_rfl) (by kernel_rfl) (gox ?_)
  exact fin_
/-- The symbols of a level, in order. -/
def symL (t : List Nat) (l : Nat) : List Nat := (MT.pos t l).map fun i => t.getD i 0
theorem symL_length {t : List Nat} (ht : MT.Bytes t) {l : Nat} (hl : l ≤ 8) : (symL t l).length = t.length := by unfold symL; rw [List.length_map, MT.pos_length ht hl]
def phiT (t : List Nat) (l : Nat) (i : Int) : Int := (t.getD ((MT.pos t l).getD i.toNat 0) 0 : Nat)
theorem getD_byte {t : List Nat} (ht : MT.Bytes t) (i : Nat) : t.getD i 0 < 256 := by
  rcases Nat.lt_or_ge i t.length with h | h
  · exact ht.lt i h
  · rw [List.getD_eq_getElem?_getD, List.getElem?_eq_none h]; decide
theorem row_id {t : List Nat} (ht : MT.Bytes t) {l : Nat} (hl : l ≤ 8) : rowV .u8 (phiT t l) (MT.idA t.length) = nums .u8 (symL t l) := by
  have hp := MT.pos_length ht hl
  unfold rowV symL nums MT.idA
  rw [List.map_map, List.map_map]
  apply List.ext_getElem (by simp [hp])
  intro i h1 h2
  have hi : i < (MT.pos t l).length := by simpa using h2
  simp only [List.getElem_map, List.getElem_range, Function.comp, phiT, Int.toNat_natCast]
  rw [List.getD_eq_getElem?_getD (l := MT.pos t l), List.getElem?_eq_getElem hi]; rfl
theorem row_next {t : List Nat} {l : Nat} {d' : Array Int} (h : d'.toList.map (fun i : Int => (MT.pos t l).getD i.toNat 0) = MT.pos t (l + 1)) : rowV .u8 (phiT t l) d' = nums .u8 (symL t (l + 1)) := by
  unfold rowV symL nums
  rw [← h, List.map_map, List.map_map]
  rfl
theorem b_tstable {A : Amb} {t : List Nat} (ht : MT.Bytes t) {l : Nat} (hl : l < 8) (h0 : 0 < t.length) (hn : t.length ≤ 40000) {H : Heap} {b gg bl : Nat} (hb : H[b]? = some ⟨5, gg, nums .u8 (symL t l), true⟩) (hbl : H[bl]? = some ⟨3, 0, [.i .i64 l], true⟩) (hne : bl ≠ b) {K : V → Heap → Prop}
    (hK : K (.tup []) (H.set b ⟨5, gg, nums .u8 (symL t (l + 1)), true⟩)) : Does Tryz.prog A 30 [.o b gg 0 t.length, .f (.func 31) [] [.p bl 0 0]] H K := by
  have eg : ∀ args w, (callFunc 31 args).run Tryz.prog w = .ok (.enter 31 args) w := enters_of Tryz.func31 (by kernel_rfl) rfl
  have hsz := MT.idA_size t.length
  have key : ∀ K', (K' (.tup []) (H.set b ⟨5, gg, nums .u8 (symL t (l + 1)), true⟩)) → Does Tryz.prog A 52 [.o b gg 0 t.length, .i .i64 t.length, .f (.func 31) [] [.p bl 0 0]] H K' := by
    intro K' hK'
    have := sort_doesN (P := Tryz.prog) (A := A) (L := fun _ _ => True) (f := 52) (g := 31) (K := K') (k := .u8) (φ := phiT t l) (nfr := 2) (cf := fun x y => ((MT.key (l + 1) (phiT t l x).toNat : Nat) : Int) - ((MT.key (l + 1) (phiT t l y).toNat : Nat) : Int)) (d0 := MT.idA t.length) (caps := [.p bl 0 0])
      (Q := fun d' => d'.toList.map (fun i : Int => (MT.pos t l).getD i.toNat 0) = MT.pos t (l + 1)) [(t.length : Int)] Tryz.func52 (by kernel_rfl) (by kernel_rfl) (b := b) (gg := gg) (t := 5) (H := H) (by rw [row_id ht (by omega)]; exact hb) (by rw [hsz]; exact h0) trivial eg
      (fun d hd x y => ?_) (fun w q cap cb hC hH hq => ?_) (fun d' hQ hd => ?_)
    · rw [hsz] at this
      exact this
    · have hx := getD_byte ht ((MT.pos t l).getD x.toNat 0)
      have hy := getD_byte ht ((MT.pos t l).getD y.toNat 0)
      have hc := b_tcmp (L := fun _ _ => True) (t.getD ((MT.pos t l).getD x.toNat 0) 0) (t.getD ((MT.pos t l).getD y.toNat 0) 0) l hx hy (by omega)
      have hfr : [V.p bl 0 0].map (frz Tryz.prog (H.set b ⟨5, gg, rowV .u8 (phiT t l) d, true⟩) 2) = [.r [.i .i64 l] 0] := by
        have : Heap.at (H.set b ⟨5, gg, rowV .u8 (phiT t l) d, true⟩ : Heap) bl 0 = some ⟨3, 0, [.i .i64 l], true⟩ := by
          unfold Heap.at
          rw [List.getElem?_set_ne (Ne.symm hne), hbl]; rfl
        simp only [List.map_cons, List.map_nil, frz, this]
      rw [hfr]
      simp only [phiT, MT.key, Int.toNat_natCast, show 8 - (l + 1) = 7 - l by omega]
      exact hc
    · have T : Go.Proofs.YtdoooffmaokaeaaGreatDoor.StableB.Told (fun i : Int => ((MT.K t (l + 1) ((MT.pos t l).getD i.toNat 0) : Nat) : Int)) (encI .u8 (phiT t l)) (fun x y => ((MT.key (l + 1) (phiT t l x).toNat : Nat) : Int) - ((MT.key (l + 1) (phiT t l y).toNat : Nat) : Int)) 31 cb q 0 (MT.idA t.length) w :=
        ⟨⟨fun _ => rfl, hH, hq⟩, eg, hC, fun x y => by
          unfold Go.Proofs.MathMerge.ltB
          rw [decide_eq_true_iff]
          simp only [phiT, Int.toNat_natCast, MT.K]
          omega, by rw [hsz]; omega⟩
      have := Go.Proofs.YtdoooffmaokaeaaGreatDoor.StableB.stable_any _ _ _ _ cb q 0 cap t.length (MT.idA t.length) (MT.idA t.length) w w T hsz hsz (SW.start hH) (fun k hk => MT.idA_get _ _ hk) (by omega)
      rw [hsz]
      exact this.mono fun e w' ⟨he, d', hp, hs, m, os, hw⟩ => ⟨he, m, os, d', MT.stable_next ht hl hp hs, by rw [hp.1, hsz], hw⟩
    · rw [row_next hQ]; exact hK'
  refine does_of_W Tryz.func30 rfl rfl (by kernel_rfl) [] ?_
  unfold Tryz.f30
  refine gox ?_
  refine key _ ?_
  refine go ?_
  exact hK
theorem b_ins0 {A : Amb} (g : V) {H : Heap} {K : V → Heap → Prop} (hK : K (.tup []) H) : Does Tryz.prog A 100 [.sl false 0 [], .i .i64 0, .i .i64 0, g] H K := by
  refine does_of_W Tryz.func100 rfl rfl (by kernel_rfl) [] ?_
  unfold Tryz.f100
  refine go ?_
  refine loop_ (fun _ : Unit => ⟨[(2, .i .i64 0), (8, .i .i64 1)], H⟩) (fun _ => True) (fun _ => 0) () trivial (le_slots (Nat.le_refl _) (go trivial)) fun x hx => go ?_
  exact hK
theorem b_stable0 {A : Amb} (g : V) {H : Heap} {K : V → Heap → Prop} (hK : K (.tup []) H) : Does Tryz.prog A 30 [.sl false 0 [], g] H K := by
  have key : ∀ K' : V → Heap → Prop, K' (.tup []) H → Does Tryz.prog A 52 [.sl false 0 [], .i .i64 0, g] H K' := by
    intro K' hK'
    refine does_of_W Tryz.func52 rfl rfl (by kernel_rfl) [] ?_
    unfold Tryz.f52
    refine go ?_
    refine loop_ (fun _ : Unit => ⟨[(0, .sl false 0 []), (1, .i .i64 0), (2, g), (6, .i .i64 20), (7, .i .i64 0), (8, .i .i64 20)], H⟩) (fun _ => True) (fun _ => 0) () trivial (le_slots (Nat.le_refl _) (go trivial)) fun x hx => go ?_
    refine b_ins0 g (go ?_)
    refine loop_ (fun _ : Unit => ⟨[(1, .i .i64 0), (6, .i .i64 20)], H⟩) (fun _ => True) (fun _ => 0) () trivial (le_slots (Nat.le_refl _) (go trivial)) fun x hx => go ?_
    exact hK'
  refine does_of_W Tryz.func30 rfl rfl (by kernel_rfl) [] ?_
  unfold Tryz.f30
  refine go ?_
  refine key _ ?_
  refine go ?_
  exact hK
end Go.Proofs.E
end
/- The program: places that are sorted by a text's highest bits. -/
section
set_option linter.unusedVariables false
set_option linter.unusedSimpArgs false
set_option linter.unusedSectionVars false
namespace Go.Proofs.E
open Go Go.Proofs.MV Go.Proofs.MI Go.Sort Go.Shelf
set_option linter.unusedVariables false
set_option maxRecDepth 10000
variable {L : Nat → (Nat → Option Obj) → Prop}
/-- A text of its symbols' highest m bits. -/
def parT (t : List Nat) (m : Nat) : List Nat := t.map fun c => MT.key m c * 2 ^ (8 - m)
theorem parT_length (t : List Nat) (m : Nat) : (parT t m).length = t.length := by simp [parT]
theorem parT_get {t : List Nat} {m i : Nat} (h : i < t.length) : (parT t m).getD i 0 = MT.key m (t.getD i 0) * 2 ^ (8 - m) := by
  unfold parT
  rw [List.getD_eq_getElem?_getD, List.getD_eq_getElem?_getD, List.getElem?_map, List.getElem?_eq_getElem h]; rfl
theorem parT_lt {t : List Nat} (ht : MT.Bytes t) {m : Nat} (hm : m ≤ 8) {i : Nat} (h : i < t.length) : (parT t m).getD i 0 < 256 := by
  rw [parT_get h]
  have := MT.key_lt m _ hm (ht.lt i h)
  calc MT.key m (t.getD i 0) * 2 ^ (8 - m) < 2 ^ m * 2 ^ (8 - m) := Nat.mul_lt_mul_of_pos_right this (Nat.two_pow_pos _)
    _ = 256 := by rw [← Nat.pow_add, show m + (8 - m) = 8 by omega]
theorem parT_div {t : List Nat} {l i : Nat} (hl : l < 8) (h : i < t.length) : (parT t (l + 1)).getD i 0 / 2 ^ (7 - l) = MT.K t (l + 1) i := by
  rw [parT_get h, show 8 - (l + 1) = 7 - l by omega, Nat.mul_div_cancel _ (Nat.two_pow_pos _)]; rfl
def wcmp (a b : Nat) (x y : Nat) : Int := if a = b then (x : Int) - (y : Int) else (a : Int) - (b : Int)
theorem b_wcmp (p : List Nat) (n x y l a b : Nat) (hp : p.length = n) (hn : n ≤ 40000) (hx : x < n) (hy : y < n) (hl : l ≤ 7) (h8x : p.getD x 0 < 256) (h8y : p.getD y 0 < 256) (ha : p.getD x 0 / 2 ^ (7 - l) = a) (hb : p.getD y 0 / 2 ^ (7 - l) = b) :
    Pure Tryz.prog L 85 [.i .i64 x, .i .i64 y, .r [.sl false n (nums .u8 p)] 0, .r [.i .i64 l] 0] (.i .i64 (wcmp a b x y)) := by
  refine pure_of_W Tryz.func85 rfl rfl (by kernel_rfl) [] closed (.i _ _) fun A hL => ?_
  have h1 : a ≤ p.getD x 0 := by rw [← ha]; exact Nat.div_le_self _ _
  have h2 : b ≤ p.getD y 0 := by rw [← hb]; exact Nat.div_le_self _ _
  unfold Tryz.f85
  refine gox ?_
  refine regD 18 (by kernel_rfl) (by kernel_rfl) (gox ?_)
  refine ⟨fun h => go ?_, fun h => go ?_⟩
  · have hab : a = b := by omega
    rw [show wcmp a b x y = (x : Int) - (y : Int) from if_pos hab]
    exact fin_
  · have hab : a ≠ b := by omega
    rw [show wcmp a b x y = (a : Int) - (b : Int) from if_neg hab]
    exact fin_
theorem wcmp_neg (a b x y : Nat) : wcmp a b x y < 0 ↔ (a < b ∨ a = b ∧ x < y) := by
  unfold wcmp
  split <;> omega
theorem row_fin {n : Nat} (d : Array (Fin (n + 1))) : rowV .i64 (fun x : Fin (n + 1) => (x.val : Int)) d = nums .i64 (d.toList.map Fin.val) := by
  unfold rowV nums
  rw [List.map_map]; rfl
theorem b_tsort {A : Amb} {t : List Nat} (ht : MT.Bytes t) {l : Nat} (hl : l < 8) (h0 : 0 < t.length) (hn : t.length ≤ 40000) {H : Heap} {b gg bt bl bx : Nat} (hb : H[b]? = some ⟨3, gg, nums .i64 (MT.pos t l), true⟩) (hbl : H[bl]? = some ⟨3, 0, [.i .i64 l], true⟩) (hbt : H[bt]? = some ⟨22, 0, [.o bx 0 0 t.length], true⟩) (hbx : H[bx]? = some ⟨5, 0, nums .u8 (parT t (l + 1)), true⟩)
    (hne : bl ≠ b) (hne2 : bt ≠ b) (hne3 : bx ≠ b) {K : V → Heap → Prop} (hK : K (.tup []) (H.set b ⟨3, gg, nums .i64 (MT.pos t (l + 1)), true⟩)) : Does Tryz.prog A 84 [.o b gg 0 t.length, .f (.func 85) [] [.p bt 0 0, .p bl 0 0]] H K := by
  have eg : ∀ args w, (callFunc 85 args).run Tryz.prog w = .ok (.enter 85 args) w := enters_of Tryz.func85 (by kernel_rfl) rfl
  obtain ⟨m, hm⟩ : ∃ m, t.length = m + 1 := ⟨t.length - 1, by omega⟩
  have hpl := MT.pos_length ht (l := l) (by omega)
  have hpm : ∀ x ∈ MT.pos t l, x < m + 1 := fun x hx => by have := (MT.mem_ordTo.1 hx).1; omega
  obtain ⟨d0, hd0⟩ : ∃ d0 : Array (Fin (m + 1)), d0 = ((MT.pos t l).map fun i => Fin.ofNat (m + 1) i).toArray := ⟨_, rfl⟩
  have hd0l : d0.toList.map Fin.val = MT.pos t l := by
    rw [hd0, List.map_map]
    conv => rhs; rw [← List.map_id (MT.pos t l)]
    refine List.map_congr_left fun x hx => ?_
    simp only [Function.comp, Fin.val_ofNat, id]
    exact Nat.mod_eq_of_lt (hpm x hx)
  have hsz : d0.size = t.length := by rw [hd0]; simp [hpl]
  let cf : Fin (m + 1) → Fin (m + 1) → Int := fun x y => wcmp (MT.K t (l + 1) x.val) (MT.K t (l + 1) y.val) x.val y.val
  have hlt : ∀ x y, ltOf cf x y = true ↔ (MT.K t (l + 1) x.val < MT.K t (l + 1) y.val ∨ MT.K t (l + 1) x.val = MT.K t (l + 1) y.val ∧ x.val < y.val) := fun x y => by
    unfold ltOf
    rw [decide_eq_true_iff]
    exact wcmp_neg _ _ _ _
  have hlf : ∀ x y, ltOf cf x y = false ↔ ¬ (MT.K t (l + 1) x.val < MT.K t (l + 1) y.val ∨ MT.K t (l + 1) x.val = MT.K t (l + 1) y.val ∧ x.val < y.val) := fun x y => by
    rw [← hlt x y]
    cases ltOf cf x y <;> simp
  have hO : SWO (ltOf cf) := ⟨fun x => by rw [hlf]; omega, fun x y z h1 h2 => by rw [hlt] at *; omega, fun x y z h1 h2 => by rw [hlf] at *; omega⟩
  have := sort_does (P := Tryz.prog) (A := A) (L := fun _ _ => True) (f := 84) (g := 85) (K := K) (k := .i64) (φ := fun x : Fin (m + 1) => (x.val : Int)) (nfr := 3) (cf := cf) (d0 := d0) (caps := [.p bt 0 0, .p bl 0 0])
    (Q := fun d' => d'.toList.map Fin.val = MT.pos t (l + 1)) Tryz.func84 (by kernel_rfl) (by kernel_rfl) (b := b) (gg := gg) (t := 3) (H := H) (by rw [row_fin, hd0l]; exact hb) (by rw [hsz]; exact h0) trivial eg
    (fun d hd x y => ?_) (fun w q cap cb hC hH hq => ?_) (fun d' hQ hd => ?_)
  · rw [hsz] at this
    exact this
  · have hx := x.isLt
    have hy := y.isLt
    have hc := b_wcmp (L := fun _ _ => True) (parT t (l + 1)) t.length x.val y.val l _ _ (parT_length _ _) hn (by omega) (by omega) (by omega) (parT_lt ht (by omega) (by omega)) (parT_lt ht (by omega) (by omega)) (parT_div hl (by omega)) (parT_div hl (by omega))
    have e1 : Heap.at (H.set b ⟨3, gg, rowV .i64 (fun x : Fin (m + 1) => (x.val : Int)) d, true⟩ : Heap) bl 0 = some ⟨3, 0, [.i .i64 l], true⟩ := by
      unfold Heap.at
      rw [List.getElem?_set_ne (Ne.symm hne), hbl]; rfl
    have e2 : Heap.at (H.set b ⟨3, gg, rowV .i64 (fun x : Fin (m + 1) => (x.val : Int)) d, true⟩ : Heap) bt 0 = some ⟨22, 0, [.o bx 0 0 t.length], true⟩ := by
      unfold Heap.at
      rw [List.getElem?_set_ne (Ne.symm hne2), hbt]; rfl
    have e3 : Heap.at (H.set b ⟨3, gg, rowV .i64 (fun x : Fin (m + 1) => (x.val : Int)) d, true⟩ : Heap) bx 0 = some ⟨5, 0, nums .u8 (parT t (l + 1)), true⟩ := by
      unfold Heap.at
      rw [List.getElem?_set_ne (Ne.symm hne3), hbx]; rfl
    have hz : szT Tryz.prog 5 = some 1 := by kernel_rfl
    have hlen : (nums .u8 (parT t (l + 1))).length = t.length := by rw [len_nums, parT_length]
    simp only [List.map_cons, List.map_nil, frz, e1, e2, e3, Option.elim_some, hz, List.drop_zero, Nat.mul_one, frz_nums]
    rw [List.take_of_length_le (by rw [hlen]; exact Nat.le_refl _), frz_nums]
    exact hc
  · have := Any.slices_SortFunc Tryz.sortL (encI .i64 fun x : Fin (m + 1) => (x.val : Int)) (fun _ => rfl) cf hO 85 cb q 0 cap d0 w eg hC hH hq (by omega)
    exact this.mono fun e w' ⟨he, d', mm, os, hp, hs, hw⟩ => ⟨he, mm, os, d', MT.sort_next ht hl hm (by rw [← hd0l]; exact (MT.perm_list rfl hp).map _) (by
      rw [List.pairwise_map]
      refine List.Pairwise.imp ?_ (MT.sorted_pw hp.1 hs)
      intro a b h
      exact (hlf b a).1 h), hp.1, hw⟩
  · rw [row_fin, hQ]; exact hK
end Go.Proofs.E
end
/- The program: texts in eight rows of bits: Build. -/
section
set_option linter.unusedVariables false
set_option linter.unusedSimpArgs false
set_option linter.unusedSectionVars false
namespace Go.Proofs.E
open Go Go.Proofs.MV Go.Proofs.MI
set_option linter.unusedVariables false
set_option maxRecDepth 10000
variable {L : Nat → (Nat → Option Obj) → Prop}
theorem frz_vec (P : Program) (H : Heap) (n kind : Nat) (hk : Kind kind) (l : List Bool) : (vecC kind l).map (frz P H (n + 2)) = vecC kind l := by
  rcases hk with rfl | rfl | rfl <;> simp [vecC, plainC, rrrC, fanoC, zP, zR, zF, zS, frz, frz_nums]
theorem frz_lev (P : Program) (H : Heap) (n kind : Nat) (hk : Kind kind) (t : List Nat) (m : Nat) : (levC kind t m).map (frz P H (n + 2)) = levC kind t m := by
  unfold levC
  rw [List.map_flatten, List.map_map]
  congr 1
  exact List.map_congr_left fun l _ => frz_vec P H n kind hk _
theorem levC_succ (kind : Nat) (t : List Nat) (m : Nat) : levC kind t (m + 1) = levC kind t m ++ vecC kind (MT.lev t m) := by
  unfold levC; rw [List.range_succ, List.map_append, List.flatten_append]; simp
theorem levC_one (kind : Nat) (hk : Kind kind) (t : List Nat) : ∀ m, (levC kind t m).all V.one = true
  | 0 => rfl
  | m + 1 => by rw [levC_succ, List.all_append, levC_one kind hk t m, vec_one kind hk]; rfl
theorem uptoB_set {l : List Bool} {i : Nat} (h : i < l.length) {b : Bool} (hb : b = l.getD i false) : (uptoB l i).set i b = uptoB l (i + 1) := by
  subst hb
  unfold uptoB
  apply List.ext_getElem (by simp; omega)
  intro j h1 h2
  simp at h1
  rw [List.getElem_set]
  split
  · rename_i e; subst e
    rw [List.getElem_append_left (by simp; omega), List.getElem_take, List.getD_eq_getElem?_getD, List.getElem?_eq_getElem h]; rfl
  · rename_i e
    rcases Nat.lt_or_ge j i with hj | hj
    · rw [List.getElem_append_left (by simp; omega), List.getElem_append_left (by simp; omega), List.getElem_take, List.getElem_take]
    · rw [List.getElem_append_right (by simp; omega), List.getElem_append_right (by simp; omega)]
      simp
theorem uptoB_zero (l : List Bool) : uptoB l 0 = List.replicate l.length false := by simp [uptoB]
theorem lev_getD {t : List Nat} (ht : MT.Bytes t) {l i : Nat} (hl : l ≤ 8) (h : i < t.length) : (MT.lev t l).getD i false = MT.bitA l ((symL t l).getD i 0) := by
  have hp := MT.pos_length ht hl
  unfold MT.lev symL
  rw [List.getD_eq_getElem?_getD, List.getD_eq_getElem?_getD, List.getElem?_map, List.getElem?_map, List.getElem?_eq_getElem (by omega)]; rfl
theorem symL_zero {t : List Nat} (ht : MT.Bytes t) : symL t 0 = t := by
  unfold symL
  rw [MT.pos_zero ht]
  apply List.ext_getElem (by simp)
  intro i h1 h2
  simp [h2]
theorem symL_lt {t : List Nat} (ht : MT.Bytes t) {l i : Nat} (hl : l ≤ 8) (h : i < t.length) : (symL t l).getD i 0 < 256 := by
  have hp := MT.pos_length ht hl
  unfold symL
  rw [List.getD_eq_getElem?_getD, List.getElem?_map, List.getElem?_eq_getElem (by omega)]
  exact getD_byte ht _
theorem b_tbuild (hT : ∀ n c, L n c → TabL n c) (kind : Nat) (hk : Kind kind) (t : List Nat) (ht : MT.Bytes t) (h0 : 0 < t.length) (hl : t.length ≤ 8192) : Pure Tryz.prog L 9 [.i .i64 kind, .sl false t.length (nums .u8 t)] (.tup [treeV kind t, .i .i64 0]) := by
  refine pure_of_W Tryz.func9 rfl rfl (by kernel_rfl) [50] closed (tup2_below (tree_below 0 kind hk t)) fun A hL => ?_
  have hcl : ∀ K : V → Heap → Prop, ∀ H : Heap, K (.o H.length 0 0 t.length) (H ++ [⟨5, 0, nums .u8 t, true⟩]) → Does Tryz.prog A 27 [.sl false t.length (nums .u8 t)] H K := fun K H h => b_clone false t h0 (by omega) h
  have hll := fun l (h : l < 8) => MT.lev_length ht (l := l) (by omega)
  have hfm := fun l (h : l < 8) => b_from (L := L) (MT.lev t l) (by rw [hll l h]; omega)
  have hvb := fun l (h : l < 8) => b_vbuild (L := L) hT kind hk (MT.lev t l) (by rw [hll l h]; omega)
  unfold treeV vecV bitsV at *
  unfold Tryz.f9
  refine gox ?_
  refine hcl _ _ ?_
  refine gox ?_
  refine loop_ (fun l : Nat => ⟨[(0, .i .i64 kind), (4, .p 0 0 0), (6, .p 1 0 0), (7, .o 2 0 0 t.length), (26, .i .i64 l)], [⟨26, 0, [.i .i64 0, .i .i64 0, .ns], true⟩, ⟨26, 0, [.i .i64 kind, .i .i64 t.length, .o 3 l 0 l], true⟩, ⟨5, 0, nums .u8 (symL t l), true⟩, ⟨45, l, levC kind t l, true⟩]⟩)
    (fun l => l ≤ 8) (fun l => 8 - l) 0 (Nat.zero_le _) (Le.trans (le_slots' (Nat.zero_le _) ?_ (go ?_)) (le_virtc 45 1 2 rfl rfl (Nat.zero_le _))) fun l hl8 => ?_
  · rw [symL_zero ht]; rfl
  · trivial
  refine go ?_
  refine ⟨fun h1 => ?_, fun h1 => ?_⟩
  · have hs1 := symL_length ht (l := l) (by omega)
    have hL1 := hll l h1
    have e4 := uptoB_zero (MT.lev t l)
    rw [hL1] at e4
    refine gox ?_
    refine loop_ (fun i : Nat => ⟨[(0, .i .i64 kind), (4, .p 0 0 0), (6, .p 1 0 0), (7, .o 2 0 0 t.length), (26, .i .i64 l), (8, .p 4 0 0), (9, .o 5 0 0 t.length), (32, .o 2 0 0 t.length), (33, .i .i64 t.length), (34, .i .i64 i)], [⟨26, 0, [.i .i64 0, .i .i64 0, .ns], true⟩, ⟨26, 0, [.i .i64 kind, .i .i64 t.length, .o 3 l 0 l], true⟩, ⟨5, 0, nums .u8 (symL t l), true⟩, ⟨45, l, levC kind t l, true⟩, ⟨3, 0, [.i .i64 l], true⟩, ⟨4, 0, bls (uptoB (MT.lev t l) i), true⟩]⟩)
      (fun i => i ≤ t.length) (fun i => t.length - i) 0 (Nat.zero_le _) (le_slots' (Nat.zero_le _) ?_ (go ?_)) fun i hi => ?_
    · rw [e4]
    · trivial
    have hui := uptoB_length (MT.lev t l) (i := i) (by omega)
    refine gox ?_
    refine ⟨fun h2 => ?_, fun h2 => ?_⟩
    · have h3 := symL_lt ht (l := l) (by omega) h2
      have h4 := lev_getD ht (l := l) (by omega) h2
      have h5 := bit_val ((symL t l).getD i 0) l (by omega)
      rw [← h4] at h5
      have h6 := uptoB_set (l := MT.lev t l) (i := i) (by omega) rfl
      have h7 : (symL t l).getD i 0 / 2 ^ (7 - l) ≤ (symL t l).getD i 0 := Nat.div_le_self _ _
      refine gox ?_
      exact ⟨i + 1, by omega, by omega, le_slots' (Nat.zero_le _) (by rw [← h6, h4]) (go trivial)⟩
    · obtain rfl : i = t.length := by omega
      have e5 : uptoB (MT.lev t l) t.length = MT.lev t l := by rw [← hL1]; exact uptoB_all _
      have hf := hfm l h1
      rw [hL1] at hf
      have hv := hvb l h1
      rw [hL1] at hv
      have e2 := vec_one kind hk (MT.lev t l)
      have e3 := vec_length kind hk (MT.lev t l)
      have hsp : spl [.i .i64 0, .i .i64 0, .ns, .ns, .ns, .i .i64 0, .i .i64 0, .i .i64 0, .i .i64 0, .ns, .i .i64 0, .ns, .ns, .ns, .i .i64 0, .i .i64 0, .i .i64 0, .i .i64 0, .i .i64 0, .ns, .i .i64 0, .ns] 0 (vecC kind (MT.lev t l)) = vecC kind (MT.lev t l) := spl_all (by rw [e3]; rfl) (by omega)
      have hlc := levC_length kind hk t l
      clear hcl hll hfm hvb e4 hui
      refine gox ?_
      refine hf.does hL ?_
      clear hf
      refine gox ?_
      refine hv.does hL ?_
      clear hv
      refine gox ?_
      have e9 := levC_succ kind t l
      refine b_tstable ht h1 h0 (by omega) rfl rfl (by decide) ?_
      refine go ?_
      refine ⟨l + 1, by omega, by omega, le_gc 4 (Nat.zero_le _) (by simp) ?_ ?_⟩
      · rw [e9]
        refine go ?_
        rw [← e9, frn_lev Tryz.prog _ 4 4 kind hk]
      · refine go ?_
        trivial
  · obtain rfl : l = 8 := by omega
    have hl8 := levC_length kind hk t 8
    clear hcl hll hfm hvb
    refine gox ?_
    refine ⟨6, ?_⟩
    simp only [T, frz, List.map_cons, List.map_nil, Heap.at, List.getElem?_cons_succ, List.getElem?_cons_zero, and_self, if_true, Option.elim_some, List.drop_zero]
    rw [List.take_of_length_le (by omega), frz_lev _ _ 1 _ hk]
theorem lev_nil (l : Nat) : MT.lev [] l = [] := by
  have : (MT.lev [] l).length = 0 := by
    unfold MT.lev MT.pos
    rw [List.length_map]
    exact MT.ordTo_length _ _ _ (fun i hi => absurd hi (Nat.not_lt_zero _))
  exact List.length_eq_zero_iff.1 this
theorem b_tbuild0 (hT : ∀ n c, L n c → TabL n c) (kind : Nat) (hk : Kind kind) : Pure Tryz.prog L 9 [.i .i64 kind, .sl false 0 []] (.tup [treeV kind [], .i .i64 0]) := by
  refine pure_of_W Tryz.func9 rfl rfl (by kernel_rfl) [50] closed (tup2_below (tree_below 0 kind hk [])) fun A hL => ?_
  have hf := b_from (L := L) [] (by decide)
  have hv := b_vbuild (L := L) hT kind hk [] (by decide)
  have e2 := vec_one kind hk []
  have e3 := vec_length kind hk []
  have hsp : spl [.i .i64 0, .i .i64 0, .ns, .ns, .ns, .i .i64 0, .i .i64 0, .i .i64 0, .i .i64 0, .ns, .i .i64 0, .ns, .ns, .ns, .i .i64 0, .i .i64 0, .i .i64 0, .i .i64 0, .i .i64 0, .ns, .i .i64 0, .ns] 0 (vecC kind []) = vecC kind [] := spl_all (by rw [e3]; rfl) (by omega)
  have hb0 : bitsV [] = .agg [.i .i64 0, .sl false 0 []] := rfl
  rw [hb0] at hf hv
  change Pure Tryz.prog L 28 [.sl false 0 []] _ at hf
  unfold treeV vecV at *
  unfold Tryz.f9
  refine go ?_
  refine b_clone0 false ?_
  refine go ?_
  refine loop_ (fun l : Nat => ⟨[(0, .i .i64 kind), (4, .p 0 0 0), (6, .p 1 0 0), (7, .sl false 0 []), (26, .i .i64 l)], [⟨26, 0, [.i .i64 0, .i .i64 0, .ns], true⟩, ⟨26, 0, [.i .i64 kind, .i .i64 0, .o 2 l 0 l], true⟩, ⟨45, l, levC kind [] l, true⟩]⟩)
    (fun l => l ≤ 8) (fun l => 8 - l) 0 (Nat.zero_le _) (Le.trans (le_slots' (Nat.zero_le _) ?_ (go ?_)) (le_virtc 45 1 2 rfl rfl (Nat.zero_le _))) fun l hl8 => ?_
  · rfl
  · trivial
  refine go ?_
  refine ⟨fun h1 => ?_, fun h1 => ?_⟩
  · have hlc := levC_length kind hk [] l
    have e9 := levC_succ kind [] l
    rw [lev_nil] at e9
    refine go ?_
    refine loop_ (fun _ : Unit => ⟨[(0, .i .i64 kind), (4, .p 0 0 0), (6, .p 1 0 0), (7, .sl false 0 []), (26, .i .i64 l), (8, .p 3 0 0), (9, .o 4 0 0 0), (33, .i .i64 0), (34, .i .i64 0)], [⟨26, 0, [.i .i64 0, .i .i64 0, .ns], true⟩, ⟨26, 0, [.i .i64 kind, .i .i64 0, .o 2 l 0 l], true⟩, ⟨45, l, levC kind [] l, true⟩, ⟨3, 0, [.i .i64 l], true⟩, ⟨4, 0, [], true⟩]⟩)
      (fun _ => True) (fun _ => 0) () trivial (le_slots' (Nat.zero_le _) rfl (go trivial)) fun i hi => ?_
    refine go ?_
    refine hf.does hL ?_
    refine gox ?_
    refine hv.does hL ?_
    refine gox ?_
    refine b_stable0 _ ?_
    refine gox ?_
    refine ⟨l + 1, by omega, by omega, le_gc 3 (Nat.zero_le _) (by simp) ?_ ?_⟩
    · rw [e9]
      refine go ?_
      rw [← e9, frn_lev Tryz.prog _ 3 4 kind hk]
    · refine go ?_
      trivial
  · obtain rfl : l = 8 := by omega
    have hl8 := levC_length kind hk [] 8
    refine gox ?_
    refine ⟨6, ?_⟩
    simp only [T, frz, List.map_cons, List.map_nil, Heap.at, List.getElem?_cons_succ, List.getElem?_cons_zero, and_self, if_true, Option.elim_some, List.drop_zero]
    rw [List.take_of_length_le (by omega), frz_lev _ _ 1 _ hk]
end Go.Proofs.E
end
/- The program: texts in eight rows of bits: whole, in parts. -/
section
set_option linter.unusedVariables false
set_option linter.unusedSimpArgs false
set_option linter.unusedSectionVars false
namespace Go.Proofs.E
open Go Go.Proofs.MV Go.Proofs.MI
set_option linter.unusedVariables false
set_option maxRecDepth 10000
variable {L : Nat → (Nat → Option Obj) → Prop}
def bitsC (l : List Bool) : List V := [.i .i64 (l.length : Nat), .sl false (wc l) (nums .u64 (wn l (wc l)))]
def rowC (t : List Nat) (l j : Nat) : List V := if j < l then bitsC (MT.lev t j) else [.i .i64 0, .ns]
/-- The rows that are there already, of eight. -/
def rowsC (t : List Nat) (l : Nat) : List V := ((List.range 8).map (rowC t l)).flatten
theorem rowC_length (t : List Nat) (l j : Nat) : (rowC t l j).length = 2 := by unfold rowC; split <;> rfl
theorem rowsC_eq (t : List Nat) (l : Nat) : rowsC t l = rowC t l 0 ++ (rowC t l 1 ++ (rowC t l 2 ++ (rowC t l 3 ++ (rowC t l 4 ++ (rowC t l 5 ++ (rowC t l 6 ++ (rowC t l 7 ++ []))))))) := rfl
theorem rowsC_length (t : List Nat) (l : Nat) : (rowsC t l).length = 16 := by rw [rowsC_eq]; simp only [List.length_append, rowC_length]; rfl
theorem rowsC_get (t : List Nat) (l j : Nat) (h : j < 8) : ((rowsC t l).drop (j * 2)).take 2 = rowC t l j := by
  unfold rowsC
  rw [flat_get 2 _ j (by simp; omega) (fun x hx => by obtain ⟨j, _, rfl⟩ := List.mem_map.1 hx; exact rowC_length t l j)]
  simp
theorem rowsC_set (t : List Nat) (l : Nat) (h : l < 8) : spl (rowsC t l) (l * 2) (bitsC (MT.lev t l)) = rowsC t (l + 1) := by
  rw [rowsC_eq, rowsC_eq]
  rcases l with _ | _ | _ | _ | _ | _ | _ | _ | l <;> first | rfl | omega
theorem rowsC_zero (t : List Nat) : rowsC t 0 = [.i .i64 0, .ns, .i .i64 0, .ns, .i .i64 0, .ns, .i .i64 0, .ns, .i .i64 0, .ns, .i .i64 0, .ns, .i .i64 0, .ns, .i .i64 0, .ns] := rfl
theorem frn_rows (P : Program) (H : Heap) (n0 n : Nat) (t : List Nat) (l : Nat) : (rowsC t l).map (frn P H n0 (n + 2)) = rowsC t l := by
  unfold rowsC
  rw [List.map_flatten, List.map_map]
  congr 1
  refine List.map_congr_left fun j _ => ?_
  show (rowC t l j).map _ = _
  unfold rowC
  split
  · simp [bitsC, frn, frn_nums]
  · rfl
/-- A text of its symbols' highest l bits, those of the level's first i places with one bit more. -/
def parI (t : List Nat) (l i : Nat) : List Nat := (List.range t.length).map fun p => if p ∈ (MT.pos t l).take i then (parT t (l + 1)).getD p 0 else (parT t l).getD p 0
theorem parI_length (t : List Nat) (l i : Nat) : (parI t l i).length = t.length := by simp [parI]
theorem list_range (l : List Nat) : (List.range l.length).map (fun p => l.getD p 0) = l := by
  apply List.ext_getElem (by simp)
  intro i h1 h2
  simp [h2]
theorem parI_zero (t : List Nat) (l : Nat) : parI t l 0 = parT t l := by
  unfold parI
  have := list_range (parT t l)
  rw [parT_length] at this
  conv => rhs; rw [← this]
  simp
theorem parI_all {t : List Nat} (ht : MT.Bytes t) {l : Nat} (hl : l < 8) : parI t l t.length = parT t (l + 1) := by
  unfold parI
  have := list_range (parT t (l + 1))
  rw [parT_length] at this
  conv => rhs; rw [← this]
  refine List.map_congr_left fun p hp => ?_
  have hm : p ∈ (MT.pos t l).take t.length := by
    rw [List.take_of_length_le (by rw [MT.pos_length ht (by omega)]; exact Nat.le_refl _)]
    exact MT.mem_ordTo.2 ⟨List.mem_range.1 hp, MT.K_lt ht (by omega) p (List.mem_range.1 hp)⟩
  exact if_pos hm
theorem pos_lt {t : List Nat} (ht : MT.Bytes t) {l i : Nat} (hl : l ≤ 8) (h : i < t.length) : (MT.pos t l).getD i 0 < t.length := by
  have hp := MT.pos_length ht hl
  rw [List.getD_eq_getElem?_getD, List.getElem?_eq_getElem (by omega)]
  exact (MT.mem_ordTo.1 (List.getElem_mem (l := MT.pos t l) (by omega))).1
theorem not_take {l : List Nat} (hn : l.Nodup) {i : Nat} (h : i < l.length) : l[i] ∉ l.take i := by
  intro hm
  obtain ⟨j, hj, e⟩ := List.mem_iff_getElem.1 hm
  simp at hj
  rw [List.getElem_take] at e
  exact (List.pairwise_iff_getElem.1 hn) j i (by omega) h (by omega) e
theorem parI_get {t : List Nat} (ht : MT.Bytes t) {l i : Nat} (hl : l < 8) (h : i < t.length) : (parI t l i).getD ((MT.pos t l).getD i 0) 0 = (parT t l).getD ((MT.pos t l).getD i 0) 0 := by
  have hp := MT.pos_length ht (l := l) (by omega)
  have hlt := pos_lt ht (l := l) (by omega) h
  rw [List.getD_eq_getElem?_getD (l := MT.pos t l), List.getElem?_eq_getElem (by omega)] at hlt ⊢
  simp only [Option.getD_some] at hlt ⊢
  unfold parI
  rw [List.getD_eq_getElem?_getD (l := List.map _ _), List.getElem?_map, List.getElem?_range hlt]
  simp only [Option.map_some, Option.getD_some]
  exact if_neg (not_take (l := MT.pos t l) (MT.ordTo_nodup _ _ _) (by omega))
theorem parI_at (t : List Nat) (l i p : Nat) (h : p < (parI t l i).length) : (parI t l i)[p] = if p ∈ (MT.pos t l).take i then (parT t (l + 1)).getD p 0 else (parT t l).getD p 0 := by
  simp [parI]
theorem parI_set {t : List Nat} (ht : MT.Bytes t) {l i : Nat} (hl : l < 8) (h : i < t.length) : (parI t l i).set ((MT.pos t l).getD i 0) ((parT t (l + 1)).getD ((MT.pos t l).getD i 0) 0) = parI t l (i + 1) := by
  have hp := MT.pos_length ht (l := l) (by omega)
  have hi : i < (MT.pos t l).length := by omega
  have e : (MT.pos t l).getD i 0 = (MT.pos t l)[i] := by rw [List.getD_eq_getElem?_getD, List.getElem?_eq_getElem hi]; rfl
  rw [e]
  apply List.ext_getElem (by simp [parI])
  intro p h1 h2
  have hmem : p ∈ (MT.pos t l).take (i + 1) ↔ p ∈ (MT.pos t l).take i ∨ p = (MT.pos t l)[i] := by
    rw [List.take_succ_eq_append_getElem hi, List.mem_append, List.mem_singleton]
  rw [List.getElem_set, parI_at t l (i + 1) p h2]
  by_cases e1 : (MT.pos t l)[i] = p
  · rw [if_pos e1, if_pos (hmem.2 (.inr e1.symm)), e1]
  · rw [if_neg e1, parI_at]
    by_cases c : p ∈ (MT.pos t l).take i
    · rw [if_pos c, if_pos (hmem.2 (.inl c))]
    · rw [if_neg c, if_neg (fun h => (hmem.1 h).elim c fun e2 => e1 e2.symm)]
theorem par_bit {t : List Nat} (ht : MT.Bytes t) {l p : Nat} (hl : l < 8) (h : p < t.length) : (parT t (l + 1)).getD p 0 = if MT.bitA l (t.getD p 0) = true then ((parT t l).getD p 0 ||| 2 ^ (7 - l)) else (parT t l).getD p 0 := by
  rw [parT_get h, parT_get h, MT.key_succ l _ hl, show 8 - (l + 1) = 7 - l by omega]
  generalize MT.key l (t.getD p 0) = k
  have e : k * 2 ^ (8 - l) = 2 * k * 2 ^ (7 - l) := by rw [show 8 - l = 7 - l + 1 by omega, Nat.pow_succ]; rw [Nat.mul_comm 2 k, Nat.mul_assoc, Nat.mul_comm 2]
  cases MT.bitA l (t.getD p 0)
  · simp [e]
  · have h2 := Nat.two_pow_add_eq_or_of_lt (i := 8 - l) (b := 2 ^ (7 - l)) (Nat.pow_lt_pow_right (by decide) (by omega)) k
    simp only [if_true, Bool.toNat_true]
    rw [Nat.mul_comm k, ← h2, Nat.mul_comm (2 ^ (8 - l)), e, Nat.add_mul, Nat.one_mul]
theorem parI_skip {t : List Nat} (ht : MT.Bytes t) {l i : Nat} (hl : l < 8) (h : i < t.length) (hb : MT.bitA l (t.getD ((MT.pos t l).getD i 0) 0) = false) : parI t l (i + 1) = parI t l i := by
  have hlt := pos_lt ht (l := l) (by omega) h
  rw [← parI_set ht hl h, par_bit ht hl hlt, if_neg (by rw [hb]; decide), ← parI_get ht hl h]
  have h2 : (MT.pos t l).getD i 0 < (parI t l i).length := by rw [parI_length]; exact hlt
  generalize (MT.pos t l).getD i 0 = p at *
  rw [List.getD_eq_getElem?_getD, List.getElem?_eq_getElem h2]
  exact List.set_getElem_self h2
theorem parI_bit {t : List Nat} (ht : MT.Bytes t) {l i : Nat} (hl : l < 8) (h : i < t.length) (hb : MT.bitA l (t.getD ((MT.pos t l).getD i 0) 0) = true) : (parI t l i).set ((MT.pos t l).getD i 0) ((parT t l).getD ((MT.pos t l).getD i 0) 0 ||| 2 ^ (7 - l)) = parI t l (i + 1) := by
  have hlt := pos_lt ht (l := l) (by omega) h
  rw [← parI_set ht hl h, par_bit ht hl hlt, if_pos hb]
theorem parT_zero {t : List Nat} (ht : MT.Bytes t) : parT t 0 = List.replicate t.length 0 := by
  apply List.ext_getElem (by simp [parT])
  intro i h1 h2
  have hi : i < t.length := by simpa [parT] using h1
  have := ht.lt i hi
  rw [List.getD_eq_getElem?_getD, List.getElem?_eq_getElem hi] at this
  simp only [parT, List.getElem_map, List.getElem_replicate, MT.key]
  simp only [Option.getD_some] at this
  show t[i] / 2 ^ 8 * 2 ^ 8 = 0
  rw [Nat.div_eq_of_lt (by omega), Nat.zero_mul]
theorem parT_eight (t : List Nat) : parT t 8 = t := by
  unfold parT
  conv => rhs; rw [← List.map_id t]
  refine List.map_congr_left fun c _ => ?_
  rw [MT.key_eight]; simp
theorem lev_bt {t : List Nat} (ht : MT.Bytes t) {l i : Nat} (hl : l ≤ 8) (h : i < t.length) : bt (MT.lev t l) i = MT.bitA l (t.getD ((MT.pos t l).getD i 0) 0) := by
  have hp := MT.pos_length ht hl
  unfold bt MT.lev
  rw [List.getD_eq_getElem?_getD, List.getElem?_map, List.getD_eq_getElem?_getD (l := MT.pos t l), List.getElem?_eq_getElem (by omega)]; rfl
/-- 0, 1, .. i - 1, then noughts. -/
def cntI (n i : Nat) : List Nat := List.range i ++ List.replicate (n - i) 0
theorem cntI_length {n i : Nat} (h : i ≤ n) : (cntI n i).length = n := by simp [cntI]; omega
theorem cntI_set {n i : Nat} (h : i < n) : (cntI n i).set i i = cntI n (i + 1) := by
  unfold cntI
  rw [List.set_append_right _ _ (by simp), List.length_range, Nat.sub_self, show n - i = (n - (i + 1)) + 1 by omega, List.replicate_succ, List.set_cons_zero, List.range_succ, List.append_assoc]; rfl
theorem cntI_all (n : Nat) : cntI n n = List.range n := by simp [cntI]
theorem cntI_zero (n : Nat) : cntI n 0 = List.replicate n 0 := by simp [cntI]
end Go.Proofs.E
end
/- The program: texts in eight rows of bits: whole. -/
section
set_option linter.unusedVariables false
set_option linter.unusedSimpArgs false
set_option linter.unusedSectionVars false
namespace Go.Proofs.E
open Go Go.Proofs.MV Go.Proofs.MI
set_option linter.unusedVariables false
set_option maxRecDepth 10000
variable {L : Nat → (Nat → Option Obj) → Prop}
theorem b_blen (x : Nat) (hx : x < 2 ^ 64) : Pure Tryz.prog L 140 [.i .u64 x] (.i .i64 (Lib.bitLen x : Nat)) := by
  refine pure_of_W Tryz.func140 rfl rfl (by kernel_rfl) [] closed (.i _ _) fun A hL => ?_
  unfold Tryz.f140
  refine go ?_
  refine (b_len64 x hx).does hL (go ?_)
  exact fin_
theorem b_insI0 {A : Amb} (v g : V) {H : Heap} {K : V → Heap → Prop} (hK : K (.tup []) H) : Does Tryz.prog A 171 [v, .i .i64 0, .i .i64 0, g] H K := by
  refine does_of_W Tryz.func171 rfl rfl (by kernel_rfl) [] ?_
  unfold Tryz.f171
  refine go ?_
  refine loop_ (fun _ : Unit => ⟨[(2, .i .i64 0), (8, .i .i64 1)], H⟩) (fun _ => True) (fun _ => 0) () trivial (le_slots (Nat.le_refl _) (go trivial)) fun x hx => go ?_
  exact hK
theorem b_sortI0 {A : Amb} (hL : L A.n A.c) (b gg : Nat) (g : V) {H : Heap} {K : V → Heap → Prop} (hK : K (.tup []) H) : Does Tryz.prog A 84 [.o b gg 0 0, g] H K := by
  have key : ∀ K' : V → Heap → Prop, K' (.tup []) H → Does Tryz.prog A 139 [.o b gg 0 0, .i .i64 0, .i .i64 0, .i .i64 0, g] H K' := by
    intro K' hK'
    refine does_of_W Tryz.func139 rfl rfl (by kernel_rfl) [] ?_
    unfold Tryz.f139
    refine go ?_
    refine loop_ (fun _ : Unit => ⟨[(0, .o b gg 0 0), (1, .i .i64 0), (2, .i .i64 0), (3, .i .i64 0), (4, g)], H⟩) (fun _ => True) (fun _ => 0) () trivial (le_slots (Nat.le_refl _) (go trivial)) fun x hx => go ?_
    refine b_insI0 _ g (go ?_)
    exact hK'
  have h0 := b_blen (L := L) 0 (by decide)
  refine does_of_W Tryz.func84 rfl rfl (by kernel_rfl) [] ?_
  unfold Tryz.f84
  refine go ?_
  refine h0.does hL ?_
  refine go ?_
  refine key _ ?_
  refine go ?_
  exact hK
theorem b_twhole (hT : ∀ n c, L n c → TabL n c) (kind : Nat) (hk : Kind kind) (t : List Nat) (ht : MT.Bytes t) (hl : t.length ≤ 8192) : Pure Tryz.prog L 47 [treeV kind t] (.tup [.sl false t.length (nums .u8 t), .b true]) := by
  refine pure_of_W Tryz.func47 rfl rfl (by kernel_rfl) [] (args_below (tree_below 0 kind hk t) closed) closed fun A hL => ?_
  have hlc := levC_length kind hk t 8
  have hlo := levC_one kind hk t 8
  have hlev := fun l (h : l < 8) => levC_get kind hk t (m := 8) h
  have hll := fun l (h : l < 8) => MT.lev_length ht (l := l) (by omega)
  have hvb := fun l (h : l < 8) => b_vbits (L := L) hT kind hk (MT.lev t l) (by rw [hll l h]; omega)
  have hvc := fun l (h : l < 8) => b_vcheck (L := L) hT kind hk (MT.lev t l) (by rw [hll l h]; omega)
  have hget := fun l (h : l < 8) i hi => b_get (L := L) (MT.lev t l) (by rw [hll l h]; omega) i hi
  unfold treeV vecV bitsV at *
  unfold Tryz.f47
  refine gox ?_
  refine loop_ (fun l : Nat => ⟨[(1, .p 0 0 0), (4, .p 2 0 0), (5, .o 3 0 0 8), (34, .sl false 8 (levC kind t 8)), (35, .i .i64 8), (36, .i .i64 l)], [⟨26, 0, [.i .i64 kind, .i .i64 t.length, .sl false 8 (levC kind t 8)], true⟩, ⟨5, 0, nums .u8 (List.replicate t.length 0), true⟩, ⟨22, 0, [.o 1 0 0 t.length], true⟩, ⟨33, 0, rowsC t l, true⟩]⟩)
    (fun l => l ≤ 8) (fun l => 8 - l) 0 (Nat.zero_le _) (le_slots' (Nat.zero_le _) ?_ (go ?_)) fun l hl8 => ?_
  · rw [rowsC_zero]; rfl
  · trivial
  refine go ?_
  refine ⟨fun h1 => ?_, fun h1 => ?_⟩
  · have e1 := hlev l h1
    have e2 := vec_one kind hk (MT.lev t l)
    have e3 := vec_length kind hk (MT.lev t l)
    have hsp : spl [.i .i64 0, .i .i64 0, .ns, .ns, .ns, .i .i64 0, .i .i64 0, .i .i64 0, .i .i64 0, .ns, .i .i64 0, .ns, .ns, .ns, .i .i64 0, .i .i64 0, .i .i64 0, .i .i64 0, .i .i64 0, .ns, .i .i64 0, .ns] 0 (vecC kind (MT.lev t l)) = vecC kind (MT.lev t l) := spl_all (by rw [e3]; rfl) (by omega)
    have hv := hvb l h1
    have hc := hvc l h1
    have hL1 := hll l h1
    rw [hL1] at hv
    have hrl := rowsC_length t l
    have hro := rowsC_length t (l + 1)
    have q1 : gV (vecC kind (MT.lev t l)) 0 = .i .i64 kind := rfl
    have q2 : gV (rowsC t (l + 1)) (l * 2) = .i .i64 (t.length : Nat) := by
      have := rowsC_get t (l + 1) l h1
      unfold gV
      rw [List.getD_eq_getElem?_getD, show l * 2 = l * 2 + 0 from rfl, ← List.getElem?_drop, ← List.getElem?_take_of_lt (show 0 < 2 by decide), this]
      unfold rowC
      rw [if_pos (by omega), ← hL1]; rfl
    have p2 : List.take (l * 2) (rowsC t l) ++ V.i .i64 (t.length : Nat) :: V.sl false (wc (MT.lev t l)) (nums .u64 (wn (MT.lev t l) (wc (MT.lev t l)))) :: List.drop (l * 2 + 2) (rowsC t l) = rowsC t (l + 1) := by
      rw [← rowsC_set t l h1, ← hL1]; unfold spl bitsC; simp
    clear hvb hvc hget hlev hll
    refine gox ?_
    refine hv.does hL ?_
    clear hv
    refine gox ?_
    by_cases hn0 : t.length = 0
    · refine regD 25 (by kernel_rfl) (by kernel_rfl) (gox ?_)
      refine ⟨_, hc.does hL ⟨rfl, rfl⟩, ?_⟩
      refine gox ?_
      refine ⟨l + 1, by omega, by omega, le_gc 4 (Nat.zero_le _) (by simp) ?_ ?_⟩
      · refine gox ?_
        simp only [frn_lev Tryz.prog _ 4 3 kind hk, frn_rows Tryz.prog _ 4 4, and_self]
      · refine gox ?_
        simp only [frn_lev Tryz.prog _ 4 3 kind hk, and_self]
    · refine regD 25 (by kernel_rfl) (by kernel_rfl) (gox ?_)
      refine ⟨l + 1, by omega, by omega, le_gc 4 (Nat.zero_le _) (by simp) ?_ ?_⟩
      · refine gox ?_
        simp only [frn_lev Tryz.prog _ 4 3 kind hk, frn_rows Tryz.prog _ 4 4, and_self]
      · refine gox ?_
        simp only [frn_lev Tryz.prog _ 4 3 kind hk, and_self]
  · obtain rfl : l = 8 := by omega
    refine gox ?_
    refine loop_ (fun i : Nat => ⟨[(1, .p 0 0 0), (4, .p 2 0 0), (5, .o 3 0 0 8), (8, .o 4 0 0 t.length), (76, .i .i64 t.length), (77, .i .i64 i)], [⟨26, 0, [.i .i64 kind, .i .i64 t.length, .sl false 8 (levC kind t 8)], true⟩, ⟨5, 0, nums .u8 (List.replicate t.length 0), true⟩, ⟨22, 0, [.o 1 0 0 t.length], true⟩, ⟨33, 0, rowsC t 8, true⟩, ⟨3, 0, nums .i64 (cntI t.length i), true⟩]⟩)
      (fun i => i ≤ t.length) (fun i => t.length - i) 0 (Nat.zero_le _) (le_slots' (Nat.zero_le _) ?_ (go ?_)) fun i hi => ?_
    · rw [cntI_zero]
    · trivial
    have hcl := cntI_length hi
    refine gox ?_
    refine ⟨fun h2 => ?_, fun h2 => ?_⟩
    · have h6 := cntI_set h2
      refine gox ?_
      exact ⟨i + 1, by omega, by omega, le_slots' (Nat.zero_le _) (by rw [← h6]) (go trivial)⟩
    · obtain rfl : i = t.length := by omega
      have hca := cntI_all t.length
      rw [← MT.pos_zero ht] at hca
      clear hvb hvc hlev hcl
      refine gox ?_
      clear hca
      refine loop_ (fun l : Nat => ⟨[(4, .p 2 0 0), (5, .o 3 0 0 8), (8, .o 4 0 0 t.length), (85, .i .i64 l)], [⟨26, 0, [.i .i64 kind, .i .i64 t.length, .sl false 8 (levC kind t 8)], true⟩, ⟨5, 0, nums .u8 (parT t l), true⟩, ⟨22, 0, [.o 1 0 0 t.length], true⟩, ⟨33, 0, rowsC t 8, true⟩, ⟨3, 0, nums .i64 (MT.pos t l), true⟩]⟩)
        (fun l => l ≤ 8) (fun l => 8 - l) 0 (Nat.zero_le _) (le_slots' (Nat.zero_le _) ?_ (go ?_)) fun l hl8 => ?_
      · rw [parT_zero ht]
      · trivial
      refine go ?_
      refine ⟨fun h1 => ?_, fun h1 => ?_⟩
      · have hL1 := hll l h1
        have hpl := MT.pos_length ht (l := l) (by omega)
        refine gox ?_
        refine loop_ (fun i : Nat => ⟨[(4, .p 2 0 0), (5, .o 3 0 0 8), (8, .o 4 0 0 t.length), (85, .i .i64 l), (10, .p 5 0 0), (88, .o 4 0 0 t.length), (89, .i .i64 t.length), (90, .i .i64 i)], [⟨26, 0, [.i .i64 kind, .i .i64 t.length, .sl false 8 (levC kind t 8)], true⟩, ⟨5, 0, nums .u8 (parI t l i), true⟩, ⟨22, 0, [.o 1 0 0 t.length], true⟩, ⟨33, 0, rowsC t 8, true⟩, ⟨3, 0, nums .i64 (MT.pos t l), true⟩, ⟨3, 0, [.i .i64 l], true⟩]⟩)
          (fun i => i ≤ t.length) (fun i => t.length - i) 0 (Nat.zero_le _) (le_slots' (Nat.zero_le _) ?_ (go ?_)) fun i hi => ?_
        · rw [parI_zero]
        · trivial
        have hil := parI_length t l i
        refine gox ?_
        refine ⟨fun h2 => ?_, fun h2 => ?_⟩
        · have hg := hget l h1 i (by omega)
          rw [hL1] at hg
          have hr8 := rowsC_length t 8
          have r1 : List.take 2 (List.drop (l * 2) (rowsC t 8)) = [.i .i64 (t.length : Nat), .sl false (wc (MT.lev t l)) (nums .u64 (wn (MT.lev t l) (wc (MT.lev t l))))] := by
            rw [rowsC_get t 8 l h1]
            unfold rowC
            rw [if_pos h1, ← hL1]; rfl
          have hlt := pos_lt ht (l := l) (by omega) h2
          have hpg := parI_get ht h1 h2
          have h256 : (parT t l).getD ((MT.pos t l).getD i 0) 0 < 256 := parT_lt ht (by omega) hlt
          have hp256 : 2 ^ (7 - l) < 256 := Nat.pow_lt_pow_right (m := 7 - l) (n := 8) (by decide) (by omega)
          have hbt := lev_bt ht (l := l) (by omega) h2
          rw [hbt] at hg
          clear hget hll
          refine gox ?_
          refine hg.does hL ?_
          clear hg hbt
          cases hb : MT.bitA l (t.getD ((MT.pos t l).getD i 0) 0)
          · have hsk := parI_skip ht h1 h2 hb
            clear hb
            refine gox ?_
            exact ⟨i + 1, by omega, by omega, le_slots' (Nat.zero_le _) (by rw [hsk]) (go trivial)⟩
          · have hsb := parI_bit ht h1 h2 hb
            clear hb
            refine gox ?_
            refine regD 9 (by kernel_rfl) (by kernel_rfl) (gox ?_)
            exact ⟨i + 1, by omega, by omega, le_slots' (Nat.zero_le _) (by first | rfl | rw [hsb]) (go trivial)⟩
        · obtain rfl : i = t.length := by omega
          have hpa := parI_all ht h1
          clear hget hll hpl hil
          refine gox ?_
          by_cases hn0 : t.length = 0
          · have hz : MT.pos t l = MT.pos t (l + 1) := by rw [List.eq_nil_of_length_eq_zero hn0]; exact (List.eq_nil_of_length_eq_zero (MT.ordTo_length _ _ _ fun i hi => absurd hi (Nat.not_lt_zero _))).trans (List.eq_nil_of_length_eq_zero (MT.ordTo_length _ _ _ fun i hi => absurd hi (Nat.not_lt_zero _))).symm
            rw [hn0]
            refine b_sortI0 hL _ _ _ ?_
            rw [hz]
            refine go ?_
            refine ⟨l + 1, by omega, by omega, le_gc 5 (Nat.zero_le _) (by simp) ?_ ?_⟩
            · refine go ?_
              simp only [hn0, frn_lev Tryz.prog _ 5 3 kind hk, frn_rows Tryz.prog _ 5 4, and_self]
            · refine go ?_
              simp only [hn0, frn_lev Tryz.prog _ 5 3 kind hk, and_self]
          · refine b_tsort ht h1 (by omega) (by omega) rfl rfl rfl rfl (by decide) (by decide) (by decide) ?_
            refine go ?_
            refine ⟨l + 1, by omega, by omega, le_gc 5 (Nat.zero_le _) (by simp) ?_ ?_⟩
            · refine go ?_
              simp only [frn_lev Tryz.prog _ 5 3 kind hk, frn_rows Tryz.prog _ 5 4, and_self]
            · refine go ?_
              simp only [frn_lev Tryz.prog _ 5 3 kind hk, and_self]
      · obtain rfl : l = 8 := by omega
        have h8 := parT_eight t
        clear hget hll
        refine gox ?_
        exact fin_
theorem b_tcheck (hT : ∀ n c, L n c → TabL n c) (kind : Nat) (hk : Kind kind) (t : List Nat) (ht : MT.Bytes t) (hl : t.length ≤ 8192) : Pure Tryz.prog L 23 [treeV kind t] (.b true) := by
  refine pure_of_W Tryz.func23 rfl rfl (by kernel_rfl) [] (args_below (tree_below 0 kind hk t) closed) closed fun A hL => ?_
  have h1 := b_twhole (L := L) hT kind hk t ht hl
  have hlc := levC_length kind hk t 8
  unfold treeV at *
  unfold Tryz.f23
  refine gox ?_
  refine h1.does hL (gox ?_)
  exact fin_
theorem b_ttext (hT : ∀ n c, L n c → TabL n c) (kind : Nat) (hk : Kind kind) (t : List Nat) (ht : MT.Bytes t) (hl : t.length ≤ 8192) : Pure Tryz.prog L 25 [treeV kind t] (.sl false t.length (nums .u8 t)) := by
  refine pure_of_W Tryz.func25 rfl rfl (by kernel_rfl) [] (args_below (tree_below 0 kind hk t) closed) closed fun A hL => ?_
  have h1 := b_twhole (L := L) hT kind hk t ht hl
  have hlc := levC_length kind hk t 8
  unfold treeV at *
  unfold Tryz.f25
  refine gox ?_
  refine h1.does hL (gox ?_)
  exact fin_
end Go.Proofs.E
end
/- The laws of layer 12 that speak of what was built. -/
section
set_option linter.unusedVariables false
set_option linter.unusedSimpArgs false
set_option linter.unusedSectionVars false
namespace Go.Proofs.E
open Go Go.Proofs.MV Go.Proofs.MI
set_option linter.unusedVariables false
set_option maxRecDepth 10000
variable {L : Nat → (Nat → Option Obj) → Prop}
theorem b_tbuildA (hT : ∀ n c, L n c → TabL n c) (kind : Nat) (hk : Kind kind) (t : List Nat) (ht : MT.Bytes t) (hl : t.length ≤ 8192) : Pure Tryz.prog L 9 [.i .i64 kind, .sl false t.length (nums .u8 t)] (.tup [treeV kind t, .i .i64 0]) := by
  rcases Nat.eq_zero_or_pos t.length with h0 | h0
  · obtain rfl : t = [] := List.eq_nil_of_length_eq_zero h0
    exact b_tbuild0 hT kind hk
  · exact b_tbuild hT kind hk t ht h0 hl
theorem b_twholeZ : Pure Tryz.prog L 47 [.agg [.i .i64 0, .i .i64 0, .ns]] (.tup [.sl false 0 [], .b false]) := by
  refine pure_of_W Tryz.func47 rfl rfl (by kernel_rfl) [] closed closed fun A hL => ?_
  unfold Tryz.f47
  refine go ?_
  exact fin_
theorem b_trankZ : Pure Tryz.prog L 13 [.agg [.i .i64 0, .i .i64 0, .ns], .i .u8 0, .i .i64 0] (.tup [.i .i64 0, .i .i64 2]) := by
  have hc : Pure Tryz.prog L 23 [.agg [.i .i64 0, .i .i64 0, .ns]] (.b false) := by
    refine pure_of_W Tryz.func23 rfl rfl (by kernel_rfl) [] closed closed fun A hL => ?_
    unfold Tryz.f23
    refine go ?_
    refine b_twholeZ.does hL (go ?_)
    exact fin_
  refine pure_of_W Tryz.func13 rfl rfl (by kernel_rfl) [] closed closed fun A hL => ?_
  unfold Tryz.f13
  refine go ?_
  refine hc.does hL (go ?_)
  exact fin_
def abra : List Nat := [97, 98, 114, 97, 99, 97, 100, 97, 98, 114, 97]
theorem bytes_of {t : List Nat} (h : ∀ x ∈ t, x < 256) : MT.Bytes t := ⟨fun i hi => by
  rw [List.getD_eq_getElem?_getD, List.getElem?_eq_getElem hi]
  exact h _ (List.getElem_mem hi)⟩
theorem vsz_one (l : List Bool) : vsz 1 l = l.length + 32 * (l.length / 512 + 1) + 16 * wc l := rfl
theorem b_heads12 (hT : ∀ n c, L n c → TabL n c) : Pure Tryz.prog L 8 [] (.b true) := by
  refine pure_of_W Tryz.func8 rfl rfl (by kernel_rfl) [] closed closed fun A hL => ?_
  have ht : MT.Bytes abra := bytes_of (by decide)
  have hk : Kind 1 := .inl rfl
  have hll := fun l (h : l < 8) => MT.lev_length ht (l := l) (by omega)
  have hb := b_tbuildA (L := L) hT 1 hk abra ht (by decide)
  have hC := b_tcheck (L := L) hT 1 hk abra ht (by decide)
  have hX := b_ttext (L := L) hT 1 hk abra ht (by decide)
  have h1 := b_taccess (L := L) hT 1 hk abra ht (by decide) hC 4 (by decide)
  have h2 := b_trank (L := L) hT 1 hk abra ht (by decide) hC 97 (by decide) 8 (by decide)
  have h3 := b_tselect (L := L) hT 1 hk abra ht (by decide) hC 9 (by decide) 114 (by decide)
  have h4 := b_tselect_no (L := L) hT 1 hk abra ht (by decide) hC 122 (by decide) 0 (.inr (by decide)) (by decide) (by decide)
  have h5 := b_taccess_no (L := L) 1 hk abra ht (by decide) hC 11 (by decide) (by decide)
  have h6 := b_trankZ (L := L)
  have hs := b_tsize (L := L) hT 1 hk abra ht (by decide) hC (fun l h => by rw [vsz_one, hll l h]; unfold wc; rw [hll l h]; decide)
  obtain ⟨z, hz, hz0⟩ : ∃ z, tsz 1 abra 8 = z ∧ 0 < z := ⟨_, rfl, by
    show 0 < tsz 1 abra 7 + vsz 1 (MT.lev abra 7)
    rw [vsz_one]; omega⟩
  rw [hz] at hs
  have hzb : z ≤ 1000000 := by
    rw [← hz]
    have hv := fun l (h : l < 8) => show vsz 1 (MT.lev abra l) ≤ 1000 by rw [vsz_one, hll l h]; unfold wc; rw [hll l h]; decide
    have a0 := hv 0 (by decide); have a1 := hv 1 (by decide); have a2 := hv 2 (by decide); have a3 := hv 3 (by decide); have a4 := hv 4 (by decide); have a5 := hv 5 (by decide); have a6 := hv 6 (by decide); have a7 := hv 7 (by decide)
    simp only [tsz]; omega
  have e1 : abra.getD 4 0 = 99 := rfl
  have e2 : (abra.take 8).count 97 = 4 := by decide
  have e3 : (abra.take 9).count 114 = 1 := by decide
  have e4 : abra.length = 11 := rfl
  rw [e1] at h1; rw [e2] at h2; rw [e3] at h3; rw [e4] at hb hX
  have hlc := levC_length 1 hk abra 8
  clear hll
  unfold treeV at *
  unfold Tryz.f8
  have hb' : Pure Tryz.prog L 9 [.i .i64 1, .sl false 11 (nums .u8 ((((((((((((List.replicate 11 0).set 0 97).set 1 98).set 2 114).set 3 97).set 4 99).set 5 97).set 6 100).set 7 97).set 8 98).set 9 114).set 10 97))] _ := hb
  have hst : (strB abra).toList == ByteArray.toList ⟨#[97, 98, 114, 97, 99, 97, 100, 97, 98, 114, 97]⟩ := by decide +kernel
  clear hb
  refine gox ?_
  refine hb'.does hL (gox ?_)
  refine h1.does hL (gox ?_)
  refine h2.does hL (gox ?_)
  refine h3.does hL (gox ?_)
  refine h4.does hL (gox ?_)
  refine h5.does hL (gox ?_)
  refine h6.does hL (gox ?_)
  clear h1 h2 h3 h4 h5 h6
  refine hC.does hL (gox ?_)
  refine hs.does hL (gox ?_)
  refine hX.does hL (gox ?_)
  exact fin_
theorem count_take_succ (t : List Nat) (c i : Nat) (h : i < t.length) : (t.take (i + 1)).count c = (t.take i).count c + if t.getD i 0 = c then 1 else 0 := by
  rw [List.take_succ_eq_append_getElem h, List.count_append, List.count_singleton, List.getD_eq_getElem?_getD, List.getElem?_eq_getElem h]
  simp
theorem law_TreeCounts (hT : ∀ n c, L n c → TabL n c) (kind : Int) (hk0 : -9223372036854775808 ≤ kind) (hk1 : kind < 9223372036854775808) (t : List Nat) (ht : ∀ x ∈ t, x < 256) (i : Int) (hz0 : -9223372036854775808 ≤ i) (hz1 : i < 9223372036854775808) (c : Nat) (hc : c < 256) :
    Pure Tryz.prog L 4 [.i .i64 kind, .sl false t.length (nums .u8 t), .i .i64 i, .i .u8 c] (.b true) := by
  refine pure_of_W Tryz.func4 rfl rfl (by kernel_rfl) [] closed closed fun A hL => ?_
  have hh := b_heads12 (L := L) hT
  have hB := bytes_of ht
  unfold Tryz.f4
  by_cases hout : (t.length : Int) > 600 ∨ i < 0 ∨ i ≥ t.length ∨ kind < 1 ∨ kind > 3
  · have h3 : (600 : Int) < t.length ∨ (¬ (600 : Int) < t.length ∧ i < 0) ∨ (¬ (600 : Int) < t.length ∧ ¬ i < 0 ∧ (t.length : Int) ≤ i) ∨ (¬ (600 : Int) < t.length ∧ ¬ i < 0 ∧ ¬ (t.length : Int) ≤ i ∧ kind < 1) ∨ (¬ (600 : Int) < t.length ∧ ¬ i < 0 ∧ ¬ (t.length : Int) ≤ i ∧ ¬ kind < 1 ∧ 3 < kind) := by omega
    clear hB hout
    rcases h3 with h3 | ⟨h3, h4⟩ | ⟨h3, h4, h5⟩ | ⟨h3, h4, h5, h6⟩ | ⟨h3, h4, h5, h6, h7⟩
    all_goals
      refine gox ?_
      refine hh.does hL (gox ?_)
      exact fin_
  obtain ⟨kn, rfl⟩ : ∃ kn : Nat, kind = kn := ⟨kind.toNat, by omega⟩
  obtain ⟨j, rfl⟩ : ∃ j : Nat, i = j := ⟨i.toNat, by omega⟩
  have hkn : Kind kn := by unfold Kind; omega
  have hl : t.length ≤ 600 := by omega
  have hj : j < t.length := by omega
  have hb := b_tbuildA (L := L) hT kn hkn t hB (by omega)
  have hC := b_tcheck (L := L) hT kn hkn t hB (by omega)
  have ha := b_taccess (L := L) hT kn hkn t hB (by omega) hC j hj
  have hr := b_trank (L := L) hT kn hkn t hB (by omega) hC c hc j (by omega)
  have hr2 := b_trank (L := L) hT kn hkn t hB (by omega) hC c hc (j + 1) (by omega)
  have hcs := count_take_succ t c j hj
  have hcl : (t.take j).count c ≤ t.length := Nat.le_trans List.count_le_length (by rw [List.length_take]; omega)
  have hlc := levC_length kn hkn t 8
  have hk3 : ¬ (3 : Int) < kn := by omega
  have hk4 : ¬ (kn : Int) < 1 := by omega
  clear hB hout
  unfold treeV at *
  by_cases hcc : t.getD j 0 = c
  · rw [if_pos hcc] at hcs
    have hq : ¬ (t.take j).count c + 1 = (t.take j).count c := by omega
    refine gox ?_
    refine hb.does hL (gox ?_)
    refine ha.does hL (gox ?_)
    refine hr.does hL (gox ?_)
    refine hr2.does hL (gox ?_)
    refine hh.does hL (gox ?_)
    exact fin_
  · rw [if_neg hcc, Nat.add_zero] at hcs
    have hq : ¬ (t.take j).count c = (t.take j).count c + 1 := by omega
    refine gox ?_
    refine hb.does hL (gox ?_)
    refine ha.does hL (gox ?_)
    refine hr.does hL (gox ?_)
    refine hr2.does hL (gox ?_)
    refine hh.does hL (gox ?_)
    exact fin_
end Go.Proofs.E
end
