/- Part 19 of what this claim leans on: YLay, MS, TZ, TZ2, TT5, TT6, TT7, TL12, TR03, TR03b, TR01, TR03c, TR06, TR07, TR08, TR08b, TR09, TR09b, TR09c, TR10, TL12b. -/
import Derived.Ground.SlsfProg
import Derived.Shelf.SlSortCmp.Whole1
import Derived.Test.YtdoooffmaokaeaaGreatDoorProg
import Derived.Test.YtdoooffmaokaeaaGreatDoorZ11
import Derived.Test.YtdoooffmaokaeaaGreatDoorZ16
import Derived.Test.YtdoooffmaokaeaaGreatDoorZ4
import Derived.Test.YtdoooffmaokaeaaGreatDoorZ12
import Derived.Test.YtdoooffmaokaeaaGreatDoorZ18
import Derived.Test.YtdoooffmaokaeaaGreatDoorZ5
import Derived.Test.YtdoooffmaokaeaaGreatDoorZ10
/-
  DERIVED: THE SHELF's CONTRACTS AT THIS DUMP, IN PLAIN WORDS (tools/lay-plain.mjs out of 'TryShelf.lean', which tools/lay-shelf.mjs wrote): THE SAME DECLARATIONS UNDER THE SAME NAMES: 'import', 'namespace', 'open', 'def', 'theorem' AND NOTHING ELSE: no command of the shelf's: FOR A HAND-IN. Each laying: the table of numbers ('.._ren') and one theorem, a field a fact of the dump's own or the kernel's comparison; each contract: ONE APPLICATION.
-/
section
set_option linter.unusedVariables false
set_option linter.unusedSimpArgs false
set_option linter.unusedSectionVars false
namespace Go.Proofs
open Go.Shelf
def Tryz.sortL_ren : Go.Shelf.Ren := ⟨fun | 6 => 84 | 15 => 140 | 14 => 139 | 28 => 179 | 29 => 180 | 20 => 171 | 21 => 172 | 22 => 173 | 23 => 174 | 24 => 175 | 25 => 176 | 26 => 177 | 27 => 178 | 46 => 195 | 47 => 196 | 48 => 197 | 49 => 198 | 50 => 199 | 57 => 201 | n => n, fun | 22 => 35 | 24 => 3 | 25 => 130 | 3 => 3 | 39 => 30 | 0 => 0 | 53 => 206 | 55 => 95 | 4 => 4 | 46 => 199 | 45 => 198 | 50 => 203 | 5 => 5 | 9 => 9 | 66 => 219 | 70 => 223 | 76 => 231 | 77 => 60 | n => n, fun | n => n⟩
theorem Tryz.sortL : Go.Proofs.SlLaysF.n6 Tryz.prog Tryz.sortL_ren := {
  mixed := by kernel_rfl
  f6 := ⟨Tryz.f84.name, by decide, Tryz.func84.trans (congrArg some (by kernel_rfl))⟩
  f14 := ⟨Tryz.f139.name, by decide, Tryz.func139.trans (congrArg some (by kernel_rfl))⟩
  f15 := Tryz.func140.trans (congrArg some (by kernel_rfl))
  f20 := ⟨Tryz.f171.name, by decide, Tryz.func171.trans (congrArg some (by kernel_rfl))⟩
  f21 := ⟨Tryz.f172.name, by decide, Tryz.func172.trans (congrArg some (by kernel_rfl))⟩
  f22 := ⟨Tryz.f173.name, by decide, Tryz.func173.trans (congrArg some (by kernel_rfl))⟩
  f23 := ⟨Tryz.f174.name, by decide, Tryz.func174.trans (congrArg some (by kernel_rfl))⟩
  f24 := ⟨Tryz.f175.name, by decide, Tryz.func175.trans (congrArg some (by kernel_rfl))⟩
  f25 := ⟨Tryz.f176.name, by decide, Tryz.func176.trans (congrArg some (by kernel_rfl))⟩
  f26 := ⟨Tryz.f177.name, by decide, Tryz.func177.trans (congrArg some (by kernel_rfl))⟩
  f27 := ⟨Tryz.f178.name, by decide, Tryz.func178.trans (congrArg some (by kernel_rfl))⟩
  f28 := Tryz.func179.trans (congrArg some (by kernel_rfl))
  f29 := Tryz.func180.trans (congrArg some (by kernel_rfl))
  f46 := ⟨Tryz.f195.name, by decide, Tryz.func195.trans (congrArg some (by kernel_rfl))⟩
  f47 := Tryz.func196.trans (congrArg some (by kernel_rfl))
  f48 := Tryz.func197.trans (congrArg some (by kernel_rfl))
  f49 := ⟨Tryz.f198.name, by decide, Tryz.func198.trans (congrArg some (by kernel_rfl))⟩
  f50 := ⟨Tryz.f199.name, by decide, Tryz.func199.trans (congrArg some (by kernel_rfl))⟩
  f57 := ⟨Tryz.f201.name, by decide, Tryz.func201.trans (congrArg some (by kernel_rfl))⟩
  t0 := Tryz.underlying0
  a0 := Tryz.isAgg0
  z0 := Tryz.sizeOf0
  v0 := Tryz.zeroValue0
  t3 := Tryz.underlying3
  a3 := Tryz.isAgg3
  z3 := Tryz.sizeOf3
  v3 := Tryz.zeroValue3
  t4 := Tryz.underlying4
  a4 := Tryz.isAgg4
  z4 := Tryz.sizeOf4
  v4 := Tryz.zeroValue4
  t5 := Tryz.underlying5
  a5 := Tryz.isAgg5
  z5 := Tryz.sizeOf5
  v5 := Tryz.zeroValue5
  t9 := Tryz.underlying9
  a9 := Tryz.isAgg9
  z9 := Tryz.sizeOf9
  v9 := Tryz.zeroValue9
  t22 := Tryz.underlying35
  a22 := Tryz.isAgg35
  z22 := Tryz.sizeOf35
  v22 := Tryz.zeroValue35
  a24 := Tryz.isAgg3
  z24 := Tryz.sizeOf3
  t25 := Tryz.underlying130
  a25 := Tryz.isAgg130
  z25 := Tryz.sizeOf130
  v25 := Tryz.zeroValue130
  t39 := Tryz.underlying30
  a39 := Tryz.isAgg30
  z39 := Tryz.sizeOf30
  v39 := Tryz.zeroValue30
  t45 := Tryz.underlying198
  a45 := Tryz.isAgg198
  z45 := Tryz.sizeOf198
  v45 := Tryz.zeroValue198
  t46 := Tryz.underlying199
  a46 := Tryz.isAgg199
  z46 := Tryz.sizeOf199
  v46 := Tryz.zeroValue199
  t50 := Tryz.underlying203
  a50 := Tryz.isAgg203
  z50 := Tryz.sizeOf203
  v50 := Tryz.zeroValue203
  t53 := Tryz.underlying206
  a53 := Tryz.isAgg206
  z53 := Tryz.sizeOf206
  v53 := Tryz.zeroValue206
  t55 := Tryz.underlying95
  a55 := Tryz.isAgg95
  z55 := Tryz.sizeOf95
  v55 := Tryz.zeroValue95
  t66 := Tryz.underlying219
  a66 := Tryz.isAgg219
  z66 := Tryz.sizeOf219
  v66 := Tryz.zeroValue219
  t70 := Tryz.underlying223
  a70 := Tryz.isAgg223
  z70 := Tryz.sizeOf223
  v70 := Tryz.zeroValue223
  t76 := Tryz.underlying231
  a76 := Tryz.isAgg231
  z76 := Tryz.sizeOf231
  v76 := Tryz.zeroValue231
  t77 := Tryz.underlying60
  a77 := Tryz.isAgg60
  z77 := Tryz.sizeOf60
  v77 := Tryz.zeroValue60 }
end Go.Proofs
end
/- Places that a sort has put by one bit more; in plain Lean. Of no function of the program. -/
section
set_option linter.unusedVariables false
set_option linter.unusedSimpArgs false
set_option linter.unusedSectionVars false
namespace Go.Proofs.MT
open Go.Sort Go.Proofs.MathMerge
set_option linter.unusedVariables false
/-- 0, 1, .. -/
def idA (n : Nat) : Array Int := ((List.range n).map fun i : Nat => (i : Int)).toArray
theorem idA_size (n : Nat) : (idA n).size = n := by simp [idA]
theorem idA_get (n k : Nat) (h : k < n) : (idA n)[k]! = (k : Int) := by
  rw [getElem!_pos _ k (by rw [idA_size]; exact h)]
  simp [idA]
theorem perm_list {α : Type} [Inhabited α] {d d' : Array α} {n : Nat} (hn : d.size = n) (h : PermIn 0 n d d') : d'.toList.Perm d.toList := by
  have h3 := h.2.2
  have hx : ∀ (x : Array α) (m : Nat), x.size = m → x.extract 0 m = x := fun x m hm => by subst hm; simp
  rw [hx d' _ (by rw [h.1, hn]), hx d _ hn] at h3
  exact h3
theorem sorted_pw {α : Type} [Inhabited α] {lt : α → α → Bool} {d : Array α} {n : Nat} (hn : d.size = n) (h : SortedIn lt 0 n d) : d.toList.Pairwise fun a b => lt b a = false := by
  rw [List.pairwise_iff_getElem]
  intro i j hi hj hij
  have hi' : i < d.size := by simpa using hi
  have hj' : j < d.size := by simpa using hj
  have := h i j (Nat.zero_le _) hij (by omega)
  rw [getElem!_pos d i hi', getElem!_pos d j hj'] at this
  simpa using this
theorem K_half {t : List Nat} {l : Nat} (h : l < 8) (i : Nat) : K t l i = K t (l + 1) i / 2 := by
  have := key_succ l (t.getD i 0) h
  change K t (l + 1) i = 2 * K t l i + _ at this
  have hb := Bool.toNat_lt (bitA l (t.getD i 0))
  omega
/-- A stable sort of the places by one bit more. -/
theorem stable_next {t : List Nat} (ht : Bytes t) {l : Nat} (hl : l < 8) {d' : Array Int} (hp : PermIn 0 t.length (idA t.length) d') (hs : SortedIn (lexB fun i : Int => ((K t (l + 1) ((pos t l).getD i.toNat 0) : Nat) : Int)) 0 t.length d') :
    d'.toList.map (fun i : Int => (pos t l).getD i.toNat 0) = pos t (l + 1) := by
  have hpl := pos_length ht (l := l) (by omega)
  have hperm := perm_list (idA_size _) hp
  have hnd : d'.toList.Nodup := by
    refine hperm.nodup_iff.2 ?_
    simp only [idA]
    exact List.Pairwise.map _ (fun a b (h : a ≠ b) => by omega) (List.nodup_range (n := t.length))
  have hmem : ∀ x ∈ d'.toList, 0 ≤ x ∧ x < (t.length : Int) := fun x hx => by
    have := hperm.mem_iff.1 hx
    simp only [idA, List.mem_map, List.mem_range] at this
    obtain ⟨i, hi, rfl⟩ := this
    omega
  have hpw := sorted_pw (by rw [hp.1, idA_size]) hs
  have hpp := ordTo_pw (K t l) t.length (2 ^ l)
  change (pos t l).Pairwise (ahead (K t l)) at hpp
  refine ordTo_uniq _ _ _ (K_lt ht (by omega)) _ ?_ ?_
  · have h1 : (d'.toList.map fun i : Int => (pos t l).getD i.toNat 0).Perm ((idA t.length).toList.map fun i : Int => (pos t l).getD i.toNat 0) := hperm.map _
    refine h1.trans ?_
    have h2 : ((idA t.length).toList.map fun i : Int => (pos t l).getD i.toNat 0) = pos t l := by
      simp only [idA, List.map_map]
      apply List.ext_getElem (by simp [hpl])
      intro i h1 h2
      simp [h2]
    rw [h2]
    exact ordTo_perm _ _ _ (K_lt ht (by omega))
  · rw [List.pairwise_map]
    have hboth := hpw.and hnd
    refine List.Pairwise.imp_of_mem ?_ hboth
    rintro a b ha hb ⟨hab, hne⟩
    rw [lexB_not] at hab
    have h1 := hmem a ha
    have h2 := hmem b hb
    rcases hab with hab | ⟨hab, hle⟩
    · exact .inl (by omega)
    · refine .inr ⟨by omega, ?_⟩
      have hlt : a.toNat < b.toNat := by omega
      have := (List.pairwise_iff_getElem.1 hpp) a.toNat b.toNat (by rw [hpl]; omega) (by rw [hpl]; omega) hlt
      rw [List.getD_eq_getElem?_getD, List.getD_eq_getElem?_getD, List.getElem?_eq_getElem (by rw [hpl]; omega), List.getElem?_eq_getElem (by rw [hpl]; omega)] at hab ⊢
      simp only [Option.getD_some] at hab ⊢
      have e1 := K_half (t := t) hl (pos t l)[a.toNat]
      have e2 := K_half (t := t) hl (pos t l)[b.toNat]
      unfold ahead at this
      omega
/-- Any sort of the places by one bit more, then by the places. -/
theorem sort_next {t : List Nat} (ht : Bytes t) {l : Nat} (hl : l < 8) {n : Nat} (hn : t.length = n) {q : List Nat} (hp : q.Perm (pos t l)) (hs : q.Pairwise fun a b => ¬ (K t (l + 1) b < K t (l + 1) a ∨ K t (l + 1) b = K t (l + 1) a ∧ b < a)) : q = pos t (l + 1) := by
  have h1 : q.Perm (List.range t.length) := hp.trans (ordTo_perm _ _ _ (K_lt ht (by omega)))
  have hnd : q.Nodup := h1.nodup_iff.2 List.nodup_range
  refine ordTo_uniq _ _ _ (K_lt ht (by omega)) _ h1 (List.Pairwise.imp ?_ (hs.and hnd))
  rintro a b ⟨h1, h2⟩
  have h2 : a ≠ b := h2
  unfold ahead
  omega
end Go.Proofs.MT
end
/- The program: copies of bytes, rows that are sorted. -/
section
set_option linter.unusedVariables false
set_option linter.unusedSimpArgs false
set_option linter.unusedSectionVars false
namespace Go.Proofs.E
open Go Go.Proofs.MV Go.Proofs.MI Go.Sort
set_option linter.unusedVariables false
set_option maxRecDepth 10000
variable {L : Nat → (Nat → Option Obj) → Prop}
theorem b_clone {A : Amb} (f : Bool) (l : List Nat) (h0 : 0 < l.length) (hl : l.length ≤ 1000000) {H : Heap} {K : V → Heap → Prop} (hK : K (.o H.length 0 0 l.length) (H ++ [⟨5, 0, nums .u8 l, true⟩])) : Does Tryz.prog A 27 [.sl f l.length (nums .u8 l)] H K := by
  refine does_of_W Tryz.func27 rfl rfl (by kernel_rfl) [] ?_
  unfold Tryz.f27
  refine gox ?_
  exact hK
theorem b_clone0 {A : Amb} (f : Bool) {H : Heap} {K : V → Heap → Prop} (hK : K (.sl false 0 []) H) : Does Tryz.prog A 27 [.sl f 0 []] H K := by
  refine Does.lo (K' := fun r H' => lo r = .sl false 0 [] ∧ H' = H) ?_ (fun r H' h => by rw [h.1, h.2]; exact hK)
  refine does_of_W Tryz.func27 rfl rfl (by kernel_rfl) [] ?_
  unfold Tryz.f27
  refine gox ?_
  refine ⟨gox ?_, gox ?_⟩
  all_goals first | exact ⟨rfl, rfl⟩ | rfl
theorem b_tcmp (x y l : Nat) (hx : x < 256) (hy : y < 256) (hl : l ≤ 7) : Pure Tryz.prog L 31 [.i .u8 x, .i .u8 y, .r [.i .i64 l] 0] (.i .i64 (((x / 2 ^ (7 - l) : Nat) : Int) - ((y / 2 ^ (7 - l) : Nat) : Int))) := by
  refine pure_of_W Tryz.func31 rfl rfl (by kernel_rfl) [] closed (.i _ _) fun A hL => ?_
  have h1 : x / 2 ^ (7 - l) ≤ x := Nat.div_le_self _ _
  have h2 : y / 2 ^ (7 - l) ≤ y := Nat.div_le_self _ _
  obtain ⟨a, ha⟩ : ∃ a, x / 2 ^ (7 - l) = a := ⟨_, rfl⟩
  obtain ⟨b, hb⟩ : ∃ a, y / 2 ^ (7 - l) = a := ⟨_, rfl⟩
  rw [ha] at h1 ⊢
  rw [hb] at h2 ⊢
  unfold Tryz.f31
  refine gox ?_
  refine regD 12 (by kernel_rfl) (by kernel_rfl) (gox ?_)
  exact fin_
/-- The symbols of a level, in order. -/
def symL (t : List Nat) (l : Nat) : List Nat := (MT.pos t l).map fun i => t.getD i 0
theorem symL_length {t : List Nat} (ht : MT.Bytes t) {l : Nat} (hl : l ≤ 8) : (symL t l).length = t.length := by unfold symL; rw [List.length_map, MT.pos_length ht hl]
def phiT (t : List Nat) (l : Nat) (i : Int) : Int := (t.getD ((MT.pos t l).getD i.toNat 0) 0 : Nat)
theorem getD_byte {t : List Nat} (ht : MT.Bytes t) (i : Nat) : t.getD i 0 < 256 := by
  rcases Nat.lt_or_ge i t.length with h | h
  · exact ht.lt i h
  · rw [List.getD_eq_getElem?_getD, List.getElem?_eq_none h]; decide
theorem row_id {t : List Nat} (ht : MT.Bytes t) {l : Nat} (hl : l ≤ 8) : rowV .u8 (phiT t l) (MT.idA t.length) = nums .u8 (symL t l) := by
  have hp := MT.pos_length ht hl
  unfold rowV symL nums MT.idA
  rw [List.map_map, List.map_map]
  apply List.ext_getElem (by simp [hp])
  intro i h1 h2
  have hi : i < (MT.pos t l).length := by simpa using h2
  simp only [List.getElem_map, List.getElem_range, Function.comp, phiT, Int.toNat_natCast]
  rw [List.getD_eq_getElem?_getD (l := MT.pos t l), List.getElem?_eq_getElem hi]; rfl
theorem row_next {t : List Nat} {l : Nat} {d' : Array Int} (h : d'.toList.map (fun i : Int => (MT.pos t l).getD i.toNat 0) = MT.pos t (l + 1)) : rowV .u8 (phiT t l) d' = nums .u8 (symL t (l + 1)) := by
  unfold rowV symL nums
  rw [← h, List.map_map, List.map_map]
  rfl
theorem b_tstable {A : Amb} {t : List Nat} (ht : MT.Bytes t) {l : Nat} (hl : l < 8) (h0 : 0 < t.length) (hn : t.length ≤ 40000) {H : Heap} {b gg bl : Nat} (hb : H[b]? = some ⟨5, gg, nums .u8 (symL t l), true⟩) (hbl : H[bl]? = some ⟨3, 0, [.i .i64 l], true⟩) (hne : bl ≠ b) {K : V → Heap → Prop}
    (hK : K (.tup []) (H.set b ⟨5, gg, nums .u8 (symL t (l + 1)), true⟩)) : Does Tryz.prog A 30 [.o b gg 0 t.length, .f (.func 31) [] [.p bl 0 0]] H K := by
  have eg : ∀ args w, (callFunc 31 args).run Tryz.prog w = .ok (.enter 31 args) w := enters_of Tryz.func31 (by kernel_rfl) rfl
  have hsz := MT.idA_size t.length
  have key : ∀ K', (K' (.tup []) (H.set b ⟨5, gg, nums .u8 (symL t (l + 1)), true⟩)) → Does Tryz.prog A 52 [.o b gg 0 t.length, .i .i64 t.length, .f (.func 31) [] [.p bl 0 0]] H K' := by
    intro K' hK'
    have := sort_doesN (P := Tryz.prog) (A := A) (L := fun _ _ => True) (f := 52) (g := 31) (K := K') (k := .u8) (φ := phiT t l) (nfr := 2) (cf := fun x y => ((MT.key (l + 1) (phiT t l x).toNat : Nat) : Int) - ((MT.key (l + 1) (phiT t l y).toNat : Nat) : Int)) (d0 := MT.idA t.length) (caps := [.p bl 0 0])
      (Q := fun d' => d'.toList.map (fun i : Int => (MT.pos t l).getD i.toNat 0) = MT.pos t (l + 1)) [(t.length : Int)] Tryz.func52 (by kernel_rfl) (by kernel_rfl) (b := b) (gg := gg) (t := 5) (H := H) (by rw [row_id ht (by omega)]; exact hb) (by rw [hsz]; exact h0) trivial eg
      (fun d hd x y => ?_) (fun w q cap cb hC hH hq => ?_) (fun d' hQ hd => ?_)
    · rw [hsz] at this
      exact this
    · have hx := getD_byte ht ((MT.pos t l).getD x.toNat 0)
      have hy := getD_byte ht ((MT.pos t l).getD y.toNat 0)
      have hc := b_tcmp (L := fun _ _ => True) (t.getD ((MT.pos t l).getD x.toNat 0) 0) (t.getD ((MT.pos t l).getD y.toNat 0) 0) l hx hy (by omega)
      have hfr : [V.p bl 0 0].map (frz Tryz.prog (H.set b ⟨5, gg, rowV .u8 (phiT t l) d, true⟩) 2) = [.r [.i .i64 l] 0] := by
        have : Heap.at (H.set b ⟨5, gg, rowV .u8 (phiT t l) d, true⟩ : Heap) bl 0 = some ⟨3, 0, [.i .i64 l], true⟩ := by
          unfold Heap.at
          rw [List.getElem?_set_ne (Ne.symm hne), hbl]; rfl
        simp only [List.map_cons, List.map_nil, frz, this]
      rw [hfr]
      simp only [phiT, MT.key, Int.toNat_natCast, show 8 - (l + 1) = 7 - l by omega]
      exact hc
    · have T : Go.Proofs.YtdoooffmaokaeaaGreatDoor.StableB.Told (fun i : Int => ((MT.K t (l + 1) ((MT.pos t l).getD i.toNat 0) : Nat) : Int)) (encI .u8 (phiT t l)) (fun x y => ((MT.key (l + 1) (phiT t l x).toNat : Nat) : Int) - ((MT.key (l + 1) (phiT t l y).toNat : Nat) : Int)) 31 cb q 0 (MT.idA t.length) w :=
        ⟨⟨fun _ => rfl, hH, hq⟩, eg, hC, fun x y => by
          unfold Go.Proofs.MathMerge.ltB
          rw [decide_eq_true_iff]
          simp only [phiT, Int.toNat_natCast, MT.K]
          omega, by rw [hsz]; omega⟩
      have := Go.Proofs.YtdoooffmaokaeaaGreatDoor.StableB.stable_any _ _ _ _ cb q 0 cap t.length (MT.idA t.length) (MT.idA t.length) w w T hsz hsz (SW.start hH) (fun k hk => MT.idA_get _ _ hk) (by omega)
      rw [hsz]
      exact this.mono fun e w' ⟨he, d', hp, hs, m, os, hw⟩ => ⟨he, m, os, d', MT.stable_next ht hl hp hs, by rw [hp.1, hsz], hw⟩
    · rw [row_next hQ]; exact hK'
  refine does_of_W Tryz.func30 rfl rfl (by kernel_rfl) [] ?_
  unfold Tryz.f30
  refine gox ?_
  refine key _ ?_
  refine go ?_
  exact hK
theorem b_ins0 {A : Amb} (g : V) {H : Heap} {K : V → Heap → Prop} (hK : K (.tup []) H) : Does Tryz.prog A 100 [.sl false 0 [], .i .i64 0, .i .i64 0, g] H K := by
  refine does_of_W Tryz.func100 rfl rfl (by kernel_rfl) [] ?_
  unfold Tryz.f100
  refine go ?_
  refine loop_ (fun _ : Unit => ⟨[(2, .i .i64 0), (8, .i .i64 1)], H⟩) (fun _ => True) (fun _ => 0) () trivial (le_slots (Nat.le_refl _) (go trivial)) fun x hx => go ?_
  exact hK
theorem b_stable0 {A : Amb} (g : V) {H : Heap} {K : V → Heap → Prop} (hK : K (.tup []) H) : Does Tryz.prog A 30 [.sl false 0 [], g] H K := by
  have key : ∀ K' : V → Heap → Prop, K' (.tup []) H → Does Tryz.prog A 52 [.sl false 0 [], .i .i64 0, g] H K' := by
    intro K' hK'
    refine does_of_W Tryz.func52 rfl rfl (by kernel_rfl) [] ?_
    unfold Tryz.f52
    refine go ?_
    refine loop_ (fun _ : Unit => ⟨[(0, .sl false 0 []), (1, .i .i64 0), (2, g), (6, .i .i64 20), (7, .i .i64 0), (8, .i .i64 20)], H⟩) (fun _ => True) (fun _ => 0) () trivial (le_slots (Nat.le_refl _) (go trivial)) fun x hx => go ?_
    refine b_ins0 g (go ?_)
    refine loop_ (fun _ : Unit => ⟨[(1, .i .i64 0), (6, .i .i64 20)], H⟩) (fun _ => True) (fun _ => 0) () trivial (le_slots (Nat.le_refl _) (go trivial)) fun x hx => go ?_
    exact hK'
  refine does_of_W Tryz.func30 rfl rfl (by kernel_rfl) [] ?_
  unfold Tryz.f30
  refine go ?_
  refine key _ ?_
  refine go ?_
  exact hK
end Go.Proofs.E
end
/- The program: places that are sorted by a text's highest bits. -/
section
set_option linter.unusedVariables false
set_option linter.unusedSimpArgs false
set_option linter.unusedSectionVars false
namespace Go.Proofs.E
open Go Go.Proofs.MV Go.Proofs.MI Go.Sort Go.Shelf
set_option linter.unusedVariables false
set_option maxRecDepth 10000
variable {L : Nat → (Nat → Option Obj) → Prop}
/-- A text of its symbols' highest m bits. -/
def parT (t : List Nat) (m : Nat) : List Nat := t.map fun c => MT.key m c * 2 ^ (8 - m)
theorem parT_length (t : List Nat) (m : Nat) : (parT t m).length = t.length := by simp [parT]
theorem parT_get {t : List Nat} {m i : Nat} (h : i < t.length) : (parT t m).getD i 0 = MT.key m (t.getD i 0) * 2 ^ (8 - m) := by
  unfold parT
  rw [List.getD_eq_getElem?_getD, List.getD_eq_getElem?_getD, List.getElem?_map, List.getElem?_eq_getElem h]; rfl
theorem parT_lt {t : List Nat} (ht : MT.Bytes t) {m : Nat} (hm : m ≤ 8) {i : Nat} (h : i < t.length) : (parT t m).getD i 0 < 256 := by
  rw [parT_get h]
  have := MT.key_lt m _ hm (ht.lt i h)
  calc MT.key m (t.getD i 0) * 2 ^ (8 - m) < 2 ^ m * 2 ^ (8 - m) := Nat.mul_lt_mul_of_pos_right this (Nat.two_pow_pos _)
    _ = 256 := by rw [← Nat.pow_add, show m + (8 - m) = 8 by omega]
theorem parT_div {t : List Nat} {l i : Nat} (hl : l < 8) (h : i < t.length) : (parT t (l + 1)).getD i 0 / 2 ^ (7 - l) = MT.K t (l + 1) i := by
  rw [parT_get h, show 8 - (l + 1) = 7 - l by omega, Nat.mul_div_cancel _ (Nat.two_pow_pos _)]; rfl
def wcmp (a b : Nat) (x y : Nat) : Int := if a = b then (x : Int) - (y : Int) else (a : Int) - (b : Int)
theorem b_wcmp (p : List Nat) (n x y l a b : Nat) (hp : p.length = n) (hn : n ≤ 40000) (hx : x < n) (hy : y < n) (hl : l ≤ 7) (h8x : p.getD x 0 < 256) (h8y : p.getD y 0 < 256) (ha : p.getD x 0 / 2 ^ (7 - l) = a) (hb : p.getD y 0 / 2 ^ (7 - l) = b) :
    Pure Tryz.prog L 85 [.i .i64 x, .i .i64 y, .r [.sl false n (nums .u8 p)] 0, .r [.i .i64 l] 0] (.i .i64 (wcmp a b x y)) := by
  refine pure_of_W Tryz.func85 rfl rfl (by kernel_rfl) [] closed (.i _ _) fun A hL => ?_
  have h1 : a ≤ p.getD x 0 := by rw [← ha]; exact Nat.div_le_self _ _
  have h2 : b ≤ p.getD y 0 := by rw [← hb]; exact Nat.div_le_self _ _
  unfold Tryz.f85
  refine gox ?_
  refine regD 18 (by kernel_rfl) (by kernel_rfl) (gox ?_)
  refine ⟨fun h => go ?_, fun h => go ?_⟩
  · have hab : a = b := by omega
    rw [show wcmp a b x y = (x : Int) - (y : Int) from if_pos hab]
    exact fin_
  · have hab : a ≠ b := by omega
    rw [show wcmp a b x y = (a : Int) - (b : Int) from if_neg hab]
    exact fin_
theorem wcmp_neg (a b x y : Nat) : wcmp a b x y < 0 ↔ (a < b ∨ a = b ∧ x < y) := by
  unfold wcmp
  split <;> omega
theorem row_fin {n : Nat} (d : Array (Fin (n + 1))) : rowV .i64 (fun x : Fin (n + 1) => (x.val : Int)) d = nums .i64 (d.toList.map Fin.val) := by
  unfold rowV nums
  rw [List.map_map]; rfl
theorem b_tsort {A : Amb} {t : List Nat} (ht : MT.Bytes t) {l : Nat} (hl : l < 8) (h0 : 0 < t.length) (hn : t.length ≤ 40000) {H : Heap} {b gg bt bl bx : Nat} (hb : H[b]? = some ⟨3, gg, nums .i64 (MT.pos t l), true⟩) (hbl : H[bl]? = some ⟨3, 0, [.i .i64 l], true⟩) (hbt : H[bt]? = some ⟨22, 0, [.o bx 0 0 t.length], true⟩) (hbx : H[bx]? = some ⟨5, 0, nums .u8 (parT t (l + 1)), true⟩)
    (hne : bl ≠ b) (hne2 : bt ≠ b) (hne3 : bx ≠ b) {K : V → Heap → Prop} (hK : K (.tup []) (H.set b ⟨3, gg, nums .i64 (MT.pos t (l + 1)), true⟩)) : Does Tryz.prog A 84 [.o b gg 0 t.length, .f (.func 85) [] [.p bt 0 0, .p bl 0 0]] H K := by
  have eg : ∀ args w, (callFunc 85 args).run Tryz.prog w = .ok (.enter 85 args) w := enters_of Tryz.func85 (by kernel_rfl) rfl
  obtain ⟨m, hm⟩ : ∃ m, t.length = m + 1 := ⟨t.length - 1, by omega⟩
  have hpl := MT.pos_length ht (l := l) (by omega)
  have hpm : ∀ x ∈ MT.pos t l, x < m + 1 := fun x hx => by have := (MT.mem_ordTo.1 hx).1; omega
  obtain ⟨d0, hd0⟩ : ∃ d0 : Array (Fin (m + 1)), d0 = ((MT.pos t l).map fun i => Fin.ofNat (m + 1) i).toArray := ⟨_, rfl⟩
  have hd0l : d0.toList.map Fin.val = MT.pos t l := by
    rw [hd0, List.map_map]
    conv => rhs; rw [← List.map_id (MT.pos t l)]
    refine List.map_congr_left fun x hx => ?_
    simp only [Function.comp, Fin.val_ofNat, id]
    exact Nat.mod_eq_of_lt (hpm x hx)
  have hsz : d0.size = t.length := by rw [hd0]; simp [hpl]
  let cf : Fin (m + 1) → Fin (m + 1) → Int := fun x y => wcmp (MT.K t (l + 1) x.val) (MT.K t (l + 1) y.val) x.val y.val
  have hlt : ∀ x y, ltOf cf x y = true ↔ (MT.K t (l + 1) x.val < MT.K t (l + 1) y.val ∨ MT.K t (l + 1) x.val = MT.K t (l + 1) y.val ∧ x.val < y.val) := fun x y => by
    unfold ltOf
    rw [decide_eq_true_iff]
    exact wcmp_neg _ _ _ _
  have hlf : ∀ x y, ltOf cf x y = false ↔ ¬ (MT.K t (l + 1) x.val < MT.K t (l + 1) y.val ∨ MT.K t (l + 1) x.val = MT.K t (l + 1) y.val ∧ x.val < y.val) := fun x y => by
    rw [← hlt x y]
    cases ltOf cf x y <;> simp
  have hO : SWO (ltOf cf) := ⟨fun x => by rw [hlf]; omega, fun x y z h1 h2 => by rw [hlt] at *; omega, fun x y z h1 h2 => by rw [hlf] at *; omega⟩
  have := sort_does (P := Tryz.prog) (A := A) (L := fun _ _ => True) (f := 84) (g := 85) (K := K) (k := .i64) (φ := fun x : Fin (m + 1) => (x.val : Int)) (nfr := 3) (cf := cf) (d0 := d0) (caps := [.p bt 0 0, .p bl 0 0])
    (Q := fun d' => d'.toList.map Fin.val = MT.pos t (l + 1)) Tryz.func84 (by kernel_rfl) (by kernel_rfl) (b := b) (gg := gg) (t := 3) (H := H) (by rw [row_fin, hd0l]; exact hb) (by rw [hsz]; exact h0) trivial eg
    (fun d hd x y => ?_) (fun w q cap cb hC hH hq => ?_) (fun d' hQ hd => ?_)
  · rw [hsz] at this
    exact this
  · have hx := x.isLt
    have hy := y.isLt
    have hc := b_wcmp (L := fun _ _ => True) (parT t (l + 1)) t.length x.val y.val l _ _ (parT_length _ _) hn (by omega) (by omega) (by omega) (parT_lt ht (by omega) (by omega)) (parT_lt ht (by omega) (by omega)) (parT_div hl (by omega)) (parT_div hl (by omega))
    have e1 : Heap.at (H.set b ⟨3, gg, rowV .i64 (fun x : Fin (m + 1) => (x.val : Int)) d, true⟩ : Heap) bl 0 = some ⟨3, 0, [.i .i64 l], true⟩ := by
      unfold Heap.at
      rw [List.getElem?_set_ne (Ne.symm hne), hbl]; rfl
    have e2 : Heap.at (H.set b ⟨3, gg, rowV .i64 (fun x : Fin (m + 1) => (x.val : Int)) d, true⟩ : Heap) bt 0 = some ⟨22, 0, [.o bx 0 0 t.length], true⟩ := by
      unfold Heap.at
      rw [List.getElem?_set_ne (Ne.symm hne2), hbt]; rfl
    have e3 : Heap.at (H.set b ⟨3, gg, rowV .i64 (fun x : Fin (m + 1) => (x.val : Int)) d, true⟩ : Heap) bx 0 = some ⟨5, 0, nums .u8 (parT t (l + 1)), true⟩ := by
      unfold Heap.at
      rw [List.getElem?_set_ne (Ne.symm hne3), hbx]; rfl
    have hz : szT Tryz.prog 5 = some 1 := by kernel_rfl
    have hlen : (nums .u8 (parT t (l + 1))).length = t.length := by rw [len_nums, parT_length]
    simp only [List.map_cons, List.map_nil, frz, e1, e2, e3, Option.elim_some, hz, List.drop_zero, Nat.mul_one, frz_nums]
    rw [List.take_of_length_le (by rw [hlen]; exact Nat.le_refl _), frz_nums]
    exact hc
  · have := Any.slices_SortFunc Tryz.sortL (encI .i64 fun x : Fin (m + 1) => (x.val : Int)) (fun _ => rfl) cf hO 85 cb q 0 cap d0 w eg hC hH hq (by omega)
    exact this.mono fun e w' ⟨he, d', mm, os, hp, hs, hw⟩ => ⟨he, mm, os, d', MT.sort_next ht hl hm (by rw [← hd0l]; exact (MT.perm_list rfl hp).map _) (by
      rw [List.pairwise_map]
      refine List.Pairwise.imp ?_ (MT.sorted_pw hp.1 hs)
      intro a b h
      exact (hlf b a).1 h), hp.1, hw⟩
  · rw [row_fin, hQ]; exact hK
end Go.Proofs.E
end
/- The program: texts in eight rows of bits: Build. -/
section
set_option linter.unusedVariables false
set_option linter.unusedSimpArgs false
set_option linter.unusedSectionVars false
namespace Go.Proofs.E
open Go Go.Proofs.MV Go.Proofs.MI
set_option linter.unusedVariables false
set_option maxRecDepth 10000
variable {L : Nat → (Nat → Option Obj) → Prop}
theorem frz_vec (P : Program) (H : Heap) (n kind : Nat) (hk : Kind kind) (l : List Bool) : (vecC kind l).map (frz P H (n + 2)) = vecC kind l := by
  rcases hk with rfl | rfl | rfl <;> simp [vecC, plainC, rrrC, fanoC, zP, zR, zF, zS, frz, frz_nums]
theorem frz_lev (P : Program) (H : Heap) (n kind : Nat) (hk : Kind kind) (t : List Nat) (m : Nat) : (levC kind t m).map (frz P H (n + 2)) = levC kind t m := by
  unfold levC
  rw [List.map_flatten, List.map_map]
  congr 1
  exact List.map_congr_left fun l _ => frz_vec P H n kind hk _
theorem levC_succ (kind : Nat) (t : List Nat) (m : Nat) : levC kind t (m + 1) = levC kind t m ++ vecC kind (MT.lev t m) := by
  unfold levC; rw [List.range_succ, List.map_append, List.flatten_append]; simp
theorem levC_one (kind : Nat) (hk : Kind kind) (t : List Nat) : ∀ m, (levC kind t m).all V.one = true
  | 0 => rfl
  | m + 1 => by rw [levC_succ, List.all_append, levC_one kind hk t m, vec_one kind hk]; rfl
theorem uptoB_set {l : List Bool} {i : Nat} (h : i < l.length) {b : Bool} (hb : b = l.getD i false) : (uptoB l i).set i b = uptoB l (i + 1) := by
  subst hb
  unfold uptoB
  apply List.ext_getElem (by simp; omega)
  intro j h1 h2
  simp at h1
  rw [List.getElem_set]
  split
  · rename_i e; subst e
    rw [List.getElem_append_left (by simp; omega), List.getElem_take, List.getD_eq_getElem?_getD, List.getElem?_eq_getElem h]; rfl
  · rename_i e
    rcases Nat.lt_or_ge j i with hj | hj
    · rw [List.getElem_append_left (by simp; omega), List.getElem_append_left (by simp; omega), List.getElem_take, List.getElem_take]
    · rw [List.getElem_append_right (by simp; omega), List.getElem_append_right (by simp; omega)]
      simp
theorem uptoB_zero (l : List Bool) : uptoB l 0 = List.replicate l.length false := by simp [uptoB]
theorem lev_getD {t : List Nat} (ht : MT.Bytes t) {l i : Nat} (hl : l ≤ 8) (h : i < t.length) : (MT.lev t l).getD i false = MT.bitA l ((symL t l).getD i 0) := by
  have hp := MT.pos_length ht hl
  unfold MT.lev symL
  rw [List.getD_eq_getElem?_getD, List.getD_eq_getElem?_getD, List.getElem?_map, List.getElem?_map, List.getElem?_eq_getElem (by omega)]; rfl
theorem symL_zero {t : List Nat} (ht : MT.Bytes t) : symL t 0 = t := by
  unfold symL
  rw [MT.pos_zero ht]
  apply List.ext_getElem (by simp)
  intro i h1 h2
  simp [h2]
theorem symL_lt {t : List Nat} (ht : MT.Bytes t) {l i : Nat} (hl : l ≤ 8) (h : i < t.length) : (symL t l).getD i 0 < 256 := by
  have hp := MT.pos_length ht hl
  unfold symL
  rw [List.getD_eq_getElem?_getD, List.getElem?_map, List.getElem?_eq_getElem (by omega)]
  exact getD_byte ht _
theorem b_tbuild (hT : ∀ n c, L n c → TabL n c) (kind : Nat) (hk : Kind kind) (t : List Nat) (ht : MT.Bytes t) (h0 : 0 < t.length) (hl : t.length ≤ 8192) : Pure Tryz.prog L 9 [.i .i64 kind, .sl false t.length (nums .u8 t)] (.tup [treeV kind t, .i .i64 0]) := by
  refine pure_of_W Tryz.func9 rfl rfl (by kernel_rfl) [50] closed (tup2_below (tree_below 0 kind hk t)) fun A hL => ?_
  have hcl : ∀ K : V → Heap → Prop, ∀ H : Heap, K (.o H.length 0 0 t.length) (H ++ [⟨5, 0, nums .u8 t, true⟩]) → Does Tryz.prog A 27 [.sl false t.length (nums .u8 t)] H K := fun K H h => b_clone false t h0 (by omega) h
  have hll := fun l (h : l < 8) => MT.lev_length ht (l := l) (by omega)
  have hfm := fun l (h : l < 8) => b_from (L := L) (MT.lev t l) (by rw [hll l h]; omega)
  have hvb := fun l (h : l < 8) => b_vbuild (L := L) hT kind hk (MT.lev t l) (by rw [hll l h]; omega)
  unfold treeV vecV bitsV at *
  unfold Tryz.f9
  refine gox ?_
  refine hcl _ _ ?_
  refine gox ?_
  refine loop_ (fun l : Nat => ⟨[(0, .i .i64 kind), (4, .p 0 0 0), (6, .p 1 0 0), (7, .o 2 0 0 t.length), (26, .i .i64 l)], [⟨26, 0, [.i .i64 0, .i .i64 0, .ns], true⟩, ⟨26, 0, [.i .i64 kind, .i .i64 t.length, .o 3 l 0 l], true⟩, ⟨5, 0, nums .u8 (symL t l), true⟩, ⟨45, l, levC kind t l, true⟩]⟩)
    (fun l => l ≤ 8) (fun l => 8 - l) 0 (Nat.zero_le _) (Le.trans (le_slots' (Nat.zero_le _) ?_ (go ?_)) (le_virtc 45 1 2 rfl rfl (Nat.zero_le _))) fun l hl8 => ?_
  · rw [symL_zero ht]; rfl
  · trivial
  refine go ?_
  refine ⟨fun h1 => ?_, fun h1 => ?_⟩
  · have hs1 := symL_length ht (l := l) (by omega)
    have hL1 := hll l h1
    have e4 := uptoB_zero (MT.lev t l)
    rw [hL1] at e4
    refine gox ?_
    refine loop_ (fun i : Nat => ⟨[(0, .i .i64 kind), (4, .p 0 0 0), (6, .p 1 0 0), (7, .o 2 0 0 t.length), (26, .i .i64 l), (8, .p 4 0 0), (9, .o 5 0 0 t.length), (32, .o 2 0 0 t.length), (33, .i .i64 t.length), (34, .i .i64 i)], [⟨26, 0, [.i .i64 0, .i .i64 0, .ns], true⟩, ⟨26, 0, [.i .i64 kind, .i .i64 t.length, .o 3 l 0 l], true⟩, ⟨5, 0, nums .u8 (symL t l), true⟩, ⟨45, l, levC kind t l, true⟩, ⟨3, 0, [.i .i64 l], true⟩, ⟨4, 0, bls (uptoB (MT.lev t l) i), true⟩]⟩)
      (fun i => i ≤ t.length) (fun i => t.length - i) 0 (Nat.zero_le _) (le_slots' (Nat.zero_le _) ?_ (go ?_)) fun i hi => ?_
    · rw [e4]
    · trivial
    have hui := uptoB_length (MT.lev t l) (i := i) (by omega)
    refine gox ?_
    refine ⟨fun h2 => ?_, fun h2 => ?_⟩
    · have h3 := symL_lt ht (l := l) (by omega) h2
      have h4 := lev_getD ht (l := l) (by omega) h2
      have h5 := bit_val ((symL t l).getD i 0) l (by omega)
      rw [← h4] at h5
      have h6 := uptoB_set (l := MT.lev t l) (i := i) (by omega) rfl
      have h7 : (symL t l).getD i 0 / 2 ^ (7 - l) ≤ (symL t l).getD i 0 := Nat.div_le_self _ _
      refine gox ?_
      exact ⟨i + 1, by omega, by omega, le_slots' (Nat.zero_le _) (by rw [← h6, h4]) (go trivial)⟩
    · obtain rfl : i = t.length := by omega
      have e5 : uptoB (MT.lev t l) t.length = MT.lev t l := by rw [← hL1]; exact uptoB_all _
      have hf := hfm l h1
      rw [hL1] at hf
      have hv := hvb l h1
      rw [hL1] at hv
      have e2 := vec_one kind hk (MT.lev t l)
      have e3 := vec_length kind hk (MT.lev t l)
      have hsp : spl [.i .i64 0, .i .i64 0, .ns, .ns, .ns, .i .i64 0, .i .i64 0, .i .i64 0, .i .i64 0, .ns, .i .i64 0, .ns, .ns, .ns, .i .i64 0, .i .i64 0, .i .i64 0, .i .i64 0, .i .i64 0, .ns, .i .i64 0, .ns] 0 (vecC kind (MT.lev t l)) = vecC kind (MT.lev t l) := spl_all (by rw [e3]; rfl) (by omega)
      have hlc := levC_length kind hk t l
      clear hcl hll hfm hvb e4 hui
      refine gox ?_
      refine hf.does hL ?_
      clear hf
      refine gox ?_
      refine hv.does hL ?_
      clear hv
      refine gox ?_
      have e9 := levC_succ kind t l
      refine b_tstable ht h1 h0 (by omega) rfl rfl (by decide) ?_
      refine go ?_
      refine ⟨l + 1, by omega, by omega, le_gc 4 (Nat.zero_le _) (by simp) ?_ ?_⟩
      · rw [e9]
        refine go ?_
        rw [← e9, frn_lev Tryz.prog _ 4 4 kind hk]
      · refine go ?_
        trivial
  · obtain rfl : l = 8 := by omega
    have hl8 := levC_length kind hk t 8
    clear hcl hll hfm hvb
    refine gox ?_
    refine ⟨6, ?_⟩
    simp only [T, frz, List.map_cons, List.map_nil, Heap.at, List.getElem?_cons_succ, List.getElem?_cons_zero, and_self, if_true, Option.elim_some, List.drop_zero]
    rw [List.take_of_length_le (by omega), frz_lev _ _ 1 _ hk]
theorem lev_nil (l : Nat) : MT.lev [] l = [] := by
  have : (MT.lev [] l).length = 0 := by
    unfold MT.lev MT.pos
    rw [List.length_map]
    exact MT.ordTo_length _ _ _ (fun i hi => absurd hi (Nat.not_lt_zero _))
  exact List.length_eq_zero_iff.1 this
theorem b_tbuild0 (hT : ∀ n c, L n c → TabL n c) (kind : Nat) (hk : Kind kind) : Pure Tryz.prog L 9 [.i .i64 kind, .sl false 0 []] (.tup [treeV kind [], .i .i64 0]) := by
  refine pure_of_W Tryz.func9 rfl rfl (by kernel_rfl) [50] closed (tup2_below (tree_below 0 kind hk [])) fun A hL => ?_
  have hf := b_from (L := L) [] (by decide)
  have hv := b_vbuild (L := L) hT kind hk [] (by decide)
  have e2 := vec_one kind hk []
  have e3 := vec_length kind hk []
  have hsp : spl [.i .i64 0, .i .i64 0, .ns, .ns, .ns, .i .i64 0, .i .i64 0, .i .i64 0, .i .i64 0, .ns, .i .i64 0, .ns, .ns, .ns, .i .i64 0, .i .i64 0, .i .i64 0, .i .i64 0, .i .i64 0, .ns, .i .i64 0, .ns] 0 (vecC kind []) = vecC kind [] := spl_all (by rw [e3]; rfl) (by omega)
  have hb0 : bitsV [] = .agg [.i .i64 0, .sl false 0 []] := rfl
  rw [hb0] at hf hv
  change Pure Tryz.prog L 28 [.sl false 0 []] _ at hf
  unfold treeV vecV at *
  unfold Tryz.f9
  refine go ?_
  refine b_clone0 false ?_
  refine go ?_
  refine loop_ (fun l : Nat => ⟨[(0, .i .i64 kind), (4, .p 0 0 0), (6, .p 1 0 0), (7, .sl false 0 []), (26, .i .i64 l)], [⟨26, 0, [.i .i64 0, .i .i64 0, .ns], true⟩, ⟨26, 0, [.i .i64 kind, .i .i64 0, .o 2 l 0 l], true⟩, ⟨45, l, levC kind [] l, true⟩]⟩)
    (fun l => l ≤ 8) (fun l => 8 - l) 0 (Nat.zero_le _) (Le.trans (le_slots' (Nat.zero_le _) ?_ (go ?_)) (le_virtc 45 1 2 rfl rfl (Nat.zero_le _))) fun l hl8 => ?_
  · rfl
  · trivial
  refine go ?_
  refine ⟨fun h1 => ?_, fun h1 => ?_⟩
  · have hlc := levC_length kind hk [] l
    have e9 := levC_succ kind [] l
    rw [lev_nil] at e9
    refine go ?_
    refine loop_ (fun _ : Unit => ⟨[(0, .i .i64 kind), (4, .p 0 0 0), (6, .p 1 0 0), (7, .sl false 0 []), (26, .i .i64 l), (8, .p 3 0 0), (9, .o 4 0 0 0), (33, .i .i64 0), (34, .i .i64 0)], [⟨26, 0, [.i .i64 0, .i .i64 0, .ns], true⟩, ⟨26, 0, [.i .i64 kind, .i .i64 0, .o 2 l 0 l], true⟩, ⟨45, l, levC kind [] l, true⟩, ⟨3, 0, [.i .i64 l], true⟩, ⟨4, 0, [], true⟩]⟩)
      (fun _ => True) (fun _ => 0) () trivial (le_slots' (Nat.zero_le _) rfl (go trivial)) fun i hi => ?_
    refine go ?_
    refine hf.does hL ?_
    refine gox ?_
    refine hv.does hL ?_
    refine gox ?_
    refine b_stable0 _ ?_
    refine gox ?_
    refine ⟨l + 1, by omega, by omega, le_gc 3 (Nat.zero_le _) (by simp) ?_ ?_⟩
    · rw [e9]
      refine go ?_
      rw [← e9, frn_lev Tryz.prog _ 3 4 kind hk]
    · refine go ?_
      trivial
  · obtain rfl : l = 8 := by omega
    have hl8 := levC_length kind hk [] 8
    refine gox ?_
    refine ⟨6, ?_⟩
    simp only [T, frz, List.map_cons, List.map_nil, Heap.at, List.getElem?_cons_succ, List.getElem?_cons_zero, and_self, if_true, Option.elim_some, List.drop_zero]
    rw [List.take_of_length_le (by omega), frz_lev _ _ 1 _ hk]
end Go.Proofs.E
end
/- The program: texts in eight rows of bits: whole, in parts. -/
section
set_option linter.unusedVariables false
set_option linter.unusedSimpArgs false
set_option linter.unusedSectionVars false
namespace Go.Proofs.E
open Go Go.Proofs.MV Go.Proofs.MI
set_option linter.unusedVariables false
set_option maxRecDepth 10000
variable {L : Nat → (Nat → Option Obj) → Prop}
def bitsC (l : List Bool) : List V := [.i .i64 (l.length : Nat), .sl false (wc l) (nums .u64 (wn l (wc l)))]
def rowC (t : List Nat) (l j : Nat) : List V := if j < l then bitsC (MT.lev t j) else [.i .i64 0, .ns]
/-- The rows that are there already, of eight. -/
def rowsC (t : List Nat) (l : Nat) : List V := ((List.range 8).map (rowC t l)).flatten
theorem rowC_length (t : List Nat) (l j : Nat) : (rowC t l j).length = 2 := by unfold rowC; split <;> rfl
theorem rowsC_eq (t : List Nat) (l : Nat) : rowsC t l = rowC t l 0 ++ (rowC t l 1 ++ (rowC t l 2 ++ (rowC t l 3 ++ (rowC t l 4 ++ (rowC t l 5 ++ (rowC t l 6 ++ (rowC t l 7 ++ []))))))) := rfl
theorem rowsC_length (t : List Nat) (l : Nat) : (rowsC t l).length = 16 := by rw [rowsC_eq]; simp only [List.length_append, rowC_length]; rfl
theorem rowsC_get (t : List Nat) (l j : Nat) (h : j < 8) : ((rowsC t l).drop (j * 2)).take 2 = rowC t l j := by
  unfold rowsC
  rw [flat_get 2 _ j (by simp; omega) (fun x hx => by obtain ⟨j, _, rfl⟩ := List.mem_map.1 hx; exact rowC_length t l j)]
  simp
theorem rowsC_set (t : List Nat) (l : Nat) (h : l < 8) : spl (rowsC t l) (l * 2) (bitsC (MT.lev t l)) = rowsC t (l + 1) := by
  rw [rowsC_eq, rowsC_eq]
  rcases l with _ | _ | _ | _ | _ | _ | _ | _ | l <;> first | rfl | omega
theorem rowsC_zero (t : List Nat) : rowsC t 0 = [.i .i64 0, .ns, .i .i64 0, .ns, .i .i64 0, .ns, .i .i64 0, .ns, .i .i64 0, .ns, .i .i64 0, .ns, .i .i64 0, .ns, .i .i64 0, .ns] := rfl
theorem frn_rows (P : Program) (H : Heap) (n0 n : Nat) (t : List Nat) (l : Nat) : (rowsC t l).map (frn P H n0 (n + 2)) = rowsC t l := by
  unfold rowsC
  rw [List.map_flatten, List.map_map]
  congr 1
  refine List.map_congr_left fun j _ => ?_
  show (rowC t l j).map _ = _
  unfold rowC
  split
  · simp [bitsC, frn, frn_nums]
  · rfl
/-- A text of its symbols' highest l bits, those of the level's first i places with one bit more. -/
def parI (t : List Nat) (l i : Nat) : List Nat := (List.range t.length).map fun p => if p ∈ (MT.pos t l).take i then (parT t (l + 1)).getD p 0 else (parT t l).getD p 0
theorem parI_length (t : List Nat) (l i : Nat) : (parI t l i).length = t.length := by simp [parI]
theorem list_range (l : List Nat) : (List.range l.length).map (fun p => l.getD p 0) = l := by
  apply List.ext_getElem (by simp)
  intro i h1 h2
  simp [h2]
theorem parI_zero (t : List Nat) (l : Nat) : parI t l 0 = parT t l := by
  unfold parI
  have := list_range (parT t l)
  rw [parT_length] at this
  conv => rhs; rw [← this]
  simp
theorem parI_all {t : List Nat} (ht : MT.Bytes t) {l : Nat} (hl : l < 8) : parI t l t.length = parT t (l + 1) := by
  unfold parI
  have := list_range (parT t (l + 1))
  rw [parT_length] at this
  conv => rhs; rw [← this]
  refine List.map_congr_left fun p hp => ?_
  have hm : p ∈ (MT.pos t l).take t.length := by
    rw [List.take_of_length_le (by rw [MT.pos_length ht (by omega)]; exact Nat.le_refl _)]
    exact MT.mem_ordTo.2 ⟨List.mem_range.1 hp, MT.K_lt ht (by omega) p (List.mem_range.1 hp)⟩
  exact if_pos hm
theorem pos_lt {t : List Nat} (ht : MT.Bytes t) {l i : Nat} (hl : l ≤ 8) (h : i < t.length) : (MT.pos t l).getD i 0 < t.length := by
  have hp := MT.pos_length ht hl
  rw [List.getD_eq_getElem?_getD, List.getElem?_eq_getElem (by omega)]
  exact (MT.mem_ordTo.1 (List.getElem_mem (l := MT.pos t l) (by omega))).1
theorem not_take {l : List Nat} (hn : l.Nodup) {i : Nat} (h : i < l.length) : l[i] ∉ l.take i := by
  intro hm
  obtain ⟨j, hj, e⟩ := List.mem_iff_getElem.1 hm
  simp at hj
  rw [List.getElem_take] at e
  exact (List.pairwise_iff_getElem.1 hn) j i (by omega) h (by omega) e
theorem parI_get {t : List Nat} (ht : MT.Bytes t) {l i : Nat} (hl : l < 8) (h : i < t.length) : (parI t l i).getD ((MT.pos t l).getD i 0) 0 = (parT t l).getD ((MT.pos t l).getD i 0) 0 := by
  have hp := MT.pos_length ht (l := l) (by omega)
  have hlt := pos_lt ht (l := l) (by omega) h
  rw [List.getD_eq_getElem?_getD (l := MT.pos t l), List.getElem?_eq_getElem (by omega)] at hlt ⊢
  simp only [Option.getD_some] at hlt ⊢
  unfold parI
  rw [List.getD_eq_getElem?_getD (l := List.map _ _), List.getElem?_map, List.getElem?_range hlt]
  simp only [Option.map_some, Option.getD_some]
  exact if_neg (not_take (l := MT.pos t l) (MT.ordTo_nodup _ _ _) (by omega))
theorem parI_at (t : List Nat) (l i p : Nat) (h : p < (parI t l i).length) : (parI t l i)[p] = if p ∈ (MT.pos t l).take i then (parT t (l + 1)).getD p 0 else (parT t l).getD p 0 := by
  simp [parI]
theorem parI_set {t : List Nat} (ht : MT.Bytes t) {l i : Nat} (hl : l < 8) (h : i < t.length) : (parI t l i).set ((MT.pos t l).getD i 0) ((parT t (l + 1)).getD ((MT.pos t l).getD i 0) 0) = parI t l (i + 1) := by
  have hp := MT.pos_length ht (l := l) (by omega)
  have hi : i < (MT.pos t l).length := by omega
  have e : (MT.pos t l).getD i 0 = (MT.pos t l)[i] := by rw [List.getD_eq_getElem?_getD, List.getElem?_eq_getElem hi]; rfl
  rw [e]
  apply List.ext_getElem (by simp [parI])
  intro p h1 h2
  have hmem : p ∈ (MT.pos t l).take (i + 1) ↔ p ∈ (MT.pos t l).take i ∨ p = (MT.pos t l)[i] := by
    rw [List.take_succ_eq_append_getElem hi, List.mem_append, List.mem_singleton]
  rw [List.getElem_set, parI_at t l (i + 1) p h2]
  by_cases e1 : (MT.pos t l)[i] = p
  · rw [if_pos e1, if_pos (hmem.2 (.inr e1.symm)), e1]
  · rw [if_neg e1, parI_at]
    by_cases c : p ∈ (MT.pos t l).take i
    · rw [if_pos c, if_pos (hmem.2 (.inl c))]
    · rw [if_neg c, if_neg (fun h => (hmem.1 h).elim c fun e2 => e1 e2.symm)]
theorem par_bit {t : List Nat} (ht : MT.Bytes t) {l p : Nat} (hl : l < 8) (h : p < t.length) : (parT t (l + 1)).getD p 0 = if MT.bitA l (t.getD p 0) = true then ((parT t l).getD p 0 ||| 2 ^ (7 - l)) else (parT t l).getD p 0 := by
  rw [parT_get h, parT_get h, MT.key_succ l _ hl, show 8 - (l + 1) = 7 - l by omega]
  generalize MT.key l (t.getD p 0) = k
  have e : k * 2 ^ (8 - l) = 2 * k * 2 ^ (7 - l) := by rw [show 8 - l = 7 - l + 1 by omega, Nat.pow_succ]; rw [Nat.mul_comm 2 k, Nat.mul_assoc, Nat.mul_comm 2]
  cases MT.bitA l (t.getD p 0)
  · simp [e]
  · have h2 := Nat.two_pow_add_eq_or_of_lt (i := 8 - l) (b := 2 ^ (7 - l)) (Nat.pow_lt_pow_right (by decide) (by omega)) k
    simp only [if_true, Bool.toNat_true]
    rw [Nat.mul_comm k, ← h2, Nat.mul_comm (2 ^ (8 - l)), e, Nat.add_mul, Nat.one_mul]
theorem parI_skip {t : List Nat} (ht : MT.Bytes t) {l i : Nat} (hl : l < 8) (h : i < t.length) (hb : MT.bitA l (t.getD ((MT.pos t l).getD i 0) 0) = false) : parI t l (i + 1) = parI t l i := by
  have hlt := pos_lt ht (l := l) (by omega) h
  rw [← parI_set ht hl h, par_bit ht hl hlt, if_neg (by rw [hb]; decide), ← parI_get ht hl h]
  have h2 : (MT.pos t l).getD i 0 < (parI t l i).length := by rw [parI_length]; exact hlt
  generalize (MT.pos t l).getD i 0 = p at *
  rw [List.getD_eq_getElem?_getD, List.getElem?_eq_getElem h2]
  exact List.set_getElem_self h2
theorem parI_bit {t : List Nat} (ht : MT.Bytes t) {l i : Nat} (hl : l < 8) (h : i < t.length) (hb : MT.bitA l (t.getD ((MT.pos t l).getD i 0) 0) = true) : (parI t l i).set ((MT.pos t l).getD i 0) ((parT t l).getD ((MT.pos t l).getD i 0) 0 ||| 2 ^ (7 - l)) = parI t l (i + 1) := by
  have hlt := pos_lt ht (l := l) (by omega) h
  rw [← parI_set ht hl h, par_bit ht hl hlt, if_pos hb]
theorem parT_zero {t : List Nat} (ht : MT.Bytes t) : parT t 0 = List.replicate t.length 0 := by
  apply List.ext_getElem (by simp [parT])
  intro i h1 h2
  have hi : i < t.length := by simpa [parT] using h1
  have := ht.lt i hi
  rw [List.getD_eq_getElem?_getD, List.getElem?_eq_getElem hi] at this
  simp only [parT, List.getElem_map, List.getElem_replicate, MT.key]
  simp only [Option.getD_some] at this
  show t[i] / 2 ^ 8 * 2 ^ 8 = 0
  rw [Nat.div_eq_of_lt (by omega), Nat.zero_mul]
theorem parT_eight (t : List Nat) : parT t 8 = t := by
  unfold parT
  conv => rhs; rw [← List.map_id t]
  refine List.map_congr_left fun c _ => ?_
  rw [MT.key_eight]; simp
theorem lev_bt {t : List Nat} (ht : MT.Bytes t) {l i : Nat} (hl : l ≤ 8) (h : i < t.length) : bt (MT.lev t l) i = MT.bitA l (t.getD ((MT.pos t l).getD i 0) 0) := by
  have hp := MT.pos_length ht hl
  unfold bt MT.lev
  rw [List.getD_eq_getElem?_getD, List.getElem?_map, List.getD_eq_getElem?_getD (l := MT.pos t l), List.getElem?_eq_getElem (by omega)]; rfl
/-- 0, 1, .. i - 1, then noughts. -/
def cntI (n i : Nat) : List Nat := List.range i ++ List.replicate (n - i) 0
theorem cntI_length {n i : Nat} (h : i ≤ n) : (cntI n i).length = n := by simp [cntI]; omega
theorem cntI_set {n i : Nat} (h : i < n) : (cntI n i).set i i = cntI n (i + 1) := by
  unfold cntI
  rw [List.set_append_right _ _ (by simp), List.length_range, Nat.sub_self, show n - i = (n - (i + 1)) + 1 by omega, List.replicate_succ, List.set_cons_zero, List.range_succ, List.append_assoc]; rfl
theorem cntI_all (n : Nat) : cntI n n = List.range n := by simp [cntI]
theorem cntI_zero (n : Nat) : cntI n 0 = List.replicate n 0 := by simp [cntI]
end Go.Proofs.E
end
/- The program: texts in eight rows of bits: whole. -/
section
set_option linter.unusedVariables false
set_option linter.unusedSimpArgs false
set_option linter.unusedSectionVars false
namespace Go.Proofs.E
open Go Go.Proofs.MV Go.Proofs.MI
set_option linter.unusedVariables false
set_option maxRecDepth 10000
variable {L : Nat → (Nat → Option Obj) → Prop}
theorem b_blen (x : Nat) (hx : x < 2 ^ 64) : Pure Tryz.prog L 140 [.i .u64 x] (.i .i64 (Lib.bitLen x : Nat)) := by
  refine pure_of_W Tryz.func140 rfl rfl (by kernel_rfl) [] closed (.i _ _) fun A hL => ?_
  unfold Tryz.f140
  refine go ?_
  refine (b_len64 x hx).does hL (go ?_)
  exact fin_
theorem b_insI0 {A : Amb} (v g : V) {H : Heap} {K : V → Heap → Prop} (hK : K (.tup []) H) : Does Tryz.prog A 171 [v, .i .i64 0, .i .i64 0, g] H K := by
  refine does_of_W Tryz.func171 rfl rfl (by kernel_rfl) [] ?_
  unfold Tryz.f171
  refine go ?_
  refine loop_ (fun _ : Unit => ⟨[(2, .i .i64 0), (8, .i .i64 1)], H⟩) (fun _ => True) (fun _ => 0) () trivial (le_slots (Nat.le_refl _) (go trivial)) fun x hx => go ?_
  exact hK
theorem b_sortI0 {A : Amb} (hL : L A.n A.c) (b gg : Nat) (g : V) {H : Heap} {K : V → Heap → Prop} (hK : K (.tup []) H) : Does Tryz.prog A 84 [.o b gg 0 0, g] H K := by
  have key : ∀ K' : V → Heap → Prop, K' (.tup []) H → Does Tryz.prog A 139 [.o b gg 0 0, .i .i64 0, .i .i64 0, .i .i64 0, g] H K' := by
    intro K' hK'
    refine does_of_W Tryz.func139 rfl rfl (by kernel_rfl) [] ?_
    unfold Tryz.f139
    refine go ?_
    refine loop_ (fun _ : Unit => ⟨[(0, .o b gg 0 0), (1, .i .i64 0), (2, .i .i64 0), (3, .i .i64 0), (4, g)], H⟩) (fun _ => True) (fun _ => 0) () trivial (le_slots (Nat.le_refl _) (go trivial)) fun x hx => go ?_
    refine b_insI0 _ g (go ?_)
    exact hK'
  have h0 := b_blen (L := L) 0 (by decide)
  refine does_of_W Tryz.func84 rfl rfl (by kernel_rfl) [] ?_
  unfold Tryz.f84
  refine go ?_
  refine h0.does hL ?_
  refine go ?_
  refine key _ ?_
  refine go ?_
  exact hK
theorem b_twhole (hT : ∀ n c, L n c → TabL n c) (kind : Nat) (hk : Kind kind) (t : List Nat) (ht : MT.Bytes t) (hl : t.length ≤ 8192) : Pure Tryz.prog L 47 [treeV kind t] (.tup [.sl false t.length (nums .u8 t), .b true]) := by
  refine pure_of_W Tryz.func47 rfl rfl (by kernel_rfl) [] (args_below (tree_below 0 kind hk t) closed) closed fun A hL => ?_
  have hlc := levC_length kind hk t 8
  have hlo := levC_one kind hk t 8
  have hlev := fun l (h : l < 8) => levC_get kind hk t (m := 8) h
  have hll := fun l (h : l < 8) => MT.lev_length ht (l := l) (by omega)
  have hvb := fun l (h : l < 8) => b_vbits (L := L) hT kind hk (MT.lev t l) (by rw [hll l h]; omega)
  have hvc := fun l (h : l < 8) => b_vcheck (L := L) hT kind hk (MT.lev t l) (by rw [hll l h]; omega)
  have hget := fun l (h : l < 8) i hi => b_get (L := L) (MT.lev t l) (by rw [hll l h]; omega) i hi
  unfold treeV vecV bitsV at *
  unfold Tryz.f47
  refine gox ?_
  refine loop_ (fun l : Nat => ⟨[(1, .p 0 0 0), (4, .p 2 0 0), (5, .o 3 0 0 8), (34, .sl false 8 (levC kind t 8)), (35, .i .i64 8), (36, .i .i64 l)], [⟨26, 0, [.i .i64 kind, .i .i64 t.length, .sl false 8 (levC kind t 8)], true⟩, ⟨5, 0, nums .u8 (List.replicate t.length 0), true⟩, ⟨22, 0, [.o 1 0 0 t.length], true⟩, ⟨33, 0, rowsC t l, true⟩]⟩)
    (fun l => l ≤ 8) (fun l => 8 - l) 0 (Nat.zero_le _) (le_slots' (Nat.zero_le _) ?_ (go ?_)) fun l hl8 => ?_
  · rw [rowsC_zero]; rfl
  · trivial
  refine go ?_
  refine ⟨fun h1 => ?_, fun h1 => ?_⟩
  · have e1 := hlev l h1
    have e2 := vec_one kind hk (MT.lev t l)
    have e3 := vec_length kind hk (MT.lev t l)
    have hsp : spl [.i .i64 0, .i .i64 0, .ns, .ns, .ns, .i .i64 0, .i .i64 0, .i .i64 0, .i .i64 0, .ns, .i .i64 0, .ns, .ns, .ns, .i .i64 0, .i .i64 0, .i .i64 0, .i .i64 0, .i .i64 0, .ns, .i .i64 0, .ns] 0 (vecC kind (MT.lev t l)) = vecC kind (MT.lev t l) := spl_all (by rw [e3]; rfl) (by omega)
    have hv := hvb l h1
    have hc := hvc l h1
    have hL1 := hll l h1
    rw [hL1] at hv
    have hrl := rowsC_length t l
    have hro := rowsC_length t (l + 1)
    have q1 : gV (vecC kind (MT.lev t l)) 0 = .i .i64 kind := rfl
    have q2 : gV (rowsC t (l + 1)) (l * 2) = .i .i64 (t.length : Nat) := by
      have := rowsC_get t (l + 1) l h1
      unfold gV
      rw [List.getD_eq_getElem?_getD, show l * 2 = l * 2 + 0 from rfl, ← List.getElem?_drop, ← List.getElem?_take_of_lt (show 0 < 2 by decide), this]
      unfold rowC
      rw [if_pos (by omega), ← hL1]; rfl
    have p2 : List.take (l * 2) (rowsC t l) ++ V.i .i64 (t.length : Nat) :: V.sl false (wc (MT.lev t l)) (nums .u64 (wn (MT.lev t l) (wc (MT.lev t l)))) :: List.drop (l * 2 + 2) (rowsC t l) = rowsC t (l + 1) := by
      rw [← rowsC_set t l h1, ← hL1]; unfold spl bitsC; simp
    clear hvb hvc hget hlev hll
    refine gox ?_
    refine hv.does hL ?_
    clear hv
    refine gox ?_
    by_cases hn0 : t.length = 0
    · refine regD 25 (by kernel_rfl) (by kernel_rfl) (gox ?_)
      refine ⟨_, hc.does hL ⟨rfl, rfl⟩, ?_⟩
      refine gox ?_
      refine ⟨l + 1, by omega, by omega, le_gc 4 (Nat.zero_le _) (by simp) ?_ ?_⟩
      · refine gox ?_
        simp only [frn_lev Tryz.prog _ 4 3 kind hk, frn_rows Tryz.prog _ 4 4, and_self]
      · refine gox ?_
        simp only [frn_lev Tryz.prog _ 4 3 kind hk, and_self]
    · refine regD 25 (by kernel_rfl) (by kernel_rfl) (gox ?_)
      refine ⟨l + 1, by omega, by omega, le_gc 4 (Nat.zero_le _) (by simp) ?_ ?_⟩
      · refine gox ?_
        simp only [frn_lev Tryz.prog _ 4 3 kind hk, frn_rows Tryz.prog _ 4 4, and_self]
      · refine gox ?_
        simp only [frn_lev Tryz.prog _ 4 3 kind hk, and_self]
  · obtain rfl : l = 8 := by omega
    refine gox ?_
    refine loop_ (fun i : Nat => ⟨[(1, .p 0 0 0), (4, .p 2 0 0), (5, .o 3 0 0 8), (8, .o 4 0 0 t.length), (76, .i .i64 t.length), (77, .i .i64 i)], [⟨26, 0, [.i .i64 kind, .i .i64 t.length, .sl false 8 (levC kind t 8)], true⟩, ⟨5, 0, nums .u8 (List.replicate t.length 0), true⟩, ⟨22, 0, [.o 1 0 0 t.length], true⟩, ⟨33, 0, rowsC t 8, true⟩, ⟨3, 0, nums .i64 (cntI t.length i), true⟩]⟩)
      (fun i => i ≤ t.length) (fun i => t.length - i) 0 (Nat.zero_le _) (le_slots' (Nat.zero_le _) ?_ (go ?_)) fun i hi => ?_
    · rw [cntI_zero]
    · trivial
    have hcl := cntI_length hi
    refine gox ?_
    refine ⟨fun h2 => ?_, fun h2 => ?_⟩
    · have h6 := cntI_set h2
      refine gox ?_
      exact ⟨i + 1, by omega, by omega, le_slots' (Nat.zero_le _) (by rw [← h6]) (go trivial)⟩
    · obtain rfl : i = t.length := by omega
      have hca := cntI_all t.length
      rw [← MT.pos_zero ht] at hca
      clear hvb hvc hlev hcl
      refine gox ?_
      clear hca
      refine loop_ (fun l : Nat => ⟨[(4, .p 2 0 0), (5, .o 3 0 0 8), (8, .o 4 0 0 t.length), (85, .i .i64 l)], [⟨26, 0, [.i .i64 kind, .i .i64 t.length, .sl false 8 (levC kind t 8)], true⟩, ⟨5, 0, nums .u8 (parT t l), true⟩, ⟨22, 0, [.o 1 0 0 t.length], true⟩, ⟨33, 0, rowsC t 8, true⟩, ⟨3, 0, nums .i64 (MT.pos t l), true⟩]⟩)
        (fun l => l ≤ 8) (fun l => 8 - l) 0 (Nat.zero_le _) (le_slots' (Nat.zero_le _) ?_ (go ?_)) fun l hl8 => ?_
      · rw [parT_zero ht]
      · trivial
      refine go ?_
      refine ⟨fun h1 => ?_, fun h1 => ?_⟩
      · have hL1 := hll l h1
        have hpl := MT.pos_length ht (l := l) (by omega)
        refine gox ?_
        refine loop_ (fun i : Nat => ⟨[(4, .p 2 0 0), (5, .o 3 0 0 8), (8, .o 4 0 0 t.length), (85, .i .i64 l), (10, .p 5 0 0), (88, .o 4 0 0 t.length), (89, .i .i64 t.length), (90, .i .i64 i)], [⟨26, 0, [.i .i64 kind, .i .i64 t.length, .sl false 8 (levC kind t 8)], true⟩, ⟨5, 0, nums .u8 (parI t l i), true⟩, ⟨22, 0, [.o 1 0 0 t.length], true⟩, ⟨33, 0, rowsC t 8, true⟩, ⟨3, 0, nums .i64 (MT.pos t l), true⟩, ⟨3, 0, [.i .i64 l], true⟩]⟩)
          (fun i => i ≤ t.length) (fun i => t.length - i) 0 (Nat.zero_le _) (le_slots' (Nat.zero_le _) ?_ (go ?_)) fun i hi => ?_
        · rw [parI_zero]
        · trivial
        have hil := parI_length t l i
        refine gox ?_
        refine ⟨fun h2 => ?_, fun h2 => ?_⟩
        · have hg := hget l h1 i (by omega)
          rw [hL1] at hg
          have hr8 := rowsC_length t 8
          have r1 : List.take 2 (List.drop (l * 2) (rowsC t 8)) = [.i .i64 (t.length : Nat), .sl false (wc (MT.lev t l)) (nums .u64 (wn (MT.lev t l) (wc (MT.lev t l))))] := by
            rw [rowsC_get t 8 l h1]
            unfold rowC
            rw [if_pos h1, ← hL1]; rfl
          have hlt := pos_lt ht (l := l) (by omega) h2
          have hpg := parI_get ht h1 h2
          have h256 : (parT t l).getD ((MT.pos t l).getD i 0) 0 < 256 := parT_lt ht (by omega) hlt
          have hp256 : 2 ^ (7 - l) < 256 := Nat.pow_lt_pow_right (m := 7 - l) (n := 8) (by decide) (by omega)
          have hbt := lev_bt ht (l := l) (by omega) h2
          rw [hbt] at hg
          clear hget hll
          refine gox ?_
          refine hg.does hL ?_
          clear hg hbt
          cases hb : MT.bitA l (t.getD ((MT.pos t l).getD i 0) 0)
          · have hsk := parI_skip ht h1 h2 hb
            clear hb
            refine gox ?_
            exact ⟨i + 1, by omega, by omega, le_slots' (Nat.zero_le _) (by rw [hsk]) (go trivial)⟩
          · have hsb := parI_bit ht h1 h2 hb
            clear hb
            refine gox ?_
            refine regD 9 (by kernel_rfl) (by kernel_rfl) (gox ?_)
            exact ⟨i + 1, by omega, by omega, le_slots' (Nat.zero_le _) (by first | rfl | rw [hsb]) (go trivial)⟩
        · obtain rfl : i = t.length := by omega
          have hpa := parI_all ht h1
          clear hget hll hpl hil
          refine gox ?_
          by_cases hn0 : t.length = 0
          · have hz : MT.pos t l = MT.pos t (l + 1) := by rw [List.eq_nil_of_length_eq_zero hn0]; exact (List.eq_nil_of_length_eq_zero (MT.ordTo_length _ _ _ fun i hi => absurd hi (Nat.not_lt_zero _))).trans (List.eq_nil_of_length_eq_zero (MT.ordTo_length _ _ _ fun i hi => absurd hi (Nat.not_lt_zero _))).symm
            rw [hn0]
            refine b_sortI0 hL _ _ _ ?_
            rw [hz]
            refine go ?_
            refine ⟨l + 1, by omega, by omega, le_gc 5 (Nat.zero_le _) (by simp) ?_ ?_⟩
            · refine go ?_
              simp only [hn0, frn_lev Tryz.prog _ 5 3 kind hk, frn_rows Tryz.prog _ 5 4, and_self]
            · refine go ?_
              simp only [hn0, frn_lev Tryz.prog _ 5 3 kind hk, and_self]
          · refine b_tsort ht h1 (by omega) (by omega) rfl rfl rfl rfl (by decide) (by decide) (by decide) ?_
            refine go ?_
            refine ⟨l + 1, by omega, by omega, le_gc 5 (Nat.zero_le _) (by simp) ?_ ?_⟩
            · refine go ?_
              simp only [frn_lev Tryz.prog _ 5 3 kind hk, frn_rows Tryz.prog _ 5 4, and_self]
            · refine go ?_
              simp only [frn_lev Tryz.prog _ 5 3 kind hk, and_self]
      · obtain rfl : l = 8 := by omega
        have h8 := parT_eight t
        clear hget hll
        refine gox ?_
        exact fin_
theorem b_tcheck (hT : ∀ n c, L n c → TabL n c) (kind : Nat) (hk : Kind kind) (t : List Nat) (ht : MT.Bytes t) (hl : t.length ≤ 8192) : Pure Tryz.prog L 23 [treeV kind t] (.b true) := by
  refine pure_of_W Tryz.func23 rfl rfl (by kernel_rfl) [] (args_below (tree_below 0 kind hk t) closed) closed fun A hL => ?_
  have h1 := b_twhole (L := L) hT kind hk t ht hl
  have hlc := levC_length kind hk t 8
  unfold treeV at *
  unfold Tryz.f23
  refine gox ?_
  refine h1.does hL (gox ?_)
  exact fin_
theorem b_ttext (hT : ∀ n c, L n c → TabL n c) (kind : Nat) (hk : Kind kind) (t : List Nat) (ht : MT.Bytes t) (hl : t.length ≤ 8192) : Pure Tryz.prog L 25 [treeV kind t] (.sl false t.length (nums .u8 t)) := by
  refine pure_of_W Tryz.func25 rfl rfl (by kernel_rfl) [] (args_below (tree_below 0 kind hk t) closed) closed fun A hL => ?_
  have h1 := b_twhole (L := L) hT kind hk t ht hl
  have hlc := levC_length kind hk t 8
  unfold treeV at *
  unfold Tryz.f25
  refine gox ?_
  refine h1.does hL (gox ?_)
  exact fin_
end Go.Proofs.E
end
/- The laws of layer 12 that speak of what was built. -/
section
set_option linter.unusedVariables false
set_option linter.unusedSimpArgs false
set_option linter.unusedSectionVars false
namespace Go.Proofs.E
open Go Go.Proofs.MV Go.Proofs.MI
set_option linter.unusedVariables false
set_option maxRecDepth 10000
variable {L : Nat → (Nat → Option Obj) → Prop}
theorem b_tbuildA (hT : ∀ n c, L n c → TabL n c) (kind : Nat) (hk : Kind kind) (t : List Nat) (ht : MT.Bytes t) (hl : t.length ≤ 8192) : Pure Tryz.prog L 9 [.i .i64 kind, .sl false t.length (nums .u8 t)] (.tup [treeV kind t, .i .i64 0]) := by
  rcases Nat.eq_zero_or_pos t.length with h0 | h0
  · obtain rfl : t = [] := List.eq_nil_of_length_eq_zero h0
    exact b_tbuild0 hT kind hk
  · exact b_tbuild hT kind hk t ht h0 hl
theorem b_twholeZ : Pure Tryz.prog L 47 [.agg [.i .i64 0, .i .i64 0, .ns]] (.tup [.sl false 0 [], .b false]) := by
  refine pure_of_W Tryz.func47 rfl rfl (by kernel_rfl) [] closed closed fun A hL => ?_
  unfold Tryz.f47
  refine go ?_
  exact fin_
theorem b_trankZ : Pure Tryz.prog L 13 [.agg [.i .i64 0, .i .i64 0, .ns], .i .u8 0, .i .i64 0] (.tup [.i .i64 0, .i .i64 2]) := by
  have hc : Pure Tryz.prog L 23 [.agg [.i .i64 0, .i .i64 0, .ns]] (.b false) := by
    refine pure_of_W Tryz.func23 rfl rfl (by kernel_rfl) [] closed closed fun A hL => ?_
    unfold Tryz.f23
    refine go ?_
    refine b_twholeZ.does hL (go ?_)
    exact fin_
  refine pure_of_W Tryz.func13 rfl rfl (by kernel_rfl) [] closed closed fun A hL => ?_
  unfold Tryz.f13
  refine go ?_
  refine hc.does hL (go ?_)
  exact fin_
def abra : List Nat := [97, 98, 114, 97, 99, 97, 100, 97, 98, 114, 97]
theorem bytes_of {t : List Nat} (h : ∀ x ∈ t, x < 256) : MT.Bytes t := ⟨fun i hi => by
  rw [List.getD_eq_getElem?_getD, List.getElem?_eq_getElem hi]
  exact h _ (List.getElem_mem hi)⟩
theorem vsz_one (l : List Bool) : vsz 1 l = l.length + 32 * (l.length / 512 + 1) + 16 * wc l := rfl
theorem b_heads12 (hT : ∀ n c, L n c → TabL n c) : Pure Tryz.prog L 8 [] (.b true) := by
  refine pure_of_W Tryz.func8 rfl rfl (by kernel_rfl) [] closed closed fun A hL => ?_
  have ht : MT.Bytes abra := bytes_of (by decide)
  have hk : Kind 1 := .inl rfl
  have hll := fun l (h : l < 8) => MT.lev_length ht (l := l) (by omega)
  have hb := b_tbuildA (L := L) hT 1 hk abra ht (by decide)
  have hC := b_tcheck (L := L) hT 1 hk abra ht (by decide)
  have hX := b_ttext (L := L) hT 1 hk abra ht (by decide)
  have h1 := b_taccess (L := L) hT 1 hk abra ht (by decide) hC 4 (by decide)
  have h2 := b_trank (L := L) hT 1 hk abra ht (by decide) hC 97 (by decide) 8 (by decide)
  have h3 := b_tselect (L := L) hT 1 hk abra ht (by decide) hC 9 (by decide) 114 (by decide)
  have h4 := b_tselect_no (L := L) hT 1 hk abra ht (by decide) hC 122 (by decide) 0 (.inr (by decide)) (by decide) (by decide)
  have h5 := b_taccess_no (L := L) 1 hk abra ht (by decide) hC 11 (by decide) (by decide)
  have h6 := b_trankZ (L := L)
  have hs := b_tsize (L := L) hT 1 hk abra ht (by decide) hC (fun l h => by rw [vsz_one, hll l h]; unfold wc; rw [hll l h]; decide)
  obtain ⟨z, hz, hz0⟩ : ∃ z, tsz 1 abra 8 = z ∧ 0 < z := ⟨_, rfl, by
    show 0 < tsz 1 abra 7 + vsz 1 (MT.lev abra 7)
    rw [vsz_one]; omega⟩
  rw [hz] at hs
  have hzb : z ≤ 1000000 := by
    rw [← hz]
    have hv := fun l (h : l < 8) => show vsz 1 (MT.lev abra l) ≤ 1000 by rw [vsz_one, hll l h]; unfold wc; rw [hll l h]; decide
    have a0 := hv 0 (by decide); have a1 := hv 1 (by decide); have a2 := hv 2 (by decide); have a3 := hv 3 (by decide); have a4 := hv 4 (by decide); have a5 := hv 5 (by decide); have a6 := hv 6 (by decide); have a7 := hv 7 (by decide)
    simp only [tsz]; omega
  have e1 : abra.getD 4 0 = 99 := rfl
  have e2 : (abra.take 8).count 97 = 4 := by decide
  have e3 : (abra.take 9).count 114 = 1 := by decide
  have e4 : abra.length = 11 := rfl
  rw [e1] at h1; rw [e2] at h2; rw [e3] at h3; rw [e4] at hb hX
  have hlc := levC_length 1 hk abra 8
  clear hll
  unfold treeV at *
  unfold Tryz.f8
  have hb' : Pure Tryz.prog L 9 [.i .i64 1, .sl false 11 (nums .u8 ((((((((((((List.replicate 11 0).set 0 97).set 1 98).set 2 114).set 3 97).set 4 99).set 5 97).set 6 100).set 7 97).set 8 98).set 9 114).set 10 97))] _ := hb
  have hst : (strB abra).toList == ByteArray.toList ⟨#[97, 98, 114, 97, 99, 97, 100, 97, 98, 114, 97]⟩ := by decide +kernel
  clear hb
  refine gox ?_
  refine hb'.does hL (gox ?_)
  refine h1.does hL (gox ?_)
  refine h2.does hL (gox ?_)
  refine h3.does hL (gox ?_)
  refine h4.does hL (gox ?_)
  refine h5.does hL (gox ?_)
  refine h6.does hL (gox ?_)
  clear h1 h2 h3 h4 h5 h6
  refine hC.does hL (gox ?_)
  refine hs.does hL (gox ?_)
  refine hX.does hL (gox ?_)
  exact fin_
end Go.Proofs.E
end
/- The reference: rows are the same; numbers of rows. -/
section
set_option linter.unusedVariables false
set_option linter.unusedSimpArgs false
set_option linter.unusedSectionVars false
namespace Go.Proofs.E
open Go Go.Proofs.MV Go.Proofs.MI
set_option linter.unusedVariables false
set_option maxRecDepth 10000
variable {L : Nat → (Nat → Option Obj) → Prop}
theorem r02_same (l : List Bool) (hl : l.length ≤ 1048576) : Pure Tryz.prog L 155 [bitsV l, bitsV l] (.b true) := by
  refine pure_of_W Tryz.func155 rfl rfl (by kernel_rfl) [] (by unfold bitsV; exact closed) (.b _) fun A hL => ?_
  have hw := wn_length l (wc l)
  have hc : (l.length + 63) / 64 = wc l := rfl
  unfold bitsV Tryz.f155
  refine go ?_
  refine loop_ (fun i : Nat => ⟨[(2, .p 0 0 0), (3, .p 1 0 0), (5, .i .i64 i)], _⟩) (fun i => i ≤ wc l) (fun i => wc l - i) 0 (Nat.zero_le _) (le_slots (Nat.zero_le _) (go ?_)) fun i hi => go ?_
  · trivial
  refine ⟨fun h1 => go ?_, fun h1 => go ?_⟩
  · refine regD 11 (by kernel_rfl) (by kernel_rfl) (go ?_)
    exact ⟨i + 1, by omega, by omega, le_slots (Nat.zero_le _) (go trivial)⟩
  · exact fin_
theorem r03_check (d : Nat) (l : List Nat) (h0 : 0 < d) (hd : d ≤ 64) (hl : l.length * d ≤ 1048576) : Pure Tryz.prog L 105 [intsV d l] (.b true) := by
  refine pure_of_W Tryz.func105 rfl rfl (by kernel_rfl) [] (by unfold intsV; exact closed) (.b _) fun A hL => ?_
  have hln : l.length ≤ 1048576 := by have := Nat.le_mul_of_pos_right l.length h0; omega
  have hck := r02_check (L := L) (flat d l) (by rw [flat_length]; exact hl)
  unfold bitsV at hck
  rw [flat_length] at hck
  unfold intsV
  unfold Tryz.f105
  refine go ?_
  refine hck.does hL (go ?_)
  exact fin_
theorem r03_same (d : Nat) (l : List Nat) (h0 : 0 < d) (hd : d ≤ 64) (hl : l.length * d ≤ 1048576) : Pure Tryz.prog L 154 [intsV d l, intsV d l] (.b true) := by
  refine pure_of_W Tryz.func154 rfl rfl (by kernel_rfl) [] (by unfold intsV; exact closed) (.b _) fun A hL => ?_
  have hck := r02_same (L := L) (flat d l) (by rw [flat_length]; exact hl)
  unfold bitsV at hck
  rw [flat_length] at hck
  unfold intsV
  unfold Tryz.f154
  refine go ?_
  refine hck.does hL (go ?_)
  exact fin_
/-- The number of the first i bits. -/
def pieceTo (l : List Bool) (p : Nat) (i : Nat) : Nat := piece l p i
theorem piece_succ (l : List Bool) (p i : Nat) : piece l p (i + 1) = piece l p i ||| (2 ^ i * (bt l (p + i)).toNat) := by
  apply Nat.eq_of_testBit_eq
  intro j
  unfold piece
  rw [Nat.testBit_or, wd_bit, wd_bit, Nat.testBit_two_pow_mul]
  cases hb : bt l (p + i)
  · by_cases e : j = i
    · subst e; simp [hb]
    · by_cases h : j < i
      · simp [h, Nat.lt_succ_of_lt h]
      · have : ¬ j < i + 1 := by omega
        simp [h, this]
  · by_cases e : j = i
    · subst e; simp [hb]
    · by_cases h : j < i
      · have : ¬ i ≤ j := by omega
        simp [h, Nat.lt_succ_of_lt h, this]
      · have h2 : ¬ j < i + 1 := by omega
        have h3 : (1 : Nat).testBit (j - i) = false := Nat.testBit_lt_two_pow (Nat.lt_of_lt_of_le (show 1 < 2 ^ 1 by decide) (Nat.pow_le_pow_right (by decide) (by omega)))
        simp [h, h2, h3]
theorem r02_slice (l : List Bool) (hl : l.length ≤ 1048576) (p n : Nat) (hp : p + n ≤ l.length) (hn : n ≤ 64) : Pure Tryz.prog L 152 [bitsV l, .i .i64 p, .i .i64 n] (.tup [.i .u64 (piece l p n : Nat), .i .i64 0]) := by
  refine pure_of_W Tryz.func152 rfl rfl (by kernel_rfl) [] (by unfold bitsV; exact closed) closed fun A hL => ?_
  have hck := r02_check (L := L) l hl
  have hat := fun i (h : i < l.length) => (r02_at (L := L) l hl i h)
  unfold bitsV at *
  unfold Tryz.f152
  refine go ?_
  refine hck.does hL (go ?_)
  refine loop_ (fun i : Nat => ⟨[(1, .i .i64 p), (2, .i .i64 n), (3, .p 0 0 0), (8, .i .u64 (piece l p i : Nat)), (9, .i .i64 i)], _⟩) (fun i => i ≤ n) (fun i => n - i) 0 (Nat.zero_le _) (le_slots (Nat.zero_le _) (go ?_)) fun i hi => go ?_
  · exact rfl
  refine ⟨fun h1 => go ?_, fun h1 => go ?_⟩
  · have h64 := pow64 (i := i) (by omega)
    have hpl : piece l p i < 2 ^ i := wd_lt _ _
    refine (hat (p + i) (by omega)).does hL (go ?_)
    refine onCb (fun hx => go ?_) (fun hx => go ?_)
    · refine ⟨i + 1, by omega, by omega, le_slots (Nat.zero_le _) (go ?_)⟩
      rw [piece_succ, hx]
      simp
    · refine ⟨i + 1, by omega, by omega, le_slots (Nat.zero_le _) (go ?_)⟩
      rw [piece_succ, hx]
      simp
  · obtain rfl : i = n := by omega
    exact fin_
theorem r03_get (d : Nat) (l : List Nat) (h0 : 0 < d) (hd : d ≤ 64) (hl : l.length * d ≤ 1048576) (i : Nat) (hi : i < l.length) (h : l.getD i 0 < 2 ^ d) : Pure Tryz.prog L 184 [intsV d l, .i .i64 i] (.tup [.i .u64 (l.getD i 0 : Nat), .i .i64 0]) := by
  refine pure_of_W Tryz.func184 rfl rfl (by kernel_rfl) [] (by unfold intsV; exact closed) closed fun A hL => ?_
  have hck := r03_check (L := L) d l h0 hd hl
  have hmf2 := mul_fits (d := d) hi
  have hln : l.length ≤ 1048576 := by have := Nat.le_mul_of_pos_right l.length h0; omega
  have hsl := r02_slice (L := L) (flat d l) (by rw [flat_length]; exact hl) (i * d) d (by rw [flat_length]; exact hmf2) hd
  rw [flat_piece d l i hi h] at hsl
  unfold bitsV at hsl
  rw [flat_length] at hsl
  unfold intsV at *
  unfold Tryz.f184
  refine go ?_
  refine hck.does hL (go ?_)
  refine hsl.does hL (go ?_)
  exact fin_
end Go.Proofs.E
end
/- The reference: lists of numbers. -/
section
set_option linter.unusedVariables false
set_option linter.unusedSimpArgs false
set_option linter.unusedSectionVars false
namespace Go.Proofs.E
open Go Go.Proofs.MV Go.Proofs.MI
set_option linter.unusedVariables false
set_option maxRecDepth 10000
variable {L : Nat → (Nat → Option Obj) → Prop}
theorem le_virt' {P : Program} {n0 : Nat} {T T' : Tm} {H H' : Heap} (t : TypeId) (h0 : n0 ≤ H.length) (hH : H' = H ++ [⟨t, 0, [], true⟩]) (ht : TLv H.length T T') : Le P n0 ⟨T', H'⟩ ⟨T, H⟩ := by subst hH; exact le_virt t h0 ht
theorem take_snoc {l : List Nat} {j : Nat} (h : j < l.length) : l.take j ++ [l.getD j 0] = l.take (j + 1) := by
  rw [List.take_add_one, List.getElem?_eq_getElem h, List.getD_eq_getElem?_getD, List.getElem?_eq_getElem h]; rfl
theorem r03_list (d : Nat) (l : List Nat) (h0 : 0 < d) (hd : d ≤ 64) (hl : l.length * d ≤ 1048576) (h : ∀ j, j < l.length → l.getD j 0 < 2 ^ d) : Pure Tryz.prog L 151 [intsV d l] (.sl false l.length (nums .u64 l)) := by
  refine pure_of_W Tryz.func151 rfl rfl (by kernel_rfl) [] (by unfold intsV; exact closed) closed fun A hL => ?_
  have hck := r03_check (L := L) d l h0 hd hl
  have hln : l.length ≤ 1048576 := by have := Nat.le_mul_of_pos_right l.length h0; omega
  have hget := fun i (hi : i < l.length) => r03_get (L := L) d l h0 hd hl i hi (h i hi)
  unfold intsV at *
  unfold Tryz.f151
  refine go ?_
  refine loop_ (fun j : Nat => ⟨[(1, .p 0 0 0), (3, .o 1 j 0 j), (4, .i .i64 j)], [⟨39, 0, [.i .i64 (l.length : Nat), .i .i64 d, .i .i64 (l.length * d : Nat), .sl false (wc (flat d l)) (nums .u64 (wn (flat d l) (wc (flat d l))))], true⟩, ⟨95, j, nums .u64 (l.take j), true⟩]⟩) (fun j => j ≤ l.length) (fun j => l.length - j) 0 (Nat.zero_le _) (le_virt' 95 (Nat.zero_le _) rfl (go ?_)) fun j hj => go ?_
  · trivial
  refine ⟨fun h1 => go ?_, fun h1 => go ?_⟩
  · refine hck.does hL (go ?_)
    refine (hget j h1).does hL (go ?_)
    exact ⟨j + 1, by omega, by omega, le_slots' (Nat.zero_le _) (by rw [← take_snoc h1]; try rfl) (go trivial)⟩
  · obtain rfl : j = l.length := by omega
    exact fin_
end Go.Proofs.E
end
/- The reference: words. -/
section
set_option linter.unusedVariables false
set_option linter.unusedSimpArgs false
set_option linter.unusedSectionVars false
namespace Go.Proofs.E
open Go Go.Proofs.MV Go.Proofs.MI
set_option linter.unusedVariables false
set_option maxRecDepth 10000
variable {L : Nat → (Nat → Option Obj) → Prop}
theorem one_of {q : Nat} (h : q < 2) (h2 : q % 2 = 1) : q = 1 := by omega
theorem zero_of {q : Nat} (h : q < 2) (h2 : ¬ q % 2 = 1) : q = 0 := by omega
theorem r01_len (x : Nat) (hx : x < 2 ^ 64) : Pure Tryz.prog L 161 [.i .u64 x] (.i .i64 (Lib.bitLen x : Nat)) := by
  refine pure_of_W Tryz.func161 rfl rfl (by kernel_rfl) [] closed (.i _ _) fun A hL => ?_
  unfold Tryz.f161
  refine go ?_
  refine loop_ (fun i : Nat => ⟨[(0, .i .u64 x), (3, .i .i64 i)], []⟩) (fun i => i ≤ 64 ∧ x < 2 ^ i) (fun i => i) 64 ⟨Nat.le_refl _, hx⟩ (le_slots (Nat.zero_le _) (go ?_)) fun i ⟨hi, hxi⟩ => go ?_
  · trivial
  refine ⟨fun h1 => go ?_, fun h1 => go ?_⟩
  · have hd : x / 2 ^ (i - 1) < 2 := (Nat.div_lt_iff_lt_mul (Nat.two_pow_pos _)).2 (by
      have : 2 * 2 ^ (i - 1) = 2 ^ i := by rw [← Nat.pow_succ']; congr 1; omega
      omega)
    refine ⟨fun h2 => go ?_, fun h2 => go ?_⟩
    · have e : x = 2 ^ (i - 1) + x % 2 ^ (i - 1) := by
        have h3 : x / 2 ^ (i - 1) = 1 := one_of hd h2
        have := Nat.div_add_mod x (2 ^ (i - 1))
        rw [h3, Nat.mul_one] at this
        omega
      have hb := MO.bitLen_top (i - 1) (x % 2 ^ (i - 1)) (by omega) (Nat.mod_lt _ (Nat.two_pow_pos _))
      rw [← e] at hb
      rw [hb, show i - 1 + 1 = i by omega]
      exact fin_
    · have h3 : x / 2 ^ (i - 1) = 0 := zero_of hd h2
      have h4 : x < 2 ^ (i - 1) := by
        rcases Nat.div_eq_zero_iff.1 h3 with h | h
        · have := Nat.two_pow_pos (i - 1); omega
        · exact h
      exact ⟨i - 1, by omega, ⟨by omega, h4⟩, le_slots (Nat.zero_le _) (go trivial)⟩
  · obtain rfl : i = 0 := by omega
    have : x = 0 := by simpa using hxi
    subst this
    exact ⟨1, rfl⟩
theorem r01_rank (x n : Nat) (hx : x < 2 ^ 64) (hn : n ≤ 64) : Pure Tryz.prog L 159 [.i .u64 x, .i .i64 n] (.i .i64 (MP.pop n x : Nat)) := by
  refine pure_of_W Tryz.func159 rfl rfl (by kernel_rfl) [] closed (.i _ _) fun A hL => ?_
  unfold Tryz.f159
  refine go ?_
  refine loop_ (fun i : Nat => ⟨[(0, .i .u64 x), (1, .i .i64 n), (5, .i .i64 (MP.pop i x : Nat)), (6, .i .i64 i)], []⟩) (fun i => i ≤ n) (fun i => n - i) 0 (Nat.zero_le _) (le_slots (Nat.zero_le _) (go ?_)) fun i hi => go ?_
  · exact rfl
  have hpl := MB.pop_le x i
  refine ⟨fun h1 => go ?_, fun h1 => go ?_⟩
  · refine ⟨fun h2 => go ?_, fun h2 => go ?_⟩
    · have hbit : x.testBit i = decide (x / 2 ^ i % 2 = 1) := Nat.testBit_eq_decide_div_mod_eq
      refine ⟨fun h3 => go ?_, fun h3 => go ?_⟩
      · refine ⟨i + 1, by omega, by omega, le_slots (Nat.zero_le _) (go ?_)⟩
        rw [MP.pop_succ, hbit]; simp [h3]
      · refine ⟨i + 1, by omega, by omega, le_slots (Nat.zero_le _) (go ?_)⟩
        rw [MP.pop_succ, hbit]; simp [h3]
    · obtain rfl : i = n := by omega
      exact fin_
  · obtain rfl : i = n := by omega
    exact fin_
theorem r03_fits (x d : Nat) (hx : x < 2 ^ 64) (hd : d ≤ 64) (h : x < 2 ^ d) : Pure Tryz.prog L 162 [.i .u64 x, .i .i64 d] (.b true) := by
  refine pure_of_W Tryz.func162 rfl rfl (by kernel_rfl) [] closed (.b _) fun A hL => ?_
  have hb : Lib.bitLen x ≤ d := bitLen_le 64 x d h
  unfold Tryz.f162
  refine go ?_
  refine (r01_len x hx).does hL (go ?_)
  exact fin_
end Go.Proofs.E
end
/- The reference: making rows of numbers. -/
section
set_option linter.unusedVariables false
set_option linter.unusedSimpArgs false
set_option linter.unusedSectionVars false
namespace Go.Proofs.E
open Go Go.Proofs.MV Go.Proofs.MI
set_option linter.unusedVariables false
set_option maxRecDepth 10000
variable {L : Nat → (Nat → Option Obj) → Prop}
theorem bitsOf_snoc (x k : Nat) : bitsOf x k ++ [decide (x / 2 ^ k % 2 = 1)] = bitsOf x (k + 1) := by
  unfold bitsOf
  rw [List.range_succ, List.map_append]
  simp only [List.map_cons, List.map_nil, Nat.testBit_eq_decide_div_mod_eq]
theorem r03_make (d : Nat) (l : List Nat) (h0 : 0 < d) (hd : d ≤ 64) (hl : l.length * d ≤ 1048576) (h : ∀ j, j < l.length → l.getD j 0 < 2 ^ d) : Pure Tryz.prog L 119 [.i .i64 d, .sl false l.length (nums .u64 l)] (.tup [intsV d l, .i .i64 0]) := by
  refine pure_of_W Tryz.func119 rfl rfl (by kernel_rfl) [62] closed (by unfold intsV; exact closed) fun A hL => ?_
  have hln : l.length ≤ 1048576 := by have := Nat.le_mul_of_pos_right l.length h0; omega
  have h64 : ∀ j, j < l.length → l.getD j 0 < 2 ^ 64 := fun j hj => Nat.lt_of_lt_of_le (h j hj) (Nat.pow_le_pow_right (by decide) hd)
  unfold intsV
  unfold Tryz.f119
  refine go ?_
  refine loop_ (fun i : Nat => ⟨[(0, .i .i64 d), (1, .sl false l.length (nums .u64 l)), (4, .p 0 0 0), (6, .o 1 (i * d) 0 (i * d)), (7, .i .i64 i)], [⟨39, 0, [.i .i64 0, .i .i64 0, .i .i64 0, .ns], true⟩, ⟨4, i * d, bls (flat d (l.take i)), true⟩]⟩) (fun i => i ≤ l.length) (fun i => l.length - i) 0 (Nat.zero_le _) ?_ fun i hi => go ?_
  · refine le_virt' 4 (Nat.zero_le _) (by simp [flat, bls]) (go ?_)
    simp
  have hfa := flat_length d l
  refine ⟨fun h1 => go ?_, fun h1 => go ?_⟩
  · refine (r03_fits (l.getD i 0) d (h64 i h1) hd (h i h1)).does hL (go ?_)
    have hmf := mul_fits (d := d) h1
    have hfl : (flat d (l.take i)).length = i * d := by rw [flat_length, List.length_take, Nat.min_eq_left hi]
    refine loop_ (fun k : Nat => ⟨[(0, .i .i64 d), (1, .sl false l.length (nums .u64 l)), (4, .p 0 0 0), (6, .o 1 (i * d + k) 0 (i * d + k)), (7, .i .i64 i), (8, .i .i64 k)], [⟨39, 0, [.i .i64 0, .i .i64 0, .i .i64 0, .ns], true⟩, ⟨4, i * d + k, bls (flat d (l.take i) ++ bitsOf (l.getD i 0) k), true⟩]⟩) (fun k => k ≤ d) (fun k => d - k) 0 (Nat.zero_le _) (le_slots' (Nat.zero_le _) (by simp [bitsOf]) (go ?_)) fun k hk => go ?_
    · trivial
    have hbl : (flat d (l.take i) ++ bitsOf (l.getD i 0) k).length = i * d + k := by rw [List.length_append, hfl, bitsOf_length]
    have hbo := bitsOf_length (l.getD i 0) k
    have hrp : (List.replicate 1 false).length = 1 := rfl
    refine ⟨fun h2 => go ?_, fun h2 => go ?_⟩
    · refine ⟨k + 1, by omega, by omega, le_slots' (Nat.zero_le _) ?_ (go ?_)⟩
      · rw [← bitsOf_snoc, ← Nat.add_assoc]; try rfl
      · simp only [Nat.add_assoc]
    · obtain rfl : k = d := by omega
      refine ⟨i + 1, by omega, by omega, le_slots' (Nat.zero_le _) ?_ (go ?_)⟩
      · rw [flat_take k l i h1, Nat.succ_mul]
      · simp [Nat.succ_mul]
  · obtain rfl : i = l.length := by omega
    have hfl := flat_length d l
    have hfr := r02_from (L := L) (flat d l) (by rw [hfl]; exact hl)
    unfold bitsV at hfr
    rw [hfl] at hfr
    refine go ?_
    refine hfr.does hL ?_
    refine go ?_
    exact fin_
end Go.Proofs.E
end
/- The reference: ways to choose, numbers of blocks. -/
section
set_option linter.unusedVariables false
set_option linter.unusedSimpArgs false
set_option linter.unusedSectionVars false
namespace Go.Proofs.E
open Go Go.Proofs.MV
set_option linter.unusedVariables false
set_option maxRecDepth 10000
variable {L : Nat → (Nat → Option Obj) → Prop}
theorem row_one (N : Nat) (h : N ≤ 62) : (List.replicate (N + 1) 0).set 0 1 = (MB.rowL 0).take (N + 1) := by
  rw [← row_zero, List.take_succ_cons, List.take_replicate, Nat.min_eq_left h]; rfl
theorem r06_choose (n k : Nat) (hn : n ≤ 62) (hk : k < 1000000) : Pure Tryz.prog L 160 [.i .i64 n, .i .i64 k] (.i .u64 (MB.ch n k : Nat)) := by
  refine pure_of_W Tryz.func160 rfl rfl (by kernel_rfl) [] closed closed fun A hL => ?_
  unfold Tryz.f160
  refine go ?_
  refine ⟨fun h => ?_, fun h => go ?_⟩
  · rw [MB.ch_out n k (by omega)]
    refine go ?_
    exact fin_
  refine loop_ (fun j : Nat => ⟨[(0, .i .i64 n), (1, .i .i64 k), (5, .o 0 0 0 (n + 1)), (6, .i .i64 (j + 1 : Nat))], [⟨95, 0, nums .u64 ((MB.rowL j).take (n + 1)), true⟩]⟩) (fun j => j ≤ n) (fun j => n - j) 0 (Nat.zero_le _) (le_slots' (Nat.zero_le _) (by rw [← row_one n hn]) (go ?_)) fun j hj => go ?_
  · trivial
  refine ⟨fun h1 => go ?_, fun h1 => go ?_⟩
  · refine loop_ (fun q : Nat => ⟨[(0, .i .i64 n), (1, .i .i64 k), (5, .o 0 0 0 (n + 1)), (6, .i .i64 (j + 1 : Nat)), (7, .i .i64 q)], [⟨95, 0, nums .u64 ((MB.tri j q).take (n + 1)), true⟩]⟩) (fun q => q ≤ j + 1) (fun q => q) (j + 1) (Nat.le_refl _) (le_slots' (Nat.zero_le _) (by rw [MB.tri_start]) (go ?_)) fun q hq => go ?_
    · trivial
    refine ⟨fun h2 => go ?_, fun h2 => go ?_⟩
    · obtain ⟨p, rfl⟩ : ∃ p, q = p + 1 := ⟨q - 1, by omega⟩
      have hl : ((MB.tri j (p + 1)).take (n + 1)).length = n + 1 := by rw [List.length_take, MB.tri_length]; omega
      have e1 : ((MB.tri j (p + 1)).take (n + 1)).getD (p + 1) 0 = MB.ch j (p + 1) := by rw [take_getD (by omega), MB.tri_getD j (p + 1) (p + 1) (by omega), if_neg (by omega)]
      have e2 : ((MB.tri j (p + 1)).take (n + 1)).getD p 0 = MB.ch j p := by rw [take_getD (by omega), MB.tri_getD j (p + 1) p (by omega), if_neg (by omega)]
      have b1 := ch_64 j (p + 1) (by omega)
      have b2 := ch_64 j p (by omega)
      refine regD 13 (by kernel_rfl) (by kernel_rfl) (gox ?_)
      refine ⟨p, by omega, by omega, le_slots' (Nat.zero_le _) ?_ (go trivial)⟩
      rw [MB.tri_step j p (by omega), List.take_set]
    · obtain rfl : q = 0 := by omega
      exact ⟨j + 1, by omega, by omega, le_slots' (Nat.zero_le _) (by rw [MB.tri_end]) (go trivial)⟩
  · obtain rfl : j = n := by omega
    have hl : ((MB.rowL j).take (j + 1)).length = j + 1 := row_len j hn
    have e1 : ((MB.rowL j).take (j + 1)).getD k 0 = MB.ch j k := row_take (by omega) hn
    refine gox ?_
    exact fin_
theorem r06_width (n k : Nat) (hn : n ≤ 62) (hk : k < 1000000) : Pure Tryz.prog L 118 [.i .i64 n, .i .i64 k] (.i .i64 (MK.wdt n k : Nat)) := by
  refine pure_of_W Tryz.func118 rfl rfl (by kernel_rfl) [] closed closed fun A hL => ?_
  have h64 := ch_64 n k hn
  unfold Tryz.f118
  refine go ?_
  refine (r06_choose n k hn hk).does hL (go ?_)
  refine ⟨fun h => ?_, fun h => ?_⟩
  · rw [show MK.wdt n k = 0 by unfold MK.wdt; rw [if_pos (by omega)]]
    refine go ?_
    exact fin_
  · rw [show MK.wdt n k = Lib.bitLen (MB.ch n k - 1) by unfold MK.wdt; rw [if_neg (by omega)]]
    refine go ?_
    refine (r01_len (MB.ch n k - 1) (by omega)).does hL (go ?_)
    exact fin_
theorem r06_offset (x n : Nat) (hx : x < 2 ^ 64) (hn : n ≤ 62) : Pure Tryz.prog L 115 [.i .u64 x, .i .i64 n] (.tup [.i .i64 (MP.pop n x : Nat), .i .u64 (MB.enc x n : Nat)]) := by
  refine pure_of_W Tryz.func115 rfl rfl (by kernel_rfl) [] closed closed fun A hL => ?_
  have hpn := MB.pop_le x n
  have hen : MB.enc x n < 4611686018427387904 := Nat.lt_of_lt_of_le (MB.enc_lt x n) (ch_64 n _ hn)
  unfold Tryz.f115
  refine go ?_
  refine (r01_rank x n hx (by omega)).does hL (go ?_)
  refine loop_ (fun m : Nat => ⟨[(0, .i .u64 x), (6, .i .i64 (MP.pop n x : Nat)), (7, .i .u64 (MB.enc x n - MB.enc x m : Nat)), (8, .i .i64 (MP.pop m x : Nat)), (9, .i .i64 ((m : Int) - 1))], []⟩) (fun m => m ≤ n) (fun m => m) n (Nat.le_refl _) (le_slots (Nat.zero_le _) (go ?_)) fun m hm => ?_
  · simp
  have hem := enc_mono x hm
  refine go ?_
  refine ⟨fun h1 => ?_, fun h1 => go ?_⟩
  · obtain ⟨i, rfl⟩ : ∃ i, m = i + 1 := ⟨m - 1, by omega⟩
    have e1 : ((i + 1 : Nat) : Int) - 1 = (i : Nat) := by omega
    have hpl := MB.pop_le x (i + 1)
    have hp64 := pow64 (show i < 64 by omega)
    have hc64 := ch_64 i (MP.pop (i + 1) x) (by omega)
    have hbit : x.testBit i = decide (x / 2 ^ i % 2 = 1) := Nat.testBit_eq_decide_div_mod_eq
    have hps := MP.pop_succ i x
    have hes : MB.enc x (i + 1) = (if x.testBit i then MB.ch i (MP.pop (i + 1) x) else 0) + MB.enc x i := rfl
    rw [e1]
    refine go ?_
    refine ⟨fun h2 => go ?_, fun h2 => go ?_⟩
    · rw [hbit, decide_eq_true h2] at hps hes
      simp only [Bool.toNat_true, if_true] at hps hes
      refine (r06_choose i (MP.pop (i + 1) x) (by omega) (by omega)).does hL (go ?_)
      refine ⟨i, by omega, by omega, le_slots (Nat.zero_le _) (go ?_)⟩
      omega
    · rw [hbit, decide_eq_false h2] at hps hes
      simp only [Bool.toNat_false] at hps hes
      refine ⟨i, by omega, by omega, le_slots (Nat.zero_le _) (go ?_)⟩
      simp at hes
      omega
  · obtain rfl : m = 0 := by omega
    rw [show MB.enc x 0 = 0 from rfl, Nat.sub_zero]
    exact fin_
theorem r06_block (n k off : Nat) (hn : n ≤ 62) (hk : k ≤ n) (ho : off < MB.ch n k) : Pure Tryz.prog L 153 [.i .i64 n, .i .i64 k, .i .u64 off] (.tup [.i .u64 (MB.dec n k off : Nat), .b true]) := by
  refine pure_of_W Tryz.func153 rfl rfl (by kernel_rfl) [] closed closed fun A hL => ?_
  have h64 := ch_64 n k hn
  unfold Tryz.f153
  refine go ?_
  refine (r06_choose n k hn (by omega)).does hL (go ?_)
  refine loop_ (fun x : Nat × Nat × Nat × Nat => ⟨[(1, .i .i64 x.2.1), (2, .i .u64 x.2.2.1), (8, .i .u64 x.2.2.2), (9, .i .i64 ((x.1 : Int) - 1))], []⟩) (Dec n k off) (fun x => x.1) (n, k, off, 0) ⟨Nat.le_refl _, Nat.zero_mod _, by simp, ho, by simp⟩ (le_slots (Nat.zero_le _) (go ?_)) fun ⟨m, k', o, y⟩ hD => ?_
  · trivial
  obtain ⟨hi, hy, hyl, ho', hd⟩ := id hD
  simp only at hi hy hyl ho' hd
  have h64' := ch_64 m k' (by omega)
  have hpn := Nat.pow_lt_pow_right (show 1 < 2 by decide) (show n < 63 by omega)
  have hpm := Nat.two_pow_pos m
  have hkm : k' ≤ m := Nat.le_of_not_lt fun h => by rw [MB.ch_out m k' h] at ho'; omega
  refine go ?_
  refine ⟨fun h1 => ?_, fun h1 => go ?_⟩
  · obtain ⟨i, rfl⟩ : ∃ i, m = i + 1 := ⟨m - 1, by omega⟩
    have e1 : ((i + 1 : Nat) : Int) - 1 = (i : Nat) := by omega
    rw [e1]
    refine go ?_
    refine ⟨fun h2 => ?_, fun h2 => go ?_⟩
    · obtain ⟨j, rfl⟩ : ∃ j, k' = j + 1 := ⟨k' - 1, by omega⟩
      have h64c := ch_64 i (j + 1) (by omega)
      have hor := or_high hy
      have hpi := pow64 (show i < 64 by omega)
      have hpp := Nat.pow_succ 2 i
      refine go ?_
      refine (r06_choose i (j + 1) (by omega) (by omega)).does hL (go ?_)
      refine ⟨fun h4 => gox ?_, fun h4 => gox ?_⟩
      · exact ⟨(i, j, o - MB.ch i (j + 1), y + 2 ^ i), by simp, dec_yes hD (by omega), le_slots (Nat.zero_le _) (go trivial)⟩
      · exact ⟨(i, j + 1, o, y), by simp, dec_no hD (by omega), le_slots (Nat.zero_le _) (go trivial)⟩
    · obtain rfl : k' = 0 := by omega
      rw [MB.dec, if_pos rfl] at hd
      obtain rfl : y = MB.dec n k off := by omega
      exact fin_
  · obtain rfl : m = 0 := by omega
    simp only [MB.dec] at hd
    obtain rfl : y = MB.dec n k off := by omega
    exact fin_
end Go.Proofs.E
end
/- The reference: rows of bits with counts. -/
section
set_option linter.unusedVariables false
set_option linter.unusedSimpArgs false
set_option linter.unusedSectionVars false
namespace Go.Proofs.E
open Go Go.Proofs.MV
set_option linter.unusedVariables false
set_option maxRecDepth 10000
variable {L : Nat → (Nat → Option Obj) → Prop}
theorem r07_build (l : List Bool) (hl : l.length ≤ 1048576) : Pure Tryz.prog L 63 [bitsV l] (.tup [plainV l, .i .i64 0]) := by
  refine pure_of_W Tryz.func63 rfl rfl (by kernel_rfl) [] (by unfold bitsV; exact closed) (by unfold plainV plainC; exact closed) fun A hL => ?_
  have hck := r02_check (L := L) l hl
  have hon := fun n (h : n ≤ l.length) => r02_ones (L := L) l hl n (by omega)
  have hw := wn_length l (wc l)
  have hc : (l.length + 63) / 64 = wc l := rfl
  unfold plainV plainC
  unfold bitsV at *
  unfold Tryz.f63
  refine go ?_
  refine hck.does hL (go ?_)
  refine loop_ (fun i : Nat => ⟨[(1, .p 0 0 0), (2, .p 1 0 0), (4, .p 2 0 0), (5, .i .i64 i)], [⟨33, 0, [.i .i64 (l.length : Nat), .sl false (wc l) (nums .u64 (wn l (wc l)))], true⟩, ⟨37, 0, [.i .i64 0, .ns, .ns, .ns], true⟩, ⟨37, 0, [.i .i64 (l.length : Nat), .sl false (wc l) (nums .u64 (wn l (wc l))), .o 3 i 0 i, .o 4 0 0 0], true⟩, ⟨3, i, nums .i64 (supN l i), true⟩, ⟨3, 0, [], true⟩]⟩)
    (fun i => i ≤ l.length / 512 + 1) (fun i => l.length / 512 + 1 - i) 0 (Nat.zero_le _) (Le.trans (le_slots' (Nat.zero_le _) ?_ (go ?_)) (Le.trans (le_virtc 3 2 3 rfl rfl (Nat.zero_le _)) (le_virtc 3 2 2 rfl rfl (Nat.zero_le _)))) fun i hi => ?_
  · simp [supN, nums]
  · trivial
  have hsl := supN_length l i
  refine go ?_
  refine ⟨fun h1 => go ?_, fun h1 => ?_⟩
  · have hcl := MR.cnt_le l (512 * i)
    have ho := hon (512 * i) (by omega)
    rw [Nat.min_eq_left (show 512 * i ≤ l.length by omega)] at ho
    refine regD 7 (by kernel_rfl) (by kernel_rfl) (go ?_)
    refine ⟨_, ho.does hL ⟨rfl, rfl⟩, ?_⟩
    refine gox ?_
    exact ⟨i + 1, by omega, by omega, le_slots' (Nat.zero_le _) (by rw [← supN_snoc]) (go trivial)⟩
  · obtain rfl : i = l.length / 512 + 1 := by omega
    clear hsl
    refine go ?_
    refine loop_ (fun j : Nat => ⟨[(1, .p 0 0 0), (2, .p 1 0 0), (4, .p 2 0 0), (6, .i .i64 j)], [⟨33, 0, [.i .i64 (l.length : Nat), .sl false (wc l) (nums .u64 (wn l (wc l)))], true⟩, ⟨37, 0, [.i .i64 0, .ns, .ns, .ns], true⟩, ⟨37, 0, [.i .i64 (l.length : Nat), .sl false (wc l) (nums .u64 (wn l (wc l))), .o 3 (l.length / 512 + 1) 0 (l.length / 512 + 1), .o 4 j 0 j], true⟩, ⟨3, l.length / 512 + 1, nums .i64 (supN l (l.length / 512 + 1)), true⟩, ⟨3, j, nums .i64 (subN l j), true⟩]⟩)
      (fun j => j ≤ wc l) (fun j => wc l - j) 0 (Nat.zero_le _) (le_slots' (Nat.zero_le _) rfl (go ?_)) fun j hj => ?_
    · trivial
    have hbl := subN_length l j
    have hsl := supN_length l (l.length / 512 + 1)
    refine go ?_
    refine ⟨fun h1 => go ?_, fun h1 => ?_⟩
    · have hcl := MR.cnt_le l (64 * j)
      have hcm := MR.cnt_mono l (show 512 * (j / 8) ≤ 64 * j by omega)
      have hget := supN_getD l (k := l.length / 512 + 1) (i := j / 8) (by omega)
      have ho := hon (64 * j) (by omega)
      rw [Nat.min_eq_left (show 64 * j ≤ l.length by omega)] at ho
      refine regD 14 (by kernel_rfl) (by kernel_rfl) (go ?_)
      refine ⟨_, ho.does hL ⟨rfl, rfl⟩, ?_⟩
      refine gox ?_
      exact ⟨j + 1, by omega, by omega, le_slots' (Nat.zero_le _) (by rw [← subN_snoc]) (go trivial)⟩
    · obtain rfl : j = wc l := by omega
      refine gox ?_
      exact fin_
theorem r07_numbers (l : List Nat) (hl : l.length ≤ 100000000) : Pure Tryz.prog L 156 [.sl false l.length (nums .i64 l), .sl false l.length (nums .i64 l)] (.b true) := by
  refine pure_of_W Tryz.func156 rfl rfl (by kernel_rfl) [] closed (.b _) fun A hL => ?_
  unfold Tryz.f156
  refine go ?_
  refine loop_ (fun i : Nat => ⟨[(0, .sl false l.length (nums .i64 l)), (1, .sl false l.length (nums .i64 l)), (5, .i .i64 i)], []⟩) (fun i => i ≤ l.length) (fun i => l.length - i) 0 (Nat.zero_le _) (le_slots (Nat.zero_le _) (go ?_)) fun i hi => go ?_
  · trivial
  refine ⟨fun h1 => go ?_, fun h1 => go ?_⟩
  · refine regD 9 (by kernel_rfl) (by kernel_rfl) (go ?_)
    exact ⟨i + 1, by omega, by omega, le_slots (Nat.zero_le _) (go trivial)⟩
  · exact fin_
theorem r07_same (l : List Bool) (hl : l.length ≤ 1048576) : Pure Tryz.prog L 121 [plainV l, plainV l] (.b true) := by
  refine pure_of_W Tryz.func121 rfl rfl (by kernel_rfl) [] (by unfold plainV plainC; exact closed) (.b _) fun A hL => ?_
  have hs := r02_same (L := L) l hl
  have h1 := r07_numbers (L := L) (supN l (l.length / 512 + 1)) (by rw [supN_length]; omega)
  have h2 := r07_numbers (L := L) (subN l (wc l)) (by rw [subN_length]; unfold wc; omega)
  rw [supN_length] at h1
  rw [subN_length] at h2
  unfold plainV plainC
  unfold bitsV at *
  unfold Tryz.f121
  refine go ?_
  refine hs.does hL (go ?_)
  refine h1.does hL (go ?_)
  refine h2.does hL (go ?_)
  exact fin_
theorem r07_check (l : List Bool) (hl : l.length ≤ 1048576) : Pure Tryz.prog L 104 [plainV l] (.b true) := by
  refine pure_of_W Tryz.func104 rfl rfl (by kernel_rfl) [] (by unfold plainV plainC; exact closed) (.b _) fun A hL => ?_
  have hb := r07_build (L := L) l hl
  have hs := r07_same (L := L) l hl
  unfold plainV plainC at *
  unfold bitsV at hb
  unfold Tryz.f104
  refine go ?_
  refine hb.does hL (go ?_)
  refine hs.does hL (go ?_)
  exact fin_
theorem r07_whole (l : List Bool) (hl : l.length ≤ 1048576) : Pure Tryz.prog L 54 [plainV l] (.tup [bitsV l, .b true]) := by
  refine pure_of_W Tryz.func54 rfl rfl (by kernel_rfl) [] (by unfold plainV plainC; exact closed) (by unfold bitsV; exact closed) fun A hL => ?_
  have hs := r07_check (L := L) l hl
  unfold plainV plainC at *
  unfold bitsV
  unfold Tryz.f54
  refine go ?_
  refine hs.does hL (go ?_)
  exact fin_
end Go.Proofs.E
end
/- The reference: rows of bits in blocks of fifteen, built. -/
section
set_option linter.unusedVariables false
set_option linter.unusedSimpArgs false
set_option linter.unusedSectionVars false
namespace Go.Proofs.E
open Go Go.Proofs.MV Go.Proofs.MI
set_option linter.unusedVariables false
set_option maxRecDepth 10000
variable {L : Nat → (Nat → Option Obj) → Prop}
theorem r08_block (l : List Bool) (hl : l.length ≤ 1000000) (p : Nat) (hp : p ≤ l.length) : Pure Tryz.prog L 116 [bitsV l, .i .i64 p] (.i .u64 (piece l p 15 : Nat)) := by
  refine pure_of_W Tryz.func116 rfl rfl (by kernel_rfl) [] (by unfold bitsV; exact closed) closed fun A hL => ?_
  have hat := fun i (h : i < l.length) => (r02_at (L := L) l (by omega) i h)
  have hpm := MK.piece_min l p 15 hp
  unfold bitsV at *
  unfold Tryz.f116
  refine go ?_
  refine loop_ (fun i : Nat => ⟨[(1, .i .i64 p), (2, .p 0 0 0), (5, .i .u64 (piece l p i : Nat)), (6, .i .i64 i)], _⟩) (fun i => i ≤ min 15 (l.length - p)) (fun i => 15 - i) 0 (Nat.zero_le _) (le_slots (Nat.zero_le _) (go ?_)) fun i hi => ?_
  · exact rfl
  have h64 := pow64 (i := i) (by omega)
  have hpl : piece l p i < 2 ^ i := wd_lt _ _
  refine go ?_
  refine ⟨fun h1 => go ?_, fun h1 => go ?_⟩
  · refine ⟨fun h2 => go ?_, fun h2 => go ?_⟩
    · refine (hat (p + i) (by omega)).does hL (go ?_)
      refine onCb (fun hx => go ?_) (fun hx => go ?_)
      · refine ⟨i + 1, by omega, by omega, le_slots (Nat.zero_le _) (go ?_)⟩
        rw [piece_succ, hx]
        simp
      · refine ⟨i + 1, by omega, by omega, le_slots (Nat.zero_le _) (go ?_)⟩
        rw [piece_succ, hx]
        simp
    · obtain rfl : i = min 15 (l.length - p) := by omega
      rw [hpm]
      exact fin_
  · obtain rfl : i = min 15 (l.length - p) := by omega
    rw [hpm]
    exact fin_
theorem r08_low (x n : Nat) (hx : x < 2 ^ 64) (hn : n ≤ 64) : Pure Tryz.prog L 117 [.i .u64 x, .i .i64 n] (.sl false n (bls (bitsOf x n))) := by
  refine pure_of_W Tryz.func117 rfl rfl (by kernel_rfl) [] closed closed fun A hL => ?_
  have hbo := bitsOf_length x
  unfold Tryz.f117
  refine go ?_
  refine loop_ (fun j : Nat => ⟨[(0, .i .u64 x), (1, .i .i64 n), (5, .o 0 j 0 j), (6, .i .i64 j)], [⟨4, j, bls (bitsOf x j), true⟩]⟩) (fun j => j ≤ n) (fun j => n - j) 0 (Nat.zero_le _) (le_virt' 4 (Nat.zero_le _) rfl (go ?_)) fun j hj => ?_
  · trivial
  have hbl := hbo j
  have hrp : (List.replicate 1 false).length = 1 := rfl
  refine go ?_
  refine ⟨fun h1 => go ?_, fun h1 => go ?_⟩
  · exact ⟨j + 1, by omega, by omega, le_slots' (Nat.zero_le _) (by rw [← bitsOf_snoc]; try rfl) (go trivial)⟩
  · obtain rfl : j = n := by omega
    exact fin_
def rH (l : List Bool) (i g : Nat) : Heap :=
  [⟨33, 0, [.i .i64 (l.length : Nat), .sl false (wc l) (nums .u64 (wn l (wc l)))], true⟩, ⟨41, 0, [.i .i64 0, .i .i64 0, .i .i64 0, .i .i64 0, .ns, .i .i64 0, .ns, .ns, .ns], true⟩,
   ⟨41, 0, [.i .i64 (l.length : Nat), .i .i64 0, .i .i64 0, .i .i64 0, .ns, .i .i64 0, .ns, .o 5 g 0 g, .o 6 g 0 g], true⟩,
   ⟨95, i, nums .u64 (classG l i), true⟩, ⟨4, i, bls (MK.offs l i), true⟩, ⟨3, g, nums .i64 (onesG l g), true⟩, ⟨3, g, nums .i64 (pointsG l g), true⟩]
def rS (l : List Bool) (i c g : Nat) : St := ⟨[(1, .p 0 0 0), (2, .p 1 0 0), (4, .p 2 0 0), (5, .o 3 c 0 c), (6, .o 4 c 0 (MK.pts l c)), (7, .i .i64 (MR.cnt l (15 * c) : Nat)), (8, .i .i64 i)], rH l c g⟩
set_option maxHeartbeats 2000000 in
theorem r08_build (l : List Bool) (hl : l.length ≤ 1000000) : Pure Tryz.prog L 64 [bitsV l] (.tup [rrrV l, .i .i64 0]) := by
  refine pure_of_W Tryz.func64 rfl rfl (by kernel_rfl) [73, 79] (by unfold bitsV; exact closed) (by unfold rrrV rrrC; exact closed) fun A hL => ?_
  have hck := r02_check (L := L) l (by omega)
  have hbk := fun p a => r08_block (L := L) l hl p a
  have hc : (l.length + 63) / 64 = wc l := rfl
  have hw := wn_length l (wc l)
  have hnb : (l.length + 14) / 15 = MK.nb l := rfl
  have hng : MK.ng l = (max (MK.nb l) 1 + 7) / 8 := rfl
  unfold bitsV at *
  unfold Tryz.f64
  refine go ?_
  refine hck.does hL (go ?_)
  refine loop_ (fun i : Nat => rS l i (min i (MK.nb l)) ((i + 7) / 8))
    (fun i => i ≤ max (MK.nb l) 1) (fun i => max (MK.nb l) 1 - i) 0 (Nat.zero_le _) (Le.trans (le_slots' (Nat.zero_le _) ?_ (go ?_)) (Le.trans (le_virtc 3 2 8 rfl rfl (Nat.zero_le _)) (Le.trans (le_virtc 3 2 7 rfl rfl (Nat.zero_le _)) (Le.trans (le_virt 4 (T' := [(1, .p 0 0 0), (2, .p 1 0 0), (4, .p 2 0 0), (5, .o 3 0 0 0), (6, .o 4 0 0 0), (7, .i .i64 0), (8, .i .i64 0)]) (Nat.zero_le _) (go ?_)) (le_virt 95 (T' := [(1, .p 0 0 0), (2, .p 1 0 0), (4, .p 2 0 0), (5, .o 3 0 0 0), (6, .ns), (7, .i .i64 0), (8, .i .i64 0)]) (Nat.zero_le _) (go ?_)))))) fun i hi => ?_
  · simp [rS, rH, MK.pts, MK.offs, onesG, pointsG, classG, nums, bls]
  · exact ⟨rfl, rfl⟩
  · trivial
  · trivial
  have blk : ∀ i, i < MK.nb l → Pure Tryz.prog L 116 [.agg [.i .i64 (l.length : Nat), .sl false (wc l) (nums .u64 (wn l (wc l)))], .i .i64 (i * 15 : Nat)] (.i .u64 (MK.bk l i : Nat)) := fun i hi => by have := hbk (i * 15) (by omega); rwa [show piece l (i * 15) 15 = MK.bk l i by rw [Nat.mul_comm]; rfl] at this
  have hwd : ∀ i, Pure Tryz.prog L 118 [.i .i64 15, .i .i64 (MK.cl l i : Nat)] (.i .i64 (MK.wdt 15 (MK.cl l i) : Nat)) := fun i => r06_width 15 (MK.cl l i) (by decide) (by have := MK.cl_le l i; omega)
  have hof : ∀ i, Pure Tryz.prog L 115 [.i .u64 (MK.bk l i : Nat), .i .i64 15] (.tup [.i .i64 (MK.cl l i : Nat), .i .u64 (MK.of l i : Nat)]) := fun i => r06_offset (MK.bk l i) 15 (Nat.lt_of_lt_of_le (MK.bk_lt l i) (by decide)) (by decide)
  have hw15 : ∀ i, MK.wdt 15 (MK.cl l i) ≤ 15 := fun i => MK.wdt_le
  have hlo : ∀ i, Pure Tryz.prog L 117 [.i .u64 (MK.of l i : Nat), .i .i64 (MK.wdt 15 (MK.cl l i) : Nat)] (.sl false (MK.wdt 15 (MK.cl l i)) (bls (bitsOf (MK.of l i) (MK.wdt 15 (MK.cl l i))))) := fun i => r08_low (MK.of l i) _ (Nat.lt_of_lt_of_le (MK.of_lt l i) (Nat.pow_le_pow_right (by decide) (by have := hw15 i; omega))) (by have := hw15 i; omega)
  by_cases hent : i = 0 ∨ 15 * i < l.length
  · have hci : min i (MK.nb l) = i := by omega
    rw [hci]
    have hpl := MK.pts_le l i
    have hg0 := classG_length l i
    have hol : (MK.offs l i).length = MK.pts l i := rfl
    have hcl := MK.cl_le l i
    have hcn := MR.cnt_le l (15 * i)
    unfold rS rH
    refine go ?_
    refine ⟨fun h1 => ?_, fun h1 => go ?_⟩
    · obtain ⟨q, hi8⟩ : ∃ q, 8 * q = i := ⟨0, by omega⟩
      have hi0 : i ≤ 0 := by omega
      clear h1
      rw [show (i + 7) / 8 = q by omega]
      have hg1 := onesG_length l q
      have hg2 := pointsG_length l q
      have e1 := onesG_snoc l q
      have e2 := pointsG_snoc l q
      rw [hi8] at e1 e2
      refine gox ?_
      refine regT 12 4 10 [] [] (fun x y => [⟨33, 0, [.i .i64 (l.length : Nat), .sl false (wc l) (nums .u64 (wn l (wc l)))], true⟩, ⟨41, 0, [.i .i64 0, .i .i64 0, .i .i64 0, .i .i64 0, .ns, .i .i64 0, .ns, .ns, .ns], true⟩, ⟨41, 0, [.i .i64 (l.length : Nat), .i .i64 0, .i .i64 0, .i .i64 0, .ns, .i .i64 0, .ns, .o 5 q 0 q, .o 6 q 0 q], true⟩, ⟨95, i, nums .u64 (classG l i), true⟩, ⟨4, i, bls (MK.offs l i), true⟩, if x = true then ⟨3, q + 1, nums .i64 (onesG l q ++ [MR.cnt l (15 * i)]), true⟩ else ⟨3, q, nums .i64 (onesG l q), true⟩, if y = true then ⟨3, q + 1, nums .i64 (pointsG l q ++ [MK.pts l i]), true⟩ else ⟨3, q, nums .i64 (pointsG l q), true⟩]) (by kernel_rfl) (by kernel_rfl) (by kernel_rfl) rfl ?t1 (fun x y => ?_) ?_
      rotate_left
      · cases x <;> cases y <;> (refine gox ?_; first | exact True.intro | rfl)
      refine go ?_
      rw [e1, e2]
      refine ⟨fun h3 => go ?_, fun h3 => go ?_⟩
      · have hnx : min (i + 1) (MK.nb l) = i + 1 := by omega
        have hcx := MK.cnt_next l i
        have hps := MK.pts_succ l i
        have hwi := hw15 i
        have hb15 : (bitsOf (MK.of l i) (MK.wdt 15 (MK.cl l i))).length = MK.wdt 15 (MK.cl l i) := bitsOf_length _ _
        refine (blk i (by omega)).does hL ?_
        refine (hof i).does hL (go ?_)
        refine (hwd i).does hL ?_
        refine (hlo i).does hL (go ?_)
        refine ⟨i + 1, by omega, by omega, le_slots' (Nat.zero_le _) ?_ (go ?_)⟩
        · rw [hnx, show (i + 1 + 7) / 8 = q + 1 by omega, ← classG_snoc]; simp [MK.offs, bls, nums]
        · exact ⟨hps, hcx⟩
      · have hnx : min (i + 1) (MK.nb l) = i := by omega
        refine ⟨i + 1, by omega, by omega, le_slots' (Nat.zero_le _) ?_ (go ?_)⟩
        · rw [hnx, show (i + 1 + 7) / 8 = q + 1 by omega]
        · rw [hnx]; trivial
    · refine ⟨fun h3 => ?_, fun h3 => go ?_⟩
      · obtain ⟨q, hi8⟩ : ∃ q, 8 * q = i := ⟨i / 8, by omega⟩
        rw [show (i + 7) / 8 = q by omega]
        have hg1 := onesG_length l q
        have hg2 := pointsG_length l q
        have e1 := onesG_snoc l q
        have e2 := pointsG_snoc l q
        rw [hi8] at e1 e2
        refine gox ?_
        refine regT 12 4 10 [] [] (fun x y => [⟨33, 0, [.i .i64 (l.length : Nat), .sl false (wc l) (nums .u64 (wn l (wc l)))], true⟩, ⟨41, 0, [.i .i64 0, .i .i64 0, .i .i64 0, .i .i64 0, .ns, .i .i64 0, .ns, .ns, .ns], true⟩, ⟨41, 0, [.i .i64 (l.length : Nat), .i .i64 0, .i .i64 0, .i .i64 0, .ns, .i .i64 0, .ns, .o 5 q 0 q, .o 6 q 0 q], true⟩, ⟨95, i, nums .u64 (classG l i), true⟩, ⟨4, i, bls (MK.offs l i), true⟩, if x = true then ⟨3, q + 1, nums .i64 (onesG l q ++ [MR.cnt l (15 * i)]), true⟩ else ⟨3, q, nums .i64 (onesG l q), true⟩, if y = true then ⟨3, q + 1, nums .i64 (pointsG l q ++ [MK.pts l i]), true⟩ else ⟨3, q, nums .i64 (pointsG l q), true⟩]) (by kernel_rfl) (by kernel_rfl) (by kernel_rfl) rfl ?t2 (fun x y => ?_) ?_
        rotate_left
        · cases x <;> cases y <;> (refine gox ?_; first | exact True.intro | rfl)
        refine go ?_
        rw [e1, e2]
        have hnx : min (i + 1) (MK.nb l) = i + 1 := by omega
        have hcx := MK.cnt_next l i
        have hps := MK.pts_succ l i
        have hwi := hw15 i
        have hb15 : (bitsOf (MK.of l i) (MK.wdt 15 (MK.cl l i))).length = MK.wdt 15 (MK.cl l i) := bitsOf_length _ _
        refine (blk i (by omega)).does hL ?_
        refine (hof i).does hL (go ?_)
        refine (hwd i).does hL ?_
        refine (hlo i).does hL (go ?_)
        refine ⟨i + 1, by omega, by omega, le_slots' (Nat.zero_le _) ?_ (go ?_)⟩
        · rw [hnx, show (i + 1 + 7) / 8 = q + 1 by omega, ← classG_snoc]; simp [MK.offs, bls, nums]
        · exact ⟨hps, hcx⟩
      · have hnx : min (i + 1) (MK.nb l) = i + 1 := by omega
        have hcx := MK.cnt_next l i
        have hps := MK.pts_succ l i
        have hwi := hw15 i
        have hb15 : (bitsOf (MK.of l i) (MK.wdt 15 (MK.cl l i))).length = MK.wdt 15 (MK.cl l i) := bitsOf_length _ _
        refine (blk i (by omega)).does hL ?_
        refine (hof i).does hL (go ?_)
        refine (hwd i).does hL ?_
        refine (hlo i).does hL (go ?_)
        refine ⟨i + 1, by omega, by omega, le_slots' (Nat.zero_le _) ?_ (go ?_)⟩
        · rw [hnx, show (i + 1 + 7) / 8 = (i + 7) / 8 by omega, ← classG_snoc]; simp [MK.offs, bls, nums]
        · exact ⟨hps, hcx⟩
  · have hci : min i (MK.nb l) = MK.nb l := by omega
    rw [hci, show (i + 7) / 8 = MK.ng l by omega]
    unfold rS rH
    have hmk := r03_make (L := L) 4 (classG l (MK.nb l)) (by decide) (by decide) (by rw [classG_length]; omega) (fun j hj => class_lt l _ j (by rwa [classG_length] at hj))
    have hpn := MK.pts_le l (MK.nb l)
    have hfr := r02_from (L := L) (MK.offs l (MK.nb l)) (show MK.pts l (MK.nb l) ≤ _ by omega)
    rw [ints_class, classG_length] at hmk
    unfold bitsV at hfr
    rw [show (MK.offs l (MK.nb l)).length = MK.pts l (MK.nb l) from rfl] at hfr
    have hg0 := classG_length l (MK.nb l)
    have hol : (MK.offs l (MK.nb l)).length = MK.pts l (MK.nb l) := rfl
    have hg1 := onesG_length l (MK.ng l)
    have hg2 := pointsG_length l (MK.ng l)
    have ht : (classG l (MK.nb l)).take (MK.nb l) = classG l (MK.nb l) := List.take_of_length_le (by omega)
    have ht2 : (MK.offs l (MK.nb l)).take (MK.pts l (MK.nb l)) = MK.offs l (MK.nb l) := List.take_of_length_le (Nat.le_of_eq hol)
    unfold rrrV rrrC
    clear hng
    refine gox ?_
    refine hmk.does hL (gox ?_)
    refine hfr.does hL (gox ?_)
    exact fin_
end Go.Proofs.E
end
/- The reference: rows of bits in blocks of fifteen, read. -/
section
set_option linter.unusedVariables false
set_option linter.unusedSimpArgs false
set_option linter.unusedSectionVars false
namespace Go.Proofs.E
open Go Go.Proofs.MV Go.Proofs.MI
set_option linter.unusedVariables false
set_option maxRecDepth 10000
variable {L : Nat → (Nat → Option Obj) → Prop}
set_option maxHeartbeats 1000000 in
theorem r08_row (l : List Bool) (hl : l.length ≤ 1000000) : Pure Tryz.prog L 106 [rrrV l] (bitsV l) := by
  refine pure_of_W Tryz.func106 rfl rfl (by kernel_rfl) [77] (by unfold rrrV rrrC; exact closed) (by unfold bitsV; exact closed) fun A hL => ?_
  have hnb : (l.length + 14) / 15 = MK.nb l := rfl
  have hgl := classG_length l (MK.nb l)
  have hpn := MK.pts_le l (MK.nb l)
  have hcl := r03_list (L := L) 4 (classG l (MK.nb l)) (by decide) (by decide) (by rw [hgl]; omega) (by rw [hgl]; exact class_lt l _)
  rw [ints_class] at hcl
  rw [hgl] at hcl
  have hsl := fun p n a b => r02_slice (L := L) (MK.offs l (MK.nb l)) (show MK.pts l (MK.nb l) ≤ _ by omega) p n a b
  have hfr := r02_from (L := L) l (by omega)
  unfold rrrV rrrC
  unfold bitsV at *
  rw [show (MK.offs l (MK.nb l)).length = MK.pts l (MK.nb l) from rfl] at hsl
  unfold Tryz.f106
  refine go ?_
  refine hcl.does hL (go ?_)
  refine loop_ (fun j : Nat => ⟨[(1, .p 0 0 0), (2, .p 1 0 0), (3, .o 2 (min (15 * j) l.length) 0 (min (15 * j) l.length)), (4, .i .i64 (MK.pts l j : Nat)), (5, .sl false (MK.nb l) (nums .u64 (classG l (MK.nb l)))), (6, .i .i64 j)],
    [⟨41, 0, rrrC l, true⟩, ⟨33, 0, [.i .i64 0, .ns], true⟩, ⟨4, min (15 * j) l.length, bls (l.take (15 * j)), true⟩]⟩)
    (fun j => j ≤ MK.nb l) (fun j => MK.nb l - j) 0 (Nat.zero_le _) (le_virt' 4 (Nat.zero_le _) ?_ (go ?_)) fun j hj => ?_
  · simp [rrrC, bls]
  · simp [MK.pts, MK.offs]
  unfold rrrC
  refine go ?_
  refine ⟨fun h1 => ?_, fun h1 => ?_⟩
  · have hlen : (l.take (15 * j)).length = 15 * j := by rw [List.length_take]; omega
    have hcj : (classG l (MK.nb l)).getD j 0 = MK.cl l j := MB.natmap_getD h1
    have hc15 := MK.cl_le l j
    have hwd : Pure Tryz.prog L 118 [.i .i64 15, .i .i64 (MK.cl l j : Nat)] (.i .i64 (MK.wdt 15 (MK.cl l j) : Nat)) := r06_width 15 (MK.cl l j) (by decide) (by omega)
    have hbl : Pure Tryz.prog L 153 [.i .i64 15, .i .i64 (MK.cl l j : Nat), .i .u64 (MK.of l j : Nat)] (.tup [.i .u64 (MB.dec 15 (MK.cl l j) (MK.of l j) : Nat), .b true]) := r06_block 15 (MK.cl l j) (MK.of l j) (by decide) hc15 (MK.of_ch l j)
    rw [MK.dec_of] at hbl
    have hps := MK.pts_succ l j
    have hpm := MK.pts_mono l (show j + 1 ≤ MK.nb l from h1)
    have hw15 : MK.wdt 15 (MK.cl l j) ≤ 15 := MK.wdt_le
    have hsl' := hsl (MK.pts l j) (MK.wdt 15 (MK.cl l j)) (show MK.pts l j + _ ≤ MK.pts l (MK.nb l) by omega) (by omega)
    rw [MK.offs_piece l h1] at hsl'
    have hbk := MK.bk_lt l j
    have htk := MK.take_bk l j (by omega)
    rw [show min (15 * j) l.length = 15 * j by omega]
    refine gox ?_
    refine hwd.does hL (go ?_)
    refine hsl'.does hL (go ?_)
    refine hbl.does hL (go ?_)
    refine loop_ (fun k : Nat => ⟨[(1, .p 0 0 0), (2, .p 1 0 0), (3, .o 2 (15 * j + k) 0 (15 * j + k)), (4, .i .i64 (MK.pts l j : Nat)), (5, .sl false (MK.nb l) (nums .u64 (classG l (MK.nb l)))), (6, .i .i64 j), (8, .i .i64 (MK.wdt 15 (MK.cl l j) : Nat)), (11, .i .u64 (MK.bk l j : Nat)), (13, .i .i64 k)],
      [⟨41, 0, rrrC l, true⟩, ⟨33, 0, [.i .i64 0, .ns], true⟩, ⟨4, 15 * j + k, bls (l.take (15 * j) ++ bitsOf (MK.bk l j) k), true⟩]⟩)
      (fun k => k ≤ min 15 (l.length - 15 * j)) (fun k => 15 - k) 0 (Nat.zero_le _) (le_slots' (Nat.zero_le _) (by simp [rrrC, bitsOf]) (go ?_)) fun k hk => ?_
    · trivial
    have hbl2 : (l.take (15 * j) ++ bitsOf (MK.bk l j) k).length = 15 * j + k := by rw [List.length_append, hlen, bitsOf_length]
    have hbo := bitsOf_length (MK.bk l j) k
    have hrp : (List.replicate 1 false).length = 1 := rfl
    have fin : ¬ k < min 15 (l.length - 15 * j) → min (15 * (j + 1)) l.length = 15 * j + k ∧ bls (l.take (15 * (j + 1))) = bls (l.take (15 * j) ++ bitsOf (MK.bk l j) k) := fun h => by
      obtain rfl : k = min 15 (l.length - 15 * j) := by omega
      exact ⟨by omega, by rw [htk]⟩
    unfold rrrC
    refine go ?_
    refine ⟨fun h2 => go ?_, fun h2 => go ?_⟩
    · refine ⟨fun h3 => go ?_, fun h3 => go ?_⟩
      · refine ⟨k + 1, by omega, by omega, le_slots' (Nat.zero_le _) ?_ (go ?_)⟩
        · rw [← bitsOf_snoc, ← Nat.add_assoc]; try rfl
        · omega
      · obtain ⟨f1, f2⟩ := fin (by omega)
        refine ⟨j + 1, by omega, by omega, le_slots' (Nat.zero_le _) ?_ (go ?_)⟩
        · rw [f1, f2]
        · omega
    · obtain ⟨f1, f2⟩ := fin (by omega)
      refine ⟨j + 1, by omega, by omega, le_slots' (Nat.zero_le _) ?_ (go ?_)⟩
      · rw [f1, f2]
      · omega
  · obtain rfl : j = MK.nb l := by omega
    have ht : l.take (15 * MK.nb l) = l := List.take_of_length_le (by omega)
    have hmin : min (15 * MK.nb l) l.length = l.length := by omega
    rw [ht, hmin]
    refine go ?_
    refine hfr.does hL (go ?_)
    exact fin_
theorem r08_same (l : List Bool) (hl : l.length ≤ 1000000) : Pure Tryz.prog L 107 [rrrV l, rrrV l] (.b true) := by
  refine pure_of_W Tryz.func107 rfl rfl (by kernel_rfl) [] (by unfold rrrV rrrC; exact closed) closed fun A hL => ?_
  have hnb : (l.length + 14) / 15 = MK.nb l := rfl
  have hpn := MK.pts_le l (MK.nb l)
  have hng : MK.ng l ≤ MK.nb l + 1 := by unfold MK.ng; omega
  have e1 := r03_same (L := L) 4 (classG l (MK.nb l)) (by decide) (by decide) (by rw [classG_length]; omega)
  have e2 := r02_same (L := L) (MK.offs l (MK.nb l)) (show MK.pts l (MK.nb l) ≤ _ by omega)
  have e3 := r07_numbers (L := L) (onesG l (MK.ng l)) (by rw [onesG_length]; omega)
  have e4 := r07_numbers (L := L) (pointsG l (MK.ng l)) (by rw [pointsG_length]; omega)
  rw [ints_class] at e1
  unfold bitsV at e2
  rw [show (MK.offs l (MK.nb l)).length = MK.pts l (MK.nb l) from rfl] at e2
  rw [onesG_length] at e3
  rw [pointsG_length] at e4
  unfold rrrV rrrC
  unfold Tryz.f107
  refine go ?_
  refine e1.does hL (go ?_)
  refine e2.does hL (go ?_)
  refine e3.does hL (go ?_)
  refine e4.does hL (go ?_)
  exact fin_
theorem r08_whole (l : List Bool) (hl : l.length ≤ 1000000) : Pure Tryz.prog L 55 [rrrV l] (.tup [bitsV l, .b true]) := by
  refine pure_of_W Tryz.func55 rfl rfl (by kernel_rfl) [] (by unfold rrrV rrrC; exact closed) (by unfold bitsV; exact closed) fun A hL => ?_
  have hnb : (l.length + 14) / 15 = MK.nb l := rfl
  have hpn := MK.pts_le l (MK.nb l)
  have c1 := r03_check (L := L) 4 (classG l (MK.nb l)) (by decide) (by decide) (by rw [classG_length]; omega)
  rw [ints_class] at c1
  have c2 := r02_check (L := L) (MK.offs l (MK.nb l)) (show MK.pts l (MK.nb l) ≤ _ by omega)
  unfold bitsV at c2
  rw [show (MK.offs l (MK.nb l)).length = MK.pts l (MK.nb l) from rfl] at c2
  have h1 := r08_row (L := L) l hl
  have h2 := r08_build (L := L) l hl
  have h3 := r08_same (L := L) l hl
  unfold rrrV rrrC bitsV at *
  unfold Tryz.f55
  refine go ?_
  refine c1.does hL (go ?_)
  refine c2.does hL (go ?_)
  refine h1.does hL (go ?_)
  refine h2.does hL (go ?_)
  refine h3.does hL (go ?_)
  exact fin_
end Go.Proofs.E
end
/- The reference: rows of bits by the places of ones, built. -/
section
set_option linter.unusedVariables false
set_option linter.unusedSimpArgs false
set_option linter.unusedSectionVars false
namespace Go.Proofs.E
open Go Go.Proofs.MV Go.Proofs.MI
set_option linter.unusedVariables false
set_option maxRecDepth 10000
variable {L : Nat → (Nat → Option Obj) → Prop}
theorem r09_places (l : List Bool) (hl : l.length ≤ 1048576) : Pure Tryz.prog L 120 [bitsV l] (.sl false (MR.cnt l l.length) (nums .i64 (MF.onesTo l l.length))) := by
  refine pure_of_W Tryz.func120 rfl rfl (by kernel_rfl) [] (by unfold bitsV; exact closed) closed fun A hL => ?_
  have hat := fun i (h : i < l.length) => (r02_at (L := L) l hl i h)
  unfold bitsV at *
  unfold Tryz.f120
  refine go ?_
  refine loop_ (fun i : Nat => ⟨[(1, .p 0 0 0), (3, .o 1 (MR.cnt l i) 0 (MR.cnt l i)), (4, .i .i64 i)], [⟨33, 0, [.i .i64 (l.length : Nat), .sl false (wc l) (nums .u64 (wn l (wc l)))], true⟩, ⟨3, MR.cnt l i, nums .i64 (MF.onesTo l i), true⟩]⟩) (fun i => i ≤ l.length) (fun i => l.length - i) 0 (Nat.zero_le _) (le_virt' 3 (Nat.zero_le _) rfl (go ?_)) fun i hi => ?_
  · exact rfl
  have hcl := MR.cnt_le l i
  have hol := MF.onesTo_length l i
  refine go ?_
  refine ⟨fun h1 => go ?_, fun h1 => go ?_⟩
  · refine (hat i h1).does hL (go ?_)
    refine onCb (fun hx => go ?_) (fun hx => go ?_)
    · refine ⟨i + 1, by omega, by omega, le_slots' (Nat.zero_le _) ?_ (go ?_)⟩
      · rw [cnt_t hx, show MF.onesTo l (i + 1) = MF.onesTo l i ++ [i] by rw [MF.onesTo, hx]; rfl]
      · rw [cnt_t hx]
    · refine ⟨i + 1, by omega, by omega, le_slots' (Nat.zero_le _) ?_ (go ?_)⟩
      · rw [cnt_f hx, show MF.onesTo l (i + 1) = MF.onesTo l i by rw [MF.onesTo, hx]; simp]
      · rw [cnt_f hx]
  · obtain rfl : i = l.length := by omega
    exact fin_
theorem r09_width (n m : Nat) (hn : n < 2 ^ 20) (hm : m ≤ n) : Pure Tryz.prog L 157 [.i .i64 n, .i .i64 m] (.i .i64 (fw n m : Nat)) := by
  refine pure_of_W Tryz.func157 rfl rfl (by kernel_rfl) [] closed closed fun A hL => ?_
  unfold fw Tryz.f157
  by_cases h1 : m = 0
  · refine go ?_
    exact fin_
  · have hle : n / m ≤ n := Nat.div_le_self _ _
    have h0 : 0 < n / m := Nat.div_pos hm (by omega)
    obtain ⟨d, hd⟩ : ∃ d, n / m = d := ⟨_, rfl⟩
    rw [hd] at hle h0
    have e : Lib.bitLen d = Lib.bitLenAux 64 d := rfl
    have hb : 1 ≤ Lib.bitLen d := by
      rw [e]
      obtain ⟨_, h2, _⟩ := Lib.bitLenAux_bounds 64 d (by omega) (by omega)
      rcases Nat.eq_zero_or_pos (Lib.bitLenAux 64 d) with h | h
      · rw [h] at h2; simp at h2; omega
      · exact h
    have hb2 := MI.bitLen_le 64 d 20 (by omega)
    rw [← e] at hb2
    clear e
    refine gox ?_
    refine (r01_len d (by omega)).does hL (go ?_)
    exact fin_
def loI (l : List Bool) (w i : Nat) : List Nat := if w = 0 then [] else loTo l w i
theorem loI_pos {l : List Bool} {w : Nat} (h : 0 < w) (i : Nat) : loI l w i = loTo l w i := if_neg (by omega)
theorem loI_zero {l : List Bool} {w : Nat} (h : ¬ 0 < w) (i : Nat) : loI l w i = [] := if_pos (by omega)
def ofS (l : List Bool) (w i : Nat) : St := ⟨[(0, .i .i64 (l.length : Nat)), (1, .sl false (MR.cnt l l.length) (nums .i64 (MF.onesTo l l.length))), (4, .p 0 0 0), (6, .i .i64 w), (7, .p 1 0 0), (8, .o 2 0 0 (hn l w)), (9, .o 3 (loI l w i).length 0 (loI l w i).length), (10, .i .i64 i)],
  [⟨43, 0, [.i .i64 0, .i .i64 0, .i .i64 0, .i .i64 0, .i .i64 0, .ns, .i .i64 0, .ns], true⟩, ⟨43, 0, [.i .i64 (l.length : Nat), .i .i64 (MR.cnt l l.length : Nat), .i .i64 0, .i .i64 0, .i .i64 0, .ns, .i .i64 0, .ns], true⟩, ⟨4, 0, bls (MF.hiTo l w i), true⟩, ⟨95, (loI l w i).length, nums .u64 (loI l w i), true⟩]⟩
set_option maxHeartbeats 1000000 in
theorem r09_of (l : List Bool) (hl : l.length ≤ 40000) : Pure Tryz.prog L 109 [.i .i64 (l.length : Nat), .sl false (MR.cnt l l.length) (nums .i64 (MF.onesTo l l.length))] (.tup [fanoV l, .i .i64 0]) := by
  refine pure_of_W Tryz.func109 rfl rfl (by kernel_rfl) [66, 71] closed (by unfold fanoV fanoC; exact closed) fun A hL => ?_
  have h2 := MR.cnt_le l l.length
  have h3 : wF l ≤ 19 := fw_le (by omega)
  have hwd := r09_width (L := L) l.length (MR.cnt l l.length) (by omega) h2
  rw [show fw l.length (MR.cnt l l.length) = wF l from rfl] at hwd
  have hhn : hn l (wF l) = MR.cnt l l.length + l.length / 2 ^ wF l + 1 := rfl
  have hnd : l.length / 2 ^ wF l ≤ l.length := Nat.div_le_self _ _
  have hoz := hiTo_zero l (wF l)
  have hol := MF.onesTo_length l l.length
  have hp64 := pow64 (show wF l < 64 by omega)
  obtain ⟨d, hd⟩ : ∃ d, l.length / 2 ^ wF l = d := ⟨_, rfl⟩
  rw [hd] at hhn hnd
  have hhn' : MR.cnt l l.length + d + 1 = hn l (wF l) := hhn.symm
  clear hhn
  have hli0 : loI l (wF l) 0 = [] := by unfold loI; split <;> rfl
  unfold fanoV fanoC
  rw [hiF_length l]
  unfold Tryz.f109
  refine go ?_
  refine hwd.does hL (gox ?_)
  refine loop_ (fun i : Nat => ofS l (wF l) i) (fun i => i ≤ MR.cnt l l.length) (fun i => MR.cnt l l.length - i) 0 (Nat.zero_le _) (Le.trans (le_slots' (Nat.zero_le _) ?_ (go ?_)) (le_virt 95 (T' := [(0, .i .i64 (l.length : Nat)), (1, .sl false (MR.cnt l l.length) (nums .i64 (MF.onesTo l l.length))), (4, .p 0 0 0), (6, .i .i64 (wF l : Nat)), (7, .p 1 0 0), (8, .o 2 0 0 (hn l (wF l))), (9, .o 3 0 0 0), (10, .i .i64 0)]) (Nat.zero_le _) (go ?_))) fun i hi => ?_
  · simp [ofS, hli0, nums]
  · rw [hli0]; rfl
  · trivial
  have hpg : (MF.onesTo l l.length).getD i 0 = MF.pl l i := rfl
  have hln := MF.hiTo_length l (wF l) i
  rw [show MR.cnt l l.length + l.length / 2 ^ wF l + 1 = hn l (wF l) from rfl] at hln
  by_cases h1 : i < MR.cnt l l.length
  · have hpl : MF.pl l i < l.length := (MF.onesTo_at l l.length i h1).1
    have hdl : MF.pl l i / 2 ^ wF l ≤ MF.pl l i := Nat.div_le_self _ _
    have hfit := MF.place_fits l (wF l) h1
    rw [show MR.cnt l l.length + l.length / 2 ^ wF l + 1 = hn l (wF l) from rfl] at hfit
    have hsu := (MF.hiTo_succ l (wF l) i h1).symm
    obtain ⟨e, he⟩ : ∃ e, MF.pl l i / 2 ^ wF l = e := ⟨_, rfl⟩
    rw [he] at hfit hsu hdl
    by_cases hw0 : 0 < wF l
    · have hlo := loTo_snoc l (wF l) i
      have hll := loTo_length l (wF l) i
      have hll' := loTo_length l (wF l) (i + 1)
      have hml := Nat.mod_le (MF.pl l i) (2 ^ wF l)
      have h2p := Nat.two_pow_pos (wF l)
      unfold ofS
      rw [loI_pos hw0 i]
      refine gox ?_
      refine ⟨i + 1, by omega, by omega, le_slots' (Nat.zero_le _) ?_ (go ?_)⟩
      · rw [loI_pos hw0 (i + 1), hll']
      · rw [loI_pos hw0 (i + 1), hll']
    · unfold ofS
      rw [loI_zero hw0 i]
      refine gox ?_
      refine ⟨i + 1, by omega, by omega, le_slots' (Nat.zero_le _) ?_ (go ?_)⟩
      · rw [loI_zero hw0 (i + 1)]; rfl
      · rw [loI_zero hw0 (i + 1)]; rfl
  · obtain rfl : i = MR.cnt l l.length := by omega
    have hlf : loI l (wF l) (MR.cnt l l.length) = loF l := rfl
    have hhf : MF.hiTo l (wF l) (MR.cnt l l.length) = hiF l := rfl
    have q1 := loF_le l
    have q2 : mF l ≤ l.length := MR.cnt_le l l.length
    have q4 : 1 ≤ dF l ∧ dF l ≤ 19 := by unfold dF; omega
    have q5 : (loF l).length * dF l ≤ 40000 * 19 := Nat.mul_le_mul (by omega) q4.2
    have hmk := r03_make (L := L) (dF l) (loF l) (by omega) (by omega) (by omega) (lo_lt l)
    unfold intsV at hmk
    have hln := hiF_length l
    have hfr := r02_from (L := L) (hiF l) (by omega)
    unfold bitsV at hfr
    rw [hln] at hfr
    have hmx : (if wF l < 1 then (1 : Int) else (wF l : Nat)) = (dF l : Nat) := by unfold dF; split <;> omega
    unfold ofS
    rw [hlf, hhf]
    clear hoz hd hhn' hpg hlf hhf
    refine gox ?_
    refine hmk.does hL (gox ?_)
    refine hfr.does hL (gox ?_)
    refine regT 4 3 0 [] [] (fun x y => [⟨43, 0, [.i .i64 0, .i .i64 0, .i .i64 0, .i .i64 0, .i .i64 0, .ns, .i .i64 0, .ns], true⟩, if x = true then ⟨43, 0, [.i .i64 (l.length : Nat), .i .i64 (MR.cnt l l.length : Nat), .i .i64 ((loF l).length : Nat), .i .i64 (dF l : Nat), .i .i64 ((loF l).length * dF l : Nat), .sl false (wc (flat (dF l) (loF l))) (nums .u64 (wn (flat (dF l) (loF l)) (wc (flat (dF l) (loF l))))), .i .i64 0, .ns], true⟩ else ⟨43, 0, [.i .i64 (l.length : Nat), .i .i64 (MR.cnt l l.length : Nat), .i .i64 0, .i .i64 0, .i .i64 0, .ns, .i .i64 0, .ns], true⟩, ⟨4, 0, bls (hiF l), false⟩, ⟨95, (loF l).length, nums .u64 (loF l), false⟩, ⟨39, 0, [.i .i64 ((loF l).length : Nat), .i .i64 (dF l : Nat), .i .i64 ((loF l).length * dF l : Nat), .sl false (wc (flat (dF l) (loF l))) (nums .u64 (wn (flat (dF l) (loF l)) (wc (flat (dF l) (loF l)))))], true⟩, ⟨33, 0, [.i .i64 (hn l (wF l) : Nat), .sl false (wc (hiF l)) (nums .u64 (wn (hiF l) (wc (hiF l))))], true⟩]) (by kernel_rfl) (by kernel_rfl) (by kernel_rfl) rfl ?t1 (fun x y => ?_) ?_
    rotate_left
    · cases x <;> cases y <;> (refine gox ?_; first | exact True.intro | rfl)
    refine go ?_
    exact fin_
end Go.Proofs.E
end
/- The reference: rows of bits by the places of ones, read. -/
section
set_option linter.unusedVariables false
set_option linter.unusedSimpArgs false
set_option linter.unusedSectionVars false
namespace Go.Proofs.E
open Go Go.Proofs.MV Go.Proofs.MI
set_option linter.unusedVariables false
set_option maxRecDepth 10000
variable {L : Nat → (Nat → Option Obj) → Prop}
theorem fano_facts (l : List Bool) (hl : l.length ≤ 40000) : (loF l).length ≤ MR.cnt l l.length ∧ MR.cnt l l.length ≤ l.length ∧ wF l ≤ 19 ∧ 1 ≤ dF l ∧ dF l ≤ 19 ∧ (loF l).length * dF l ≤ 40000 * 19 ∧ (hiF l).length ≤ 80001 := by
  have h1 : (loF l).length ≤ MR.cnt l l.length := loF_le l
  have h2 := MR.cnt_le l l.length
  have h3 : wF l ≤ 19 := fw_le (by omega)
  have h4 : 1 ≤ dF l ∧ dF l ≤ 19 := by unfold dF; omega
  have h5 : l.length / 2 ^ wF l ≤ l.length := Nat.div_le_self _ _
  refine ⟨h1, h2, h3, h4.1, h4.2, Nat.mul_le_mul (by omega) h4.2, ?_⟩
  rw [hiF_length]; unfold hn; omega
theorem r09_same (l : List Bool) (hl : l.length ≤ 40000) : Pure Tryz.prog L 110 [fanoV l, fanoV l] (.b true) := by
  refine pure_of_W Tryz.func110 rfl rfl (by kernel_rfl) [] (by unfold fanoV fanoC; exact closed) closed fun A hL => ?_
  obtain ⟨h1, h2, h3, h4, h5, h6, h7⟩ := fano_facts l hl
  have e1 := r03_same (L := L) (dF l) (loF l) (by omega) (by omega) (by omega)
  have e2 := r02_same (L := L) (hiF l) (by omega)
  unfold fanoV fanoC
  unfold intsV bitsV at *
  unfold Tryz.f110
  refine go ?_
  refine e1.does hL (go ?_)
  refine e2.does hL (go ?_)
  exact fin_
theorem onesTo_take (l : List Bool) {i : Nat} (h : i < MR.cnt l l.length) : (MF.onesTo l l.length).take i ++ [MF.pl l i] = (MF.onesTo l l.length).take (i + 1) := take_snoc (by rw [MF.onesTo_length]; exact h)
set_option maxHeartbeats 1000000 in
theorem r09_row (l : List Bool) (hl : l.length ≤ 40000) : Pure Tryz.prog L 108 [fanoV l] (.tup [.sl false (MR.cnt l l.length) (nums .i64 (MF.onesTo l l.length)), .b true]) := by
  refine pure_of_W Tryz.func108 rfl rfl (by kernel_rfl) [] (by unfold fanoV fanoC; exact closed) closed fun A hL => ?_
  obtain ⟨h1, h2, h3, h4, h5, h6, h7⟩ := fano_facts l hl
  have hic := r03_check (L := L) (dF l) (loF l) (by omega) (by omega) (by omega)
  have hil := r03_list (L := L) (dF l) (loF l) (by omega) (by omega) (by omega) (lo_lt l)
  have hck := r02_check (L := L) (hiF l) (by omega)
  have hpl := r09_places (L := L) (hiF l) (by omega)
  have hall : MR.cnt (hiF l) (hiF l).length = MR.cnt l l.length := MF.hi_all l (wF l)
  have hol := MF.onesTo_length (hiF l) (hiF l).length
  have hwd := r09_width (L := L) l.length (MR.cnt l l.length) (by omega) h2
  rw [show fw l.length (MR.cnt l l.length) = wF l from rfl] at hwd
  rw [hall] at hpl hol
  have hlow : 0 < wF l → (loF l).length = MR.cnt l l.length ∧ ∀ i, i < MR.cnt l l.length → (loF l).getD i 0 = MF.pl l i % 2 ^ wF l := fun h => by
    have e : loF l = loTo l (wF l) (MR.cnt l l.length) := by unfold loF; rw [if_neg (by omega)]; rfl
    rw [e]; exact ⟨loTo_length _ _ _, fun i hi => MB.natmap_getD hi⟩
  have hp64 := pow64 (show wF l < 64 by omega)
  unfold fanoV fanoC
  unfold intsV bitsV at *
  unfold Tryz.f108
  refine go ?_
  refine hic.does hL (go ?_)
  refine hck.does hL (go ?_)
  refine hwd.does hL (go ?_)
  refine hil.does hL (go ?_)
  refine hpl.does hL (go ?_)
  by_cases hw0 : 0 < wF l
  · obtain ⟨hll, hlg⟩ := hlow hw0
    have hll1 : (loF l).length ≤ MR.cnt l l.length := by omega
    have hll2 : MR.cnt l l.length ≤ (loF l).length := by omega
    clear hll
    refine go ?_
    refine loop_ (fun i : Nat => ⟨[(1, .p 0 0 0), (4, .i .i64 (wF l : Nat)), (5, .sl false (loF l).length (nums .u64 (loF l))), (6, .sl false (MR.cnt l l.length) (nums .i64 (MF.onesTo (hiF l) (hiF l).length))), (7, .o 1 i 0 i), (8, .i .i64 i)],
      [⟨43, 0, fanoC l, true⟩, ⟨3, i, nums .i64 ((MF.onesTo l l.length).take i), true⟩]⟩) (fun i => i ≤ MR.cnt l l.length) (fun i => MR.cnt l l.length - i) 0 (Nat.zero_le _) (le_virt' 3 (Nat.zero_le _) (by unfold fanoC; rfl) (go ?_)) fun i hi => ?_
    · trivial
    have hrow : ((MF.onesTo l l.length).take i).length = i := by rw [List.length_take, MF.onesTo_length]; omega
    unfold fanoC
    by_cases hin : i < MR.cnt l l.length
    · have hpl : MF.pl l i < l.length := (MF.onesTo_at l l.length i hin).1
      have hhg : (MF.onesTo (hiF l) (hiF l).length).getD i 0 = MF.pl l i / 2 ^ wF l + i := pl_hi l (wF l) i hin
      have hts := onesTo_take l hin
      have hdm : 2 ^ wF l * (MF.pl l i / 2 ^ wF l) + MF.pl l i % 2 ^ wF l = MF.pl l i := Nat.div_add_mod _ _
      have hmu : MF.pl l i / 2 ^ wF l * 2 ^ wF l = MF.pl l i - MF.pl l i % 2 ^ wF l := by rw [Nat.mul_comm]; omega
      have hml := Nat.mod_le (MF.pl l i) (2 ^ wF l)
      have hmm : MF.pl l i % 2 ^ wF l % 2 ^ wF l = MF.pl l i % 2 ^ wF l := Nat.mod_mod _ _
      have hle : MF.pl l i / 2 ^ wF l ≤ MF.pl l i := Nat.div_le_self _ _
      have h2p := Nat.two_pow_pos (wF l)
      have hpv : 0 < i → MF.pl l (i - 1) < MF.pl l i ∧ ((MF.onesTo l l.length).take i).getD (i - 1) 0 = MF.pl l (i - 1) := fun h => ⟨MF.pl_lt l (by omega) hin, take_getD (by omega)⟩
      have hlgi := hlg i hin
      clear hlg hlow
      generalize hd : MF.pl l i / 2 ^ wF l = d at *
      generalize hr : MF.pl l i % 2 ^ wF l = r at *
      clear hd hr hdm
      have hadd : MF.pl l i - r + r = MF.pl l i := by omega
      refine gox ?_
      skip
      refine ⟨fun h8 => ?_, fun h8 => gox ?_⟩
      · obtain ⟨q1, q2⟩ := hpv h8
        refine gox ?_
        exact ⟨i + 1, by omega, by omega, le_slots' (Nat.zero_le _) (by rw [← hts]) (go trivial)⟩
      · exact ⟨i + 1, by omega, by omega, le_slots' (Nat.zero_le _) (by rw [← hts]) (go trivial)⟩
    · obtain rfl : i = MR.cnt l l.length := by omega
      have hta : (MF.onesTo l l.length).take (MR.cnt l l.length) = MF.onesTo l l.length := List.take_of_length_le (by rw [MF.onesTo_length]; exact Nat.le_refl _)
      rw [hta]
      have hol' := MF.onesTo_length l l.length
      refine gox ?_
      exact fin_
  · refine go ?_
    refine loop_ (fun i : Nat => ⟨[(1, .p 0 0 0), (4, .i .i64 (wF l : Nat)), (5, .sl false (loF l).length (nums .u64 (loF l))), (6, .sl false (MR.cnt l l.length) (nums .i64 (MF.onesTo (hiF l) (hiF l).length))), (7, .o 1 i 0 i), (8, .i .i64 i)],
      [⟨43, 0, fanoC l, true⟩, ⟨3, i, nums .i64 ((MF.onesTo l l.length).take i), true⟩]⟩) (fun i => i ≤ MR.cnt l l.length) (fun i => MR.cnt l l.length - i) 0 (Nat.zero_le _) (le_virt' 3 (Nat.zero_le _) (by unfold fanoC; rfl) (go ?_)) fun i hi => ?_
    · trivial
    have hrow : ((MF.onesTo l l.length).take i).length = i := by rw [List.length_take, MF.onesTo_length]; omega
    unfold fanoC
    by_cases hin : i < MR.cnt l l.length
    · have hpl : MF.pl l i < l.length := (MF.onesTo_at l l.length i hin).1
      have hhg : (MF.onesTo (hiF l) (hiF l).length).getD i 0 = MF.pl l i / 2 ^ wF l + i := pl_hi l (wF l) i hin
      have hts := onesTo_take l hin
      have hdm : 2 ^ wF l * (MF.pl l i / 2 ^ wF l) + MF.pl l i % 2 ^ wF l = MF.pl l i := Nat.div_add_mod _ _
      have hmu : MF.pl l i / 2 ^ wF l * 2 ^ wF l = MF.pl l i - MF.pl l i % 2 ^ wF l := by rw [Nat.mul_comm]; omega
      have hml := Nat.mod_le (MF.pl l i) (2 ^ wF l)
      have hmm : MF.pl l i % 2 ^ wF l % 2 ^ wF l = MF.pl l i % 2 ^ wF l := Nat.mod_mod _ _
      have hle : MF.pl l i / 2 ^ wF l ≤ MF.pl l i := Nat.div_le_self _ _
      have h2p := Nat.two_pow_pos (wF l)
      have hpv : 0 < i → MF.pl l (i - 1) < MF.pl l i ∧ ((MF.onesTo l l.length).take i).getD (i - 1) 0 = MF.pl l (i - 1) := fun h => ⟨MF.pl_lt l (by omega) hin, take_getD (by omega)⟩
      have hmz : MF.pl l i % 2 ^ wF l = 0 := by rw [show wF l = 0 by omega, Nat.pow_zero, Nat.mod_one]
      generalize hd : MF.pl l i / 2 ^ wF l = d at *
      generalize hr : MF.pl l i % 2 ^ wF l = r at *
      clear hd hr hdm
      have hadd : MF.pl l i - r + r = MF.pl l i := by omega
      refine gox ?_
      skip
      refine ⟨fun h8 => ?_, fun h8 => gox ?_⟩
      · obtain ⟨q1, q2⟩ := hpv h8
        refine gox ?_
        exact ⟨i + 1, by omega, by omega, le_slots' (Nat.zero_le _) (by rw [← hts]) (go trivial)⟩
      · exact ⟨i + 1, by omega, by omega, le_slots' (Nat.zero_le _) (by rw [← hts]) (go trivial)⟩
    · obtain rfl : i = MR.cnt l l.length := by omega
      have hta : (MF.onesTo l l.length).take (MR.cnt l l.length) = MF.onesTo l l.length := List.take_of_length_le (by rw [MF.onesTo_length]; exact Nat.le_refl _)
      rw [hta]
      have hol' := MF.onesTo_length l l.length
      refine gox ?_
      exact fin_
end Go.Proofs.E
end
/- The reference: rows of bits by the places of ones, whole. -/
section
set_option linter.unusedVariables false
set_option linter.unusedSimpArgs false
set_option linter.unusedSectionVars false
namespace Go.Proofs.E
open Go Go.Proofs.MV Go.Proofs.MI
set_option linter.unusedVariables false
set_option maxRecDepth 10000
variable {L : Nat → (Nat → Option Obj) → Prop}
theorem r09_whole (l : List Bool) (hl : l.length ≤ 40000) : Pure Tryz.prog L 56 [fanoV l] (.tup [bitsV l, .b true]) := by
  refine pure_of_W Tryz.func56 rfl rfl (by kernel_rfl) [52] (by unfold fanoV fanoC; exact closed) (by unfold bitsV; exact closed) fun A hL => ?_
  have hro := r09_row (L := L) l hl
  have hof := r09_of (L := L) l hl
  have hsa := r09_same (L := L) l hl
  have hfr := r02_from (L := L) l (by omega)
  have hcl := MR.cnt_le l l.length
  have hoz := outTo_zero l
  have hoa := outTo_all l
  unfold fanoV at *
  unfold fanoC bitsV at *
  unfold Tryz.f56
  refine go ?_
  refine hro.does hL (go ?_)
  refine hof.does hL (go ?_)
  refine hsa.does hL (go ?_)
  refine loop_ (fun i : Nat => ⟨[(2, .p 1 0 0), (4, .sl false (MR.cnt l l.length) (nums .i64 (MF.onesTo l l.length))), (8, .o 3 0 0 l.length), (9, .i .i64 i)],
    [⟨43, 0, fanoC l, true⟩, ⟨33, 0, [.i .i64 0, .ns], true⟩, ⟨43, 0, fanoC l, true⟩, ⟨4, 0, bls (outTo l i), true⟩]⟩) (fun i => i ≤ MR.cnt l l.length) (fun i => MR.cnt l l.length - i) 0 (Nat.zero_le _) (le_slots' (Nat.zero_le _) (by rw [← hoz]; rfl) (go ?_)) fun i hi => ?_
  · trivial
  have hol := outTo_length l i
  unfold fanoC
  by_cases hin : i < MR.cnt l l.length
  · have hpl : MF.pl l i < l.length := (MF.onesTo_at l l.length i hin).1
    have hpg : (MF.onesTo l l.length).getD i 0 = MF.pl l i := rfl
    have hos := outTo_succ l i hin
    have hol2 := MF.onesTo_length l l.length
    clear hoz hoa
    refine gox ?_
    exact ⟨i + 1, by omega, by omega, le_slots' (Nat.zero_le _) rfl (go trivial)⟩
  · obtain rfl : i = MR.cnt l l.length := by omega
    rw [hoa]
    clear hoz hoa hol
    refine go ?_
    refine hfr.does hL (go ?_)
    exact fin_
end Go.Proofs.E
end
/- The reference: rows of bits of one of the kinds. -/
section
set_option linter.unusedVariables false
set_option linter.unusedSimpArgs false
set_option linter.unusedSectionVars false
namespace Go.Proofs.E
open Go Go.Proofs.MV Go.Proofs.MI
set_option linter.unusedVariables false
set_option maxRecDepth 10000
variable {L : Nat → (Nat → Option Obj) → Prop}
theorem r10_none_no (n m : Nat) (ws : List Nat) (h : 0 < n) : Pure Tryz.prog L 102 [.agg [.i .i64 n, .sl false m (nums .u64 ws)]] (.b false) := by
  refine pure_of_W Tryz.func102 rfl rfl (by kernel_rfl) [] closed closed fun A hL => ?_
  unfold Tryz.f102
  refine go ?_
  exact fin_
theorem r10_none_0 : Pure Tryz.prog L 102 [.agg [.i .i64 0, zS]] (.b true) := by
  unfold zS
  refine pure_of_W Tryz.func102 rfl rfl (by kernel_rfl) [] closed closed fun A hL => ?_
  unfold Tryz.f102
  refine go ?_
  exact fin_
theorem r10_nones_0 : Pure Tryz.prog L 103 [.agg [.i .i64 0, .i .i64 0, .i .i64 0, zS]] (.b true) := by
  have h := r10_none_0 (L := L)
  unfold zS at *
  refine pure_of_W Tryz.func103 rfl rfl (by kernel_rfl) [] closed closed fun A hL => ?_
  unfold Tryz.f103
  refine go ?_
  refine h.does hL (go ?_)
  exact fin_
theorem r10_nones_no (n d k m : Nat) (ws : List Nat) (h : 0 < d) : Pure Tryz.prog L 103 [.agg [.i .i64 n, .i .i64 d, .i .i64 k, .sl false m (nums .u64 ws)]] (.b false) := by
  refine pure_of_W Tryz.func103 rfl rfl (by kernel_rfl) [] closed closed fun A hL => ?_
  unfold Tryz.f103
  refine go ?_
  refine ⟨fun h1 => go ?_, fun h1 => go ?_⟩
  · exact fin_
  · exact fin_
theorem len_zero {l : List Bool} (h : l.length = 0) : l = [] := List.length_eq_zero_iff.1 h
set_option maxHeartbeats 1000000 in
theorem r10_zero (kind : Nat) (hk : kind = 1 ∨ kind = 2 ∨ kind = 3) (l : List Bool) (hl : l.length ≤ 40000) : Pure Tryz.prog L 53 [vecV kind l] (.b true) := by
  have n0 := r10_none_0 (L := L)
  have n1 := r10_nones_0 (L := L)
  refine pure_of_W Tryz.func53 rfl rfl (by kernel_rfl) [] (args_below (vec_below 0 kind l hk) (fun _ h => absurd h (List.not_mem_nil))) closed fun A hL => ?_
  have hnb : (l.length + 14) / 15 = MK.nb l := rfl
  have hng : MK.ng l = (max (MK.nb l) 1 + 7) / 8 := rfl
  have hd : 0 < dF l := by unfold dF; omega
  unfold zS at *
  unfold Tryz.f53
  have hn : Pure Tryz.prog L 102 [.agg [.i .i64 (l.length : Nat), .sl false (wc l) (nums .u64 (wn l (wc l)))]] (.b (decide (l.length = 0))) := by
    by_cases h0 : l.length = 0
    · obtain rfl := len_zero h0
      exact n0
    · rw [decide_eq_false h0]; exact r10_none_no _ _ _ (by omega)
  have hc := r10_nones_no (L := L) (MK.nb l) 4 (MK.nb l * 4) (wc (flat 4 (classG l (MK.nb l)))) (wn (flat 4 (classG l (MK.nb l))) (wc (flat 4 (classG l (MK.nb l))))) (by decide)
  have hf := r10_nones_no (L := L) (loF l).length (dF l) ((loF l).length * dF l) (wc (flat (dF l) (loF l))) (wn (flat (dF l) (loF l)) (wc (flat (dF l) (loF l)))) hd
  have hn : Pure Tryz.prog L 102 [.agg [.i .i64 (l.length : Nat), .sl false (wc l) (nums .u64 (wn l (wc l)))]] (.b (decide (l.length = 0))) := by
    by_cases h0 : l.length = 0
    · obtain rfl := len_zero h0
      exact n0
    · rw [decide_eq_false h0]; exact r10_none_no _ _ _ (by omega)
  have hc := r10_nones_no (L := L) (MK.nb l) 4 (MK.nb l * 4) (wc (flat 4 (classG l (MK.nb l)))) (wn (flat 4 (classG l (MK.nb l))) (wc (flat 4 (classG l (MK.nb l))))) (by decide)
  have hf := r10_nones_no (L := L) (loF l).length (dF l) ((loF l).length * dF l) (wc (flat (dF l) (loF l))) (wn (flat (dF l) (loF l)) (wc (flat (dF l) (loF l)))) hd
  have hwc : (l.length + 63) / 64 = wc l := rfl
  have hn : Pure Tryz.prog L 102 [.agg [.i .i64 (l.length : Nat), .sl false (wc l) (nums .u64 (wn l (wc l)))]] (.b (decide (l.length = 0))) := by
    by_cases h0 : l.length = 0
    · obtain rfl := len_zero h0
      exact n0
    · rw [decide_eq_false h0]; exact r10_none_no _ _ _ (by omega)
  have hc := r10_nones_no (L := L) (MK.nb l) 4 (MK.nb l * 4) (wc (flat 4 (classG l (MK.nb l)))) (wn (flat 4 (classG l (MK.nb l))) (wc (flat 4 (classG l (MK.nb l))))) (by decide)
  have hf := r10_nones_no (L := L) (loF l).length (dF l) ((loF l).length * dF l) (wc (flat (dF l) (loF l))) (wn (flat (dF l) (loF l)) (wc (flat (dF l) (loF l)))) hd
  rcases hk with rfl | rfl | rfl
  · rw [vec_1]
    simp only [plainC, zR, zF, zS, List.cons_append, List.nil_append]
    refine go ?_
    refine hn.does hL (go ?_)
    refine ⟨fun h0 => go ?_, fun h0 => go ?_⟩
    · refine n1.does hL (go ?_)
      refine n0.does hL (go ?_)
      refine n1.does hL (go ?_)
      refine n0.does hL (go ?_)
      exact fin_
    · refine n1.does hL (go ?_)
      refine n0.does hL (go ?_)
      refine n1.does hL (go ?_)
      refine n0.does hL (go ?_)
      exact fin_
  · rw [vec_2]
    simp only [rrrC, zP, zF, zS, List.cons_append, List.nil_append]
    refine go ?_
    refine n0.does hL (go ?_)
    refine ⟨fun h0 => go ?_, fun h0 => go ?_⟩
    · refine hc.does hL (go ?_)
      refine n1.does hL (go ?_)
      refine n0.does hL (go ?_)
      exact fin_
    · refine n1.does hL (go ?_)
      refine n0.does hL (go ?_)
      exact fin_
  · rw [vec_3]
    simp only [fanoC, zP, zR, zS, List.cons_append, List.nil_append]
    refine go ?_
    refine n0.does hL (go ?_)
    refine n1.does hL (go ?_)
    refine n0.does hL (go ?_)
    refine ⟨fun h0 => go ?_, fun h0 => go ?_⟩
    · refine ⟨fun h1 => go ?_, fun h1 => go ?_⟩
      · refine hf.does hL (go ?_)
        exact fin_
      · exact fin_
    · exact fin_
theorem r10_whole (kind : Nat) (hk : kind = 1 ∨ kind = 2 ∨ kind = 3) (l : List Bool) (hl : l.length ≤ 40000) : Pure Tryz.prog L 32 [vecV kind l] (.tup [bitsV l, .b true]) := by
  refine pure_of_W Tryz.func32 rfl rfl (by kernel_rfl) [] (args_below (vec_below 0 kind l hk) (fun _ h => absurd h (List.not_mem_nil))) (by unfold bitsV; exact closed) fun A hL => ?_
  have hz := r10_zero (L := L) kind hk l hl
  have h1 := r07_whole (L := L) l (by omega)
  have h2 := r08_whole (L := L) l (by omega)
  have h3 := r09_whole (L := L) l hl
  unfold plainV rrrV fanoV bitsV at *
  unfold Tryz.f32
  rcases hk with rfl | rfl | rfl
  · rw [vec_1] at *
    simp only [plainC, zR, zF, zS, List.cons_append, List.nil_append] at *
    refine go ?_
    refine hz.does hL (go ?_)
    refine h1.does hL (go ?_)
    exact fin_
  · rw [vec_2] at *
    simp only [rrrC, zP, zF, zS, List.cons_append, List.nil_append] at *
    refine go ?_
    refine hz.does hL (go ?_)
    refine h2.does hL (go ?_)
    exact fin_
  · rw [vec_3] at *
    simp only [fanoC, zP, zR, zS, List.cons_append, List.nil_append] at *
    refine go ?_
    refine hz.does hL (go ?_)
    refine h3.does hL (go ?_)
    exact fin_
theorem r10_bits (kind : Nat) (hk : kind = 1 ∨ kind = 2 ∨ kind = 3) (l : List Bool) (hl : l.length ≤ 40000) : Pure Tryz.prog L 10 [vecV kind l] (bitsV l) := by
  refine pure_of_W Tryz.func10 rfl rfl (by kernel_rfl) [] (args_below (vec_below 0 kind l hk) (fun _ h => absurd h (List.not_mem_nil))) (by unfold bitsV; exact closed) fun A hL => ?_
  have h1 := r10_whole (L := L) kind hk l hl
  unfold bitsV at *
  unfold Tryz.f10
  rcases hk with rfl | rfl | rfl
  · rw [vec_1] at *
    simp only [plainC, zR, zF, zS, List.cons_append, List.nil_append] at *
    refine go ?_
    refine h1.does hL (go ?_)
    exact fin_
  · rw [vec_2] at *
    simp only [rrrC, zP, zF, zS, List.cons_append, List.nil_append] at *
    refine go ?_
    refine h1.does hL (go ?_)
    exact fin_
  · rw [vec_3] at *
    simp only [fanoC, zP, zR, zS, List.cons_append, List.nil_append] at *
    refine go ?_
    refine h1.does hL (go ?_)
    exact fin_
end Go.Proofs.E
end
/- The law of layer 12 that counts the ones of each row. -/
section
set_option linter.unusedVariables false
set_option linter.unusedSimpArgs false
set_option linter.unusedSectionVars false
namespace Go.Proofs.E
open Go Go.Proofs.MV Go.Proofs.MI
set_option linter.unusedVariables false
set_option maxRecDepth 10000
variable {L : Nat → (Nat → Option Obj) → Prop}
/-- How many of the first i symbols have the bit. -/
def onesA (t : List Nat) (l i : Nat) : Nat := ((t.take i).map (MT.bitA l)).count true
theorem onesA_le (t : List Nat) (l i : Nat) : onesA t l i ≤ t.length := Nat.le_trans List.count_le_length (by rw [List.length_map, List.length_take]; omega)
theorem onesA_succ (t : List Nat) (l i : Nat) (h : i < t.length) : onesA t l (i + 1) = onesA t l i + t.getD i 0 / 2 ^ (7 - l) % 2 := by
  unfold onesA
  rw [List.take_succ_eq_append_getElem h, List.map_append, List.count_append, List.map_singleton, List.count_singleton, List.getD_eq_getElem?_getD, List.getElem?_eq_getElem h]
  have e : MT.bitA l t[i] = decide (t[i] / 2 ^ (7 - l) % 2 = 1) := Nat.testBit_eq_decide_div_mod_eq
  rw [e]
  have := Nat.mod_lt (t[i] / 2 ^ (7 - l)) (show 0 < 2 by decide)
  by_cases q : t[i] / 2 ^ (7 - l) % 2 = 1
  · simp [q]
  · have : t[i] / 2 ^ (7 - l) % 2 = 0 := by omega
    simp [this]
theorem lev_ones {t : List Nat} (ht : MT.Bytes t) {l : Nat} (hl : l < 8) : MR.cnt (MT.lev t l) t.length = onesA t l t.length := by
  have h1 := MR.cnt_take (MT.lev t l) t.length (by rw [MT.lev_length ht (by omega)]; exact Nat.le_refl _)
  rw [← h1, List.take_of_length_le (by rw [MT.lev_length ht (by omega)]; exact Nat.le_refl _)]
  unfold onesA
  rw [List.take_length]
  have hp : (MT.pos t l).Perm (List.range t.length) := MT.ordTo_perm _ _ _ (MT.K_lt ht (by omega))
  have hq := hp.map fun i => MT.bitA l (t.getD i 0)
  have e : (List.range t.length).map (fun i => MT.bitA l (t.getD i 0)) = t.map (MT.bitA l) := by
    apply List.ext_getElem (by simp)
    intro j h1 h2
    simp at h1
    simp [List.getD_eq_getElem?_getD, List.getElem?_eq_getElem h1]
  rw [e] at hq
  exact hq.count_eq true
theorem law_TreeLevels (hT : ∀ n c, L n c → TabL n c) (kind : Int) (hk0 : -9223372036854775808 ≤ kind) (hk1 : kind < 9223372036854775808) (t : List Nat) (ht : ∀ x ∈ t, x < 256) :
    Pure Tryz.prog L 3 [.i .i64 kind, .sl false t.length (nums .u8 t)] (.b true) := by
  refine pure_of_W Tryz.func3 rfl rfl (by kernel_rfl) [] closed closed fun A hL => ?_
  have hh := b_heads12 (L := L) hT
  have hB := bytes_of ht
  unfold Tryz.f3
  by_cases hout : (t.length : Int) > 600 ∨ kind < 1 ∨ kind > 3
  · have h3 : (600 : Int) < t.length ∨ (¬ (600 : Int) < t.length ∧ kind < 1) ∨ (¬ (600 : Int) < t.length ∧ ¬ kind < 1 ∧ 3 < kind) := by omega
    clear hB
    rcases h3 with h3 | ⟨h3, h4⟩ | ⟨h3, h4, h5⟩
    all_goals
      refine gox ?_
      refine hh.does hL (gox ?_)
      exact fin_
  obtain ⟨kn, rfl⟩ : ∃ kn : Nat, kind = kn := ⟨kind.toNat, by omega⟩
  have hkn : Kind kn := by unfold Kind; omega
  have hl : t.length ≤ 600 := by omega
  have hb := b_tbuildA (L := L) hT kn hkn t hB (by omega)
  have hk3 : ¬ (3 : Int) < kn := by omega
  have hk4 : ¬ (kn : Int) < 1 := by omega
  have hlc := levC_length kn hkn t 8
  have hlev := fun l (h : l < 8) => levC_get kn hkn t (m := 8) h
  have hll := fun l (h : l < 8) => MT.lev_length hB (l := l) (by omega)
  have hbi := fun l (h : l < 8) => r10_bits (L := L) kn hkn (MT.lev t l) (by rw [hll l h]; omega)
  have hon := fun l (h : l < 8) => r02_ones (L := L) (MT.lev t l) (by rw [hll l h]; omega) t.length (by omega)
  have hlo := fun l (h : l < 8) => lev_ones hB (l := l) h
  have hfr : ∀ H n0, (levC kn t 8).map (frn Tryz.prog H n0 5) = levC kn t 8 := fun H n0 => frn_lev Tryz.prog H n0 3 kn hkn t 8
  have hby := hB.lt
  clear hout
  unfold treeV vecV at *
  refine gox ?_
  refine hb.does hL (gox ?_)
  clear hb
  refine loop_ (fun l : Nat => ⟨[(1, .sl false t.length (nums .u8 t)), (5, .p 0 0 0), (7, .i .i64 l)], [⟨26, 0, [.i .i64 kn, .i .i64 t.length, .sl false 8 (levC kn t 8)], true⟩]⟩) (fun l => l ≤ 8) (fun l => 8 - l) 0 (Nat.zero_le _) (le_slots (Nat.zero_le _) (go ?_)) fun l hl8 => go ?_
  · trivial
  refine ⟨fun h1 => ?_, fun h1 => ?_⟩
  · have e1 := hlev l h1
    have e2 := vec_one kn hkn (MT.lev t l)
    have e3 := vec_length kn hkn (MT.lev t l)
    have hb1 := hbi l h1
    have ho1 := hon l h1
    have hl1 := hlo l h1
    have hll1 := hll l h1
    rw [hll1, Nat.min_self, hl1] at ho1
    unfold bitsV at hb1 ho1
    rw [hll1] at hb1 ho1
    clear hlev hbi hon hlo hll hl1
    refine gox ?_
    refine loop_ (fun i : Nat => ⟨[(1, .sl false t.length (nums .u8 t)), (5, .p 0 0 0), (7, .i .i64 l), (8, .i .i64 (onesA t l i : Nat)), (9, .i .i64 i)], [⟨26, 0, [.i .i64 kn, .i .i64 t.length, .sl false 8 (levC kn t 8)], true⟩]⟩) (fun i => i ≤ t.length) (fun i => t.length - i) 0 (Nat.zero_le _) (le_slots (Nat.zero_le _) (go ?_)) fun i hi => go ?_
    · exact rfl
    refine ⟨fun h2 => ?_, fun h2 => ?_⟩
    · have hs := onesA_succ t l i h2
      have hle := onesA_le t l i
      have hbb := hby i h2
      have hdl : t.getD i 0 / 2 ^ (7 - l) ≤ t.getD i 0 := Nat.div_le_self _ _
      obtain ⟨d, hd⟩ : ∃ d, t.getD i 0 / 2 ^ (7 - l) = d := ⟨_, rfl⟩
      rw [hd] at hdl hs
      refine gox ?_
      refine ⟨i + 1, by omega, by omega, le_slots (Nat.zero_le _) (go ?_)⟩
      omega
    · obtain rfl : i = t.length := by omega
      have hle := onesA_le t l t.length
      refine gox ?_
      refine hb1.does hL (gox ?_)
      refine ho1.does hL (gox ?_)
      refine ⟨l + 1, by omega, by omega, le_gc 1 (Nat.zero_le _) (by simp) ?_ ?_⟩
      · refine go ?_
        simp only [hfr, and_self]
      · refine gox ?_
        first | exact (hfr _ _).symm | trivial
  · obtain rfl : l = 8 := by omega
    refine go ?_
    refine hh.does hL (go ?_)
    exact fin_
end Go.Proofs.E
end
