/- Part 4 of what this claim leans on: ES. -/
import Derived.Test.YtdoooffmaokaeaaGreatDoorZ3
import Derived.Shelf.SlSortCmp.Kit1
/- The machine of values: rows of one's own that a contract of the kit sorts. Of no function. -/
section
set_option linter.unusedVariables false
set_option linter.unusedSimpArgs false
set_option linter.unusedSectionVars false
namespace Go.Proofs.E
open Go Go.Sort
set_option linter.unusedVariables false
set_option linter.unusedSimpArgs false
section
variable {α : Type}
/-- A row of numbers that stand for other things. -/
def rowV (k : IntKind) (φ : α → Int) (d : Array α) : List V := d.toList.map fun x => .i k (φ x)
def encI (k : IntKind) (φ : α → Int) (x : α) : Value := .int k (φ x)
theorem rowV_length (k : IntKind) (φ : α → Int) (d : Array α) : (rowV k φ d).length = d.size := by simp [rowV]
end
section
variable {P : Program} {A : Amb} {L : Nat → (Nat → Option Obj) → Prop} {α : Type} [Inhabited α]
theorem rowV_get {k : IntKind} {φ : α → Int} {d : Array α} {j : Nat} (h : j < d.size) : (rowV k φ d)[j]? = some (.i k (φ d[j]!)) := by
  unfold rowV
  rw [List.getElem?_map, Array.getElem?_toList, Array.getElem?_eq_getElem h, getElem!_pos d j h]; rfl
/-- More of the world: new blocks, draws. -/
theorem Keep.more {w w' : World} {m : Nat → Option Nat} {H : Heap} (hH : RepH P A w m H) (h1 : w'.os = w.os) (h2 : w'.tape = w.tape) (h3 : w'.output = w.output) (h4 : w.drawn ≤ w'.drawn) (h5 : w.heap.size ≤ w'.heap.size) (h6 : ∀ q, q < w.heap.size → w'.heap[q]? = w.heap[q]?) : Keep w m H w' m H :=
  ⟨h1, h2, ⟨h3, h4⟩, h5, fun q hq _ => h6 q hq, fun q h => .inl h, Nat.le_refl _, fun b k k' h h' => by
    obtain rfl : k = k' := Option.some.inj (h.symm.trans h')
    exact ⟨Nat.le_refl _, fun _ hl => ⟨hl, rfl, rfl, fun q cur hm hc => ⟨cur, (h6 q (hH.lt h hl hm)).trans hc, rfl⟩⟩⟩⟩
theorem sorted_eq (enc : α → Value) {w : World} {q t : Nat} {cur : Array Value} (hc : w.heap[q]? = some (.cells cur t (0, 0))) (n : Nat) (d : Array α) (os : Array Obj) : sortWorld enc w q 0 n d os = grow ((w.setRow q (putCells enc 0 d cur)).drewN n) os := by
  have e : putRow enc w q 0 d = w.setRow q (putCells enc 0 d cur) := by
    unfold putRow mapBlock World.setRow
    congr 1
    apply Array.ext_getElem?
    intro j
    rw [Array.getElem?_modify, Array.getElem?_modify]
    by_cases h : q = j
    · subst h
      rw [if_pos rfl, if_pos rfl, hc]; rfl
    · rw [if_neg h, if_neg h]
  unfold sortWorld
  rw [show Sort.ahead w n = w.drewN n from rfl]
  show grow (putRow enc (w.drewN n) q 0 d) os = _
  rw [show putRow enc (w.drewN n) q 0 d = (putRow enc w q 0 d).drewN n from rfl, e]
theorem put_get (enc : α → Value) {d : Array α} {cur : Array Value} {j : Nat} (h : j < d.size) (hs : d.size ≤ cur.size) : (putCells enc 0 d cur)[j]? = some (enc d[j]!) := by
  unfold putCells
  rw [Array.getElem?_mapIdx, Array.getElem?_eq_getElem (by omega), Option.map_some, if_pos ⟨Nat.zero_le _, by omega⟩]; rfl
/-- The memory behind a sort. -/
theorem sorted_mem {w : World} {m : Nat → Option Nat} {H : Heap} {b q gg : Nat} {t : TypeId} {k : IntKind} {φ : α → Int} {d0 : Array α} (hH : RepH P A w m H) (hb : H[b]? = some ⟨t, gg, rowV k φ d0, true⟩) (hm : m b = some q) (n : Nat) (d : Array α) (hd : d.size = d0.size) (os : Array Obj) :
    RepH P A (sortWorld (encI k φ) w q 0 n d os) m (H.set b ⟨t, gg, rowV k φ d, true⟩) ∧ Keep w m H (sortWorld (encI k φ) w q 0 n d os) m (H.set b ⟨t, gg, rowV k φ d, true⟩) := by
  obtain ⟨_, cur, hc, hl, _⟩ := hH.own b q _ hb rfl hm
  have hl : (rowV k φ d0).length ≤ cur.size := hl
  rw [rowV_length] at hl
  rw [sorted_eq _ hc]
  have hs : (putCells (encI k φ) 0 d cur).size = cur.size := by simp [putCells]
  have h1 : Keep w m H (w.setRow q (putCells (encI k φ) 0 d cur)) m (H.set b ⟨t, gg, rowV k φ d, true⟩) := Keep.row hH hb rfl hm hc hs (Nat.le_refl _) rfl
  have h2 : RepH P A (w.setRow q (putCells (encI k φ) 0 d cur)) m (H.set b ⟨t, gg, rowV k φ d, true⟩) := RepH.row hH hb rfl hm hc hs (Nat.le_refl _) rfl (by show (rowV k φ d).length ≤ _; rw [rowV_length, hs]; omega) fun j v hj => by
    have hj : (rowV k φ d)[j]? = some v := hj
    have hjl : j < d.size := by have := (List.getElem?_eq_some_iff.1 hj).1; rwa [rowV_length] at this
    rw [rowV_get hjl] at hj
    injection hj with hj
    subst hj
    exact ⟨_, put_get _ hjl (by omega), .i _ _⟩
  have h6 : ∀ p, p < (w.setRow q (putCells (encI k φ) 0 d cur)).heap.size → (grow ((w.setRow q (putCells (encI k φ) 0 d cur)).drewN n) os).heap[p]? = (w.setRow q (putCells (encI k φ) 0 d cur)).heap[p]? := fun p hp => by
    show ((w.setRow q (putCells (encI k φ) 0 d cur)).heap ++ os)[p]? = _
    rw [Array.getElem?_append_left hp]
  have h3 := Keep.more h2 (w' := grow ((w.setRow q (putCells (encI k φ) 0 d cur)).drewN n) os) rfl rfl rfl (Nat.le_add_right _ _) (by show _ ≤ (_ ++ os).size; rw [Array.size_append]; exact Nat.le_add_right _ _) h6
  exact ⟨h2.same h3 fun p hp => h6 p (Mut.lt h2 hp), h1.trans h3⟩
theorem frz_int {w : World} {F : Nat → Prop} {m : Nat → Option Nat} {H : Heap} {k : IntKind} {x : Int} {v : Value} (h : RepV P w F m H (.i k x) v) : v = .int k x := by cases h; rfl
/-- A comparator that looks: what it does in each world that a sort passes through. -/
theorem cmp_lays {w : World} {m : Nat → Option Nat} {H : Heap} {b q gg g nfr : Nat} {t : TypeId} {k : IntKind} {φ : α → Int} {cf : α → α → Int} {d0 : Array α} {caps : List V} {cb : Array Value} (hH : RepH P A w m H) (hb : H[b]? = some ⟨t, gg, rowV k φ d0, true⟩) (hm : m b = some q) (hL : L A.n A.c)
    (hcb : RepL P w (RO A w m H) m H caps cb) (eg : ∀ args w, (callFunc g args).run P w = .ok (.enter g args) w)
    (hcmp : ∀ d : Array α, d.size = d0.size → ∀ x y, Pure P L g ([.i k (φ x), .i k (φ y)] ++ caps.map (frz P (H.set b ⟨t, gg, rowV k φ d, true⟩) nfr)) (.i .i64 (cf x y))) : CmpLays1 P g cb (encI k φ) cf q 0 d0.size w := by
  intro n os d hd x y
  obtain ⟨hH2, hK2⟩ := sorted_mem hH hb hm n d hd os
  obtain ⟨ha, hr, hdo⟩ := hcmp d hd x y
  generalize sortWorld (encI k φ) w q 0 n d os = W at hH2 hK2 ⊢
  have hcb2 := hcb.keep hK2
  have hH0 : RepH P A W (fun _ => none) [] := empty_rep hH2.amb hH2.ambn hH2.ban
  have hargs : RepL P W (RO A W (fun _ => none) []) (fun _ => none) [] ([.i k (φ x), .i k (φ y)] ++ caps.map (frz P (H.set b ⟨t, gg, rowV k φ d, true⟩) nfr)) (#[encI k φ x, encI k φ y] ++ cb) := by
    refine RepL.append ((RepL.append (RepL.one (.i k (φ x))) (RepL.one (.i k (φ y))))) (RepL.of (by rw [List.length_map]; exact hcb2.1) fun j v hj => ?_)
    have hv := ha v (List.mem_append_right _ (List.mem_of_getElem? hj))
    rw [List.getElem?_map, Option.map_eq_some_iff] at hj
    obtain ⟨u, hu, rfl⟩ := hj
    obtain ⟨z, hz, hrz⟩ := hcb2.get hu
    refine ⟨z, hz, ?_⟩
    have := frz_rep (F := RO A W (fun _ => none) []) hH2 (fun q hq hb => ⟨hq, fun ⟨b, k, h1, _⟩ => by simp at h1, hb⟩) (fun b k q h1 h2 h3 => hH2.own2 b q k h1 h2 h3) nfr u z hrz
    exact this.turn hv (fun q hq => hq) (Nat.le_refl _) fun b k' hb => absurd hb (Nat.not_lt_zero _)
  obtain ⟨fn, g1, g2, g3⟩ := hdo A hL W _ _ hH0 hargs
  rcases g3 with ⟨g3, g4⟩ | ⟨v, w', g3, g4⟩
  · refine g4.mono fun e w' ⟨v, he, r', H1, m1, ⟨n', hfr⟩, hout⟩ => ?_
    have hrep := frz_rep (F := fun _ => True) hout.mem (fun q hq hb => trivial) (fun b k q h1 h2 h3 => hout.mem.own2 b q k h1 h2 h3) n' r' v hout.rep
    rw [hfr] at hrep
    refine ⟨by rw [he, frz_int hrep], w'.drawn - W.drawn, w'.heap.extract W.heap.size w'.heap.size, ?_⟩
    have hk := hout.keep
    have e1 : w'.heap = W.heap ++ w'.heap.extract W.heap.size w'.heap.size := by
      apply Array.ext_getElem?
      intro j
      rcases Nat.lt_or_ge j W.heap.size with h | h
      · rw [Array.getElem?_append_left h]
        exact hk.block j h fun ⟨b, k, h1, _⟩ => by simp at h1
      · rw [Array.getElem?_append_right h, Array.getElem?_extract]
        rcases Nat.lt_or_ge j w'.heap.size with h2 | h2
        · rw [if_pos (by omega)]; congr 1; omega
        · rw [if_neg (by omega), Array.getElem?_eq_none (by omega)]
    have e2 : w'.drawn = W.drawn + (w'.drawn - W.drawn) := by have := hk.output.2; omega
    obtain ⟨hp, tp, dr, o, out⟩ := w'
    obtain ⟨hp0, tp0, dr0, o0, out0⟩ := W
    have k1 := hk.os
    have k2 := hk.tape
    have k3 := hk.output.1
    simp only at k1 k2 k3 e1 e2
    subst k1; subst k2; subst k3
    show (⟨hp, tp, dr, o, out⟩ : World) = ⟨hp0 ++ hp.extract hp0.size hp.size, tp, dr0 + (dr - dr0), o, out⟩
    rw [← e1, ← e2]
  · rw [eg] at g3
    cases g3
/-- A function that sorts a row of the caller's own. -/
theorem sort_doesN {H : Heap} {b gg f g nfr : Nat} {fn : Func} {t : TypeId} {k : IntKind} {φ : α → Int} {cf : α → α → Int} {d0 : Array α} {caps : List V} {Q : Array α → Prop} {K : V → Heap → Prop} (mid : List Int) (hf : P.funcs[f]? = some fn) (hbd : fn.body.isNone = false) (hname : (fn.name == "runtime.NumGoroutine") = false)
    (hb : H[b]? = some ⟨t, gg, rowV k φ d0, true⟩) (h0 : 0 < d0.size) (hL : L A.n A.c) (eg : ∀ args w, (callFunc g args).run P w = .ok (.enter g args) w)
    (hcmp : ∀ d : Array α, d.size = d0.size → ∀ x y, Pure P L g ([.i k (φ x), .i k (φ y)] ++ caps.map (frz P (H.set b ⟨t, gg, rowV k φ d, true⟩) nfr)) (.i .i64 (cf x y)))
    (hsort : ∀ w q cap cb, CmpLays1 P g cb (encI k φ) cf q 0 d0.size w → Holds (encI k φ) w q 0 d0 → q < w.heap.size → Calls P f (#[.slice (some ⟨q, 0, none⟩) d0.size cap] ++ (mid.map (Value.int .i64)).toArray ++ #[.func (.func g) #[] cb]) w fun e w' => e = .returned (.tuple #[]) ∧ ∃ n os d', Q d' ∧ d'.size = d0.size ∧ w' = sortWorld (encI k φ) w q 0 n d' os)
    (hK : ∀ d', Q d' → d'.size = d0.size → K (.tup []) (H.set b ⟨t, gg, rowV k φ d', true⟩)) : Does P A f ([.o b gg 0 d0.size] ++ (mid.map (V.i .i64) ++ [.f (.func g) [] caps])) H K := by
  intro w m vs hH hargs
  have hsz := hargs.1
  simp only [List.length_append, List.length_cons, List.length_nil, List.length_map] at hsz
  obtain ⟨s1, hs1, r1⟩ := hargs.get (j := 0) rfl
  obtain ⟨s2, hs2, r2⟩ := hargs.get (j := 1 + mid.length) (v := .f (.func g) [] caps) (by rw [List.getElem?_append_right (by simp), List.getElem?_append_right (by simp)]; simp)
  have hvs : vs = #[s1] ++ (mid.map (Value.int .i64)).toArray ++ #[s2] := by
    apply Array.ext_getElem?
    intro j
    rcases Nat.lt_trichotomy j (1 + mid.length) with hj | hj | hj
    · rw [Array.getElem?_append_left (by simp; omega)]
      rcases j with _ | j
      · rw [hs1, Array.getElem?_append_left (by simp)]; rfl
      · obtain ⟨x, hx, hr⟩ := hargs.get (j := j + 1) (v := .i .i64 (mid[j]'(by omega))) (by rw [List.getElem?_append_right (by simp), List.getElem?_append_left (by simp; omega)]; simp)
        rw [hx, frz_int hr, Array.getElem?_append_right (by simp)]
        rw [show (#[s1] : Array Value).size = 1 from rfl, Nat.add_sub_cancel, List.getElem?_toArray, List.getElem?_map, List.getElem?_eq_getElem (by omega)]; rfl
    · rw [hj, hs2, Array.getElem?_append_right (by simp; omega)]
      have e : 1 + mid.length - (#[s1] ++ (mid.map (Value.int .i64)).toArray).size = 0 := by simp; omega
      rw [e]; rfl
    · rw [Array.getElem?_eq_none (by omega), Array.getElem?_eq_none (by simp; omega)]
  subst hvs
  cases r2 with
  | f xs cs ha hc h1 h2 =>
  have has : xs = #[] := Array.eq_empty_of_size_eq_zero ha
  subst has
  cases r1 with
  | o S c hlt hcc hcm hS =>
  obtain ⟨_, hS⟩ := hS _ hb
  rcases hS rfl rfl with ⟨_, e, _, _⟩ | ⟨e, _⟩ | ⟨q, cur, hm, e, hcur, _⟩
  · omega
  · omega
  subst e
  obtain ⟨_, cur', hcur', hl, hcells⟩ := hH.own b q _ hb rfl hm
  obtain rfl : cur = cur' := by
    rw [hcur] at hcur'
    injection hcur' with hcur'
    injection hcur' with hcur'
  have hlt : q < w.heap.size := (Array.getElem?_eq_some_iff.1 hcur).1
  have hhold : Holds (encI k φ) w q 0 d0 := by
    intro j hj
    obtain ⟨x, hx, hr⟩ := hcells j _ (rowV_get hj)
    refine ⟨?_, by simp [World.frozen?, hcur]⟩
    rw [Nat.zero_add]
    simp only [World.cell?, hcur]
    rw [frz_int hr] at hx
    simpa [encI] using hx
  refine ⟨fn, hf, hname, .inl ⟨hbd, (hsort w q c cs (cmp_lays hH hb hm hL ⟨hc, h2⟩ eg hcmp) hhold hlt).mono fun e w' ⟨he, n, os, d', hQ, hd, hw⟩ => ?_⟩⟩
  subst hw
  obtain ⟨hH2, hK2⟩ := sorted_mem hH hb hm n d' hd os
  exact ⟨_, he, .tup [], _, m, hK d' hQ hd, ⟨.tup #[] rfl (fun j v h => by simp at h), hH2, hK2⟩⟩
theorem sort_does {H : Heap} {b gg f g nfr : Nat} {fn : Func} {t : TypeId} {k : IntKind} {φ : α → Int} {cf : α → α → Int} {d0 : Array α} {caps : List V} {Q : Array α → Prop} {K : V → Heap → Prop} (hf : P.funcs[f]? = some fn) (hbd : fn.body.isNone = false) (hname : (fn.name == "runtime.NumGoroutine") = false)
    (hb : H[b]? = some ⟨t, gg, rowV k φ d0, true⟩) (h0 : 0 < d0.size) (hL : L A.n A.c) (eg : ∀ args w, (callFunc g args).run P w = .ok (.enter g args) w)
    (hcmp : ∀ d : Array α, d.size = d0.size → ∀ x y, Pure P L g ([.i k (φ x), .i k (φ y)] ++ caps.map (frz P (H.set b ⟨t, gg, rowV k φ d, true⟩) nfr)) (.i .i64 (cf x y)))
    (hsort : ∀ w q cap cb, CmpLays1 P g cb (encI k φ) cf q 0 d0.size w → Holds (encI k φ) w q 0 d0 → q < w.heap.size → Calls P f #[.slice (some ⟨q, 0, none⟩) d0.size cap, .func (.func g) #[] cb] w fun e w' => e = .returned (.tuple #[]) ∧ ∃ n os d', Q d' ∧ d'.size = d0.size ∧ w' = sortWorld (encI k φ) w q 0 n d' os)
    (hK : ∀ d', Q d' → d'.size = d0.size → K (.tup []) (H.set b ⟨t, gg, rowV k φ d', true⟩)) : Does P A f [.o b gg 0 d0.size, .f (.func g) [] caps] H K :=
  sort_doesN [] hf hbd hname hb h0 hL eg hcmp hsort hK
/-- A slice of which less is told. -/
def lo : V → V
  | .sl _ n cs => .sl false n cs
  | .ns => .sl false 0 []
  | v => v
theorem lo_rep {w : World} {F : Nat → Prop} {m : Nat → Option Nat} {H : Heap} {v : V} {x : Value} (h : RepV P w F m H v x) : RepV P w F m H (lo v) x := by
  cases h with
  | sl A c xs hl hf hA hx hn => exact .sl A c xs hl (fun e => by cases e) hA hx hn
  | ns => exact .sl _ _ (fun _ => undef) (Nat.le_refl _) (fun e => by cases e) (fun j v hj => by simp at hj) (fun j v hj => by simp at hj) (fun _ => rfl)
  | any x => exact .any x
  | bq x => exact .bq x
  | b x => exact .b x
  | i k n => exact .i k n
  | s x => exact .s x
  | np => exact .np
  | nf => exact .nf
  | ni => exact .ni
  | nm => exact .nm
  | p x hb h => exact .p x hb h
  | r a xs hF hc hx => exact .r a xs hF hc hx
  | o A c hb hc hm h => exact .o A c hb hc hm h
  | f xs cs ha hc h1 h2 => exact .f xs cs ha hc h1 h2
  | iv h => exact .iv h
  | agg xs ha h => exact .agg xs ha h
  | tup xs ha h => exact .tup xs ha h
theorem Does.lo {f : FuncId} {args : List V} {H : Heap} {K K' : V → Heap → Prop} (h : Does P A f args H K') (hk : ∀ r H', K' r H' → K (lo r) H') : Does P A f args H K := by
  have key : ∀ w m v w', DoesAt P A w m H K' v w' → DoesAt P A w m H K v w' := by
    rintro w m v w' ⟨r, H', m', hr, hout⟩
    exact ⟨E.lo r, H', m', hk r H' hr, ⟨lo_rep hout.rep, hout.mem, hout.keep⟩⟩
  intro w m vs h1 h2
  obtain ⟨fn, a1, a2, a3⟩ := h w m vs h1 h2
  refine ⟨fn, a1, a2, ?_⟩
  rcases a3 with ⟨b1, b2⟩ | ⟨v, w', b1, b2⟩
  · exact .inl ⟨b1, b2.mono fun e w' ⟨v, e1, hx⟩ => ⟨v, e1, key _ _ _ _ hx⟩⟩
  · exact .inr ⟨v, w', b1, key _ _ _ _ b2⟩
end
end Go.Proofs.E
end
