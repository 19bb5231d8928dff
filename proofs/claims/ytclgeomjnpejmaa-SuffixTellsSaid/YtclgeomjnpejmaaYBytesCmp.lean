/- bytes.Compare, by the model's entry. -/
import Derived.Lib.BytesEntry
import Derived.Test.YtclgeomjnpejmaaYCmp
namespace Go.Proofs.Ytclgeomjnpejmaa.Suf
open Go.RowKit
set_option linter.unusedVariables false
set_option linter.unusedSimpArgs false

/-- Bytes side by side: -1, 0, 1. -/
def bcmp : List Int → List Int → Int
  | [], [] => 0
  | [], _ :: _ => -1
  | _ :: _, [] => 1
  | a :: l, b :: m => if a < b then -1 else if b < a then 1 else bcmp l m

theorem ofNat_lt (x y : Int) (hx : 0 ≤ x ∧ x < 256) (hy : 0 ≤ y ∧ y < 256) : (UInt8.ofNat x.toNat < UInt8.ofNat y.toNat) ↔ x < y := by
  rw [UInt8.lt_iff_toNat_lt]
  simp only [UInt8.toNat_ofNat']
  omega

theorem bcmp_eq : ∀ (a b : List Int), (∀ x ∈ a, 0 ≤ x ∧ x < 256) → (∀ x ∈ b, 0 ≤ x ∧ x < 256) → Lib.compareBytes (Lib.bytesOf a) (Lib.bytesOf b) = bcmp a b
  | [], [], _, _ => rfl
  | [], _ :: _, _, _ => rfl
  | _ :: _, [], _, _ => rfl
  | x :: a, y :: b, ha, hb => by
    have h1 := ofNat_lt x y (ha x (List.mem_cons_self ..)) (hb y (List.mem_cons_self ..))
    have h2 := ofNat_lt y x (hb y (List.mem_cons_self ..)) (ha x (List.mem_cons_self ..))
    have ih := bcmp_eq a b (fun z hz => ha z (List.mem_cons_of_mem _ hz)) (fun z hz => hb z (List.mem_cons_of_mem _ hz))
    show (if UInt8.ofNat x.toNat < UInt8.ofNat y.toNat then (-1 : Int) else if UInt8.ofNat y.toNat < UInt8.ofNat x.toNat then 1 else Lib.compareBytes (Lib.bytesOf a) (Lib.bytesOf b)) = if x < y then -1 else if y < x then 1 else bcmp a b
    rw [ih]
    simp only [h1, h2]

theorem run_bytesOf {P : Program} (w : World) (A : Option Addr) (c : Nat) (l : List Int) (hA : ∀ k, k < l.length → ∃ ad, A = some ad ∧ w.cell? (ad.add k) = some (.int .u8 (l.getD k 0))) :
    (Extern.Bytes.bytesOf (.slice A l.length c)).run P w = .ok ⟨(Lib.bytesOf l).toArray⟩ w := by
  cases A with
  | none =>
    cases l with
    | nil => rfl
    | cons x l => obtain ⟨ad, h, _⟩ := hA 0 (by simp); cases h
  | some a =>
    have h := Lib.run_loadBytesX (P := P) w l a .empty (fun j x hj => by
      have hjl : j < l.length := (List.getElem?_eq_some_iff.1 hj).1
      obtain ⟨ad, h1, h2⟩ := hA j hjl
      cases h1
      rw [h2, List.getD_eq_getElem?_getD, hj]
      rfl)
    have he : (⟨ByteArray.empty.data ++ (Lib.bytesOf l).toArray⟩ : ByteArray) = ⟨(Lib.bytesOf l).toArray⟩ := by
      apply ByteArray.ext
      show (#[] : Array UInt8) ++ (Lib.bytesOf l).toArray = (Lib.bytesOf l).toArray
      simp
    rw [he] at h
    exact h

theorem run_compareSlices {P : Program} (w : World) (A B : Option Addr) (c d : Nat) (l m : List Int) (hA : ∀ k, k < l.length → ∃ ad, A = some ad ∧ w.cell? (ad.add k) = some (.int .u8 (l.getD k 0))) (hB : ∀ k, k < m.length → ∃ ad, B = some ad ∧ w.cell? (ad.add k) = some (.int .u8 (m.getD k 0)))
    (hl : ∀ x ∈ l, 0 ≤ x ∧ x < 256) (hm : ∀ x ∈ m, 0 ≤ x ∧ x < 256) :
    (Extern.BytealgCompare.compare #[.slice A l.length c, .slice B m.length d]).run P w = .ok (.int .i64 (bcmp l m)) w := by
  change Sem.run P (do pure (goInt (Extern.BytealgCompare.cmp (← Extern.Bytes.bytesOf (.slice A l.length c)) (← Extern.Bytes.bytesOf (.slice B m.length d))))) w = _
  simp only [Sem.run_bind, run_bytesOf w A c l hA, run_bytesOf w B d m hB, Sem.run_pure, Result.andThen]
  rw [Lib.cmp_eq]
  show Result.ok (goInt (Lib.compareBytes (Lib.bytesOf l) (Lib.bytesOf m))) w = _
  rw [bcmp_eq l m hl hm]
  rfl

set_option maxHeartbeats 1000000 in
theorem bytes_Compare_any (w : World) (A B : Option Addr) (c d : Nat) (l m : List Int) (hA : ∀ k, k < l.length → ∃ ad, A = some ad ∧ w.cell? (ad.add k) = some (.int .u8 (l.getD k 0))) (hB : ∀ k, k < m.length → ∃ ad, B = some ad ∧ w.cell? (ad.add k) = some (.int .u8 (m.getD k 0)))
    (hl : ∀ x ∈ l, 0 ≤ x ∧ x < 256) (hm : ∀ x ∈ m, 0 ≤ x ∧ x < 256) :
    Calls Try.prog 24 #[.slice A l.length c, .slice B m.length d] w fun e w' => e = .returned (.int .i64 (bcmp l m)) ∧ w' = w := by
  go_enter Try.func24, Try.ntmps24
  go_wp2
  rw [run_callFunc_extern Try.func29 (by kernel_rfl) (by kernel_rfl) (by kernel_rfl) (e := Extern.BytealgCompare.compare) (by kernel_rfl), run_compareSlices w A B c d l m hA hB hl hm]
  simp only [Result.andThen]
  rw [Oper.upon_value]
  go_wp2
  go_ret
  exact ⟨rfl, rfl⟩

end Go.Proofs.Ytclgeomjnpejmaa.Suf
