/- observatorylaw55: text, fill, size, ok, do. -/
import Derived.Test.YtdbmimmfpglahaaDiskRR
import Derived.Deep.RegionHeld3
namespace Go.Proofs.Ytdbmimmfpglahaa
open Go.RowKit

structure AC where
  kind : Int
  sector : Int
  bytes : Int
  text : ByteArray
  odd : Bool
  after : Int

def AC.val (a : AC) : Value := .agg #[.int .i64 a.kind, .int .i64 a.sector, .int .i64 a.bytes, .string a.text, .bool a.odd, .int .i64 a.after]

def rp (t : ByteArray) : Nat → ByteArray
  | 0 => ByteArray.empty
  | k + 1 => rp t k ++ t

theorem rp_size (t : ByteArray) (k : Nat) : (rp t k).size = k * t.size := by
  induction k with
  | zero => simp [rp]
  | succ k ih => simp [rp, ih, Nat.succ_mul]

def AC.txt (a : AC) : ByteArray := if a.odd || a.text.size == 0 then a.text else (rp a.text (63 / a.text.size + 1)).extract 0 64

def roomOf : Value → Nat
  | .string s => 64 - s.size
  | _ => 0

theorem size_any (r : UInt8) (w : World) : Calls Try.prog 7 #[.int .u8 r.toNat] w fun e w' => e = .returned (.int .i64 ((1 + r.toNat % 12 : Nat) : Int)) ∧ w = w' := by
  have hr := r.toNat_lt
  obtain ⟨x, hx⟩ : ∃ x, r.toNat = x := ⟨_, rfl⟩
  rw [hx] at hr ⊢
  go_enter Try.func7, Try.ntmps7
  go_wp2
  go_ret
  exact ⟨ret_int (by omega), rfl⟩

theorem toList_isEmpty (t : ByteArray) (h : ¬ t.size = 0) : t.toList.isEmpty = false := by
  rw [ByteArray.toList_eq]
  cases hl : t.data.toList with
  | nil =>
    exfalso
    apply h
    have := congrArg List.length hl
    simpa using this
  | cons _ _ => rfl

theorem beq_bytes (a b : ByteArray) : (a.toList == b.toList) = decide (a = b) := by
  rw [ByteArray.toList_eq, ByteArray.toList_eq]
  by_cases h : a = b
  · subst h; simp
  · simp only [h, decide_false, beq_eq_false_iff_ne, ne_eq]
    intro e
    exact h (ByteArray.ext (Array.toList_inj.1 e))

theorem text_any (a : AC) (w : World) (ht : a.text.size ≤ 100) : Calls Try.prog 22 #[a.val] w fun e w' => e = .returned (.string a.txt) ∧ Below w.heap.size w w' := by
  obtain ⟨kind, sector, bytes, text, odd, after⟩ := a
  simp only [AC.val] at *
  by_cases h0 : text.size = 0
  · have hr : AC.txt ⟨kind, sector, bytes, text, odd, after⟩ = text := by simp [AC.txt, h0]
    rw [hr]
    have he : text = ByteArray.empty := ByteArray.size_eq_zero_iff.1 h0
    subst he
    cases odd
    all_goals
      go_enter Try.func22, Try.ntmps22
      go_wp2
      go_ret
      exact ⟨rfl, below_alloc (Below.refl _ _) _⟩
  · cases odd with
    | true =>
      have hr : AC.txt ⟨kind, sector, bytes, text, true, after⟩ = text := by simp [AC.txt]
      rw [hr]
      go_enter Try.func22, Try.ntmps22
      go_wp2
      go_ret
      exact ⟨rfl, below_alloc (Below.refl _ _) _⟩
    | false =>
      obtain ⟨K, hK⟩ : ∃ K, 63 / text.size + 1 = K := ⟨_, rfl⟩
      have hr : AC.txt ⟨kind, sector, bytes, text, false, after⟩ = (rp text K).extract 0 64 := by simp [AC.txt, h0, hK]
      rw [hr]
      have hkk : ∀ k, k < K ↔ k * text.size < 64 := fun k => by
        have := Nat.le_div_iff_mul_le (x := k) (y := 63) (k := text.size) (by omega)
        omega
      have HKK := Lib.hid hkk
      have hne := toList_isEmpty text h0
      clear hr hK hkk
      go_enter Try.func22, Try.ntmps22
      go_wp2_with fail
      go_loop [3] (fun u => ∃ k : Nat, k ≤ K ∧ u = .string (rp text k)) (fun u => roomOf u)
      case atStart => exact ⟨0, Nat.zero_le _, rfl⟩
      case round =>
        obtain ⟨k, hk, rfl⟩ := hrel
        have hsz := rp_size text k
        by_cases hlt : k < K
        · have h64 := (HKK.out k).1 hlt
          rw [← hsz] at h64
          have h64' : ((rp text k).size : Int) < 64 := by omega
          go_wp2
          refine ⟨⟨k + 1, hlt, rfl⟩, ?_⟩
          simp only [roomOf, ByteArray.size_append]
          omega
        · have h64 : ¬ k * text.size < 64 := fun h => hlt ((HKK.out k).2 h)
          rw [← hsz] at h64
          have h64' : ¬ ((rp text k).size : Int) < 64 := by omega
          have h64'' : (64 : Int) ≤ ((rp text k).size : Int) := by omega
          obtain rfl : k = K := by omega
          clear h64 hlt
          go_wp2
          go_ret
          exact ⟨rfl, below_alloc (Below.refl _ _) _⟩

theorem fill_any (t : ByteArray) (w : World) (ht : t.size ≤ 100) : Calls Try.prog 14 #[.string t] w fun e w' => e = .returned (.string (AC.txt ⟨0, 0, 0, t, false, 0⟩)) ∧ Below w.heap.size w w' := by
  have H := Lib.hid (text_any ⟨0, 0, 0, t, false, 0⟩ w ht)
  simp only [AC.val] at H
  go_enter Try.func14, Try.ntmps14
  go_wp2_with fail
  refine H.out.mono ?_
  rintro e w' ⟨rfl, hb⟩
  go_wp2
  go_ret
  exact ⟨rfl, hb⟩

/-! ### a slice of acts -/
def AC.cells (a : AC) : List Value := [.int .i64 a.kind, .int .i64 a.sector, .int .i64 a.bytes, .string a.text, .bool a.odd, .int .i64 a.after]

/-- A slice of acts. -/
def Acs (w : World) (A : Option Addr) (l : List AC) : Prop :=
  0 < l.length → ∃ b off, A = some ⟨b, off, none⟩ ∧ ∀ (k : Nat) (a : AC), l[k]? = some a → ∀ (j : Nat) (v : Value), a.cells[j]? = some v → w.cell? ⟨b, off + k * 6 + j, none⟩ = some v

theorem Acs.at_ {w : World} {A : Option Addr} {l : List AC} (h : Acs w A l) {k : Nat} {a : AC} (hk : l[k]? = some a) :
    ∃ b off, A = some ⟨b, off, none⟩ ∧ w.cell? ⟨b, off + k * 6, none⟩ = some (.int .i64 a.kind) ∧ w.cell? ⟨b, off + k * 6 + 1, none⟩ = some (.int .i64 a.sector) ∧ w.cell? ⟨b, off + k * 6 + 2, none⟩ = some (.int .i64 a.bytes) ∧
      w.cell? ⟨b, off + k * 6 + 3, none⟩ = some (.string a.text) ∧ w.cell? ⟨b, off + k * 6 + 4, none⟩ = some (.bool a.odd) ∧ w.cell? ⟨b, off + k * 6 + 5, none⟩ = some (.int .i64 a.after) := by
  have hl : k < l.length := (List.getElem?_eq_some_iff.1 hk).1
  obtain ⟨b, off, e, hc⟩ := h (by omega)
  have := hc k a hk
  exact ⟨b, off, e, this 0 _ rfl, this 1 _ rfl, this 2 _ rfl, this 3 _ rfl, this 4 _ rfl, this 5 _ rfl⟩

theorem Acs.below {w w' : World} {A : Option Addr} {l : List AC} (h : Acs w A l) (hb : Below w.heap.size w w') : Acs w' A l := fun hn => by
  obtain ⟨b, off, e, hc⟩ := h hn
  exact ⟨b, off, e, fun k a hk j v hv => kept_cell hb (hc k a hk j v hv)⟩

theorem Acs.low {B : Nat} {w w' : World} {A : Option Addr} {l : List AC} (h : Acs w A l) (hb : Below B w w') (hA : ∀ a, A = some a → a.block < B) : Acs w' A l := fun hn => by
  obtain ⟨b, off, e, hc⟩ := h hn
  exact ⟨b, off, e, fun k a hk j v hv => below_cell hb (hA _ e) (hc k a hk j v hv)⟩

def okB (l : List AC) : Bool := l.all (fun a => decide (a.text.size ≤ 100)) && decide (l.length ≤ 60)

theorem ok_any (A : Option Addr) (c : Nat) (l : List AC) (w : World) (h : Acs w A l) (hl : l.length ≤ 9223372036854775807) :
    Calls Try.prog 5 #[.slice A l.length c] w fun e w' => e = .returned (.bool (okB l)) ∧ w = w' := by
  have H := Lib.hid h
  clear h
  go_enter Try.func5, Try.ntmps5
  go_wp2_with fail
  go_loop [3] (fun u => ∃ k : Nat, k ≤ l.length ∧ u = .int .i64 k ∧ (l.take k).all (fun a => decide (a.text.size ≤ 100)) = true) (fun u => l.length - (intOf u).toNat)
  case atStart => exact ⟨0, Nat.zero_le _, rfl, rfl⟩
  case round =>
    obtain ⟨k, hk, rfl, hall⟩ := hrel
    have HALL := Lib.hid hall
    clear hall
    by_cases hlt : k < l.length
    · obtain ⟨a, ha⟩ := get_some l k hlt
      obtain ⟨b, off, rfl, c0, c1, c2, c3, c4, c5⟩ := H.out.at_ ha
      have HA := Lib.hid ha
      clear ha
      have hsz : ∃ z, a.text.size = z := ⟨_, rfl⟩
      obtain ⟨z, hz⟩ := hsz
      by_cases h100 : z ≤ 100
      · go_wp2
        go_round
        case rel => exact ⟨k + 1, by omega, by go_num, by rw [all_take_succ _ _ _ _ HA.out, HALL.out, hz]; simpa using h100⟩
        case measure => simp [intOf]; omega
      · have hr : okB l = false := by
          rw [okB, all_false_of _ _ _ _ HA.out (by rw [hz]; simpa using h100)]; rfl
        have HR := Lib.hid hr
        clear hr
        go_wp2
        go_ret
        exact ⟨ret_bool HR.out.symm, rfl⟩
    · have hkl : k = l.length := by omega
      subst hkl
      rw [List.take_length] at HALL
      by_cases h60 : l.length ≤ 60
      · go_wp2
        go_ret
        exact ⟨ret_bool (by rw [okB, HALL.out]; simp [h60]; omega), rfl⟩
      · go_wp2
        go_ret
        exact ⟨ret_bool (by rw [okB, HALL.out]; simp [h60]; omega), rfl⟩

end Go.Proofs.Ytdbmimmfpglahaa
