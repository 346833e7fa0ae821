/- digest: List, Is. -/
import Derived.Test.YtbefcipeojahfaaGreatDoorBld01
import Derived.Test.YtbefcipeojahfaaGreatDoorStrs
import Derived.Shelf.Strings.SlTrimAscii
namespace Go.Proofs.YtbefcipeojahfaaGreatDoor
open Go.RowKit

/-- The tables that the library reads. -/
structure Tabs (w : World) : Prop where
  t64 : Tab64 w
  p10 : Go.Lib.TabIs Tryz.prog w "internal/strconv.uint64pow10" .u64 Go.Lib.pow10Tab

theorem var_below {w w' : World} {P : Program} {n : String} {cs : Array Value} (h : w.var? P n = some cs) (hb : Below w.heap.size w w') : w'.var? P n = some cs := by
  unfold World.var? at h ⊢
  cases hg : P.globalNamed n with
  | none => rw [hg] at h; cases h
  | some g =>
    rw [hg] at h
    have h' : (match w.heap[g]? with | some (.cells cs _ _) => some cs | _ => none) = some cs := h
    have hlt : g < w.heap.size := by
      rcases Nat.lt_or_ge g w.heap.size with h1 | h1
      · exact h1
      · rw [Array.getElem?_eq_none h1] at h'; cases h'
    show (match w'.heap[g]? with | some (.cells cs _ _) => some cs | _ => none) = some cs
    rw [hb.block g hlt]; exact h'
theorem Tabs.below {w w' : World} (h : Tabs w) (hb : Below w.heap.size w w') : Tabs w' := ⟨h.t64.below hb, var_below h.p10 hb⟩

theorem below_grow (w : World) (k : Nat) (os : Array Obj) : Below w.heap.size w (Go.Sort.grow (w.drewN k) os) := by
  refine ⟨rfl, rfl, rfl, ?_, fun j hj => ?_⟩
  · show w.heap.size ≤ (w.heap ++ os).size
    rw [Array.size_append]; omega
  · show (w.heap ++ os)[j]? = w.heap[j]?
    rw [Array.getElem?_append_left hj]

def dec (n : Nat) : ByteArray := ⟨(Go.Lib.decDigits n).toArray⟩
theorem itoa_any (n : Nat) (hn : n ≤ 9223372036854775807) (w : World) (h : Tabs w) :
    Calls Tryz.prog 58 #[.int .i64 n] w fun e w' => e = .returned (.string (dec n)) ∧ Below w.heap.size w w' := by
  refine (Tryz.strconv_Itoa n (by omega) (by omega) w h.p10).mono ?_
  rintro e w' ⟨rfl, k, os, rfl⟩
  refine ⟨?_, below_grow w k os⟩
  rw [dec, Go.Lib.itoa, if_neg (by omega), Int.toNat_natCast]

def one (s : ByteArray) : List UInt8 := Go.Lib.decDigits s.size ++ [58] ++ s.data.toList
def jn (l : List ByteArray) : List UInt8 := l.flatMap one
theorem jn_snoc {l : List ByteArray} {k : Nat} {s : ByteArray} (h : l[k]? = some s) : jn (l.take (k + 1)) = jn (l.take k) ++ Go.Lib.decDigits s.size ++ [58] ++ s.data.toList := by
  rw [take_snoc l k s h, jn, List.flatMap_append]
  simp [jn, one, List.append_assoc]
theorem jn_le (l : List ByteArray) (k : Nat) : (jn (l.take k)).length ≤ (jn l).length := by
  have e : jn l = jn (l.take k) ++ jn (l.drop k) := by
    unfold jn
    rw [← List.flatMap_append, List.take_append_drop]
  rw [e, List.length_append]; omega

set_option maxHeartbeats 8000000 in
theorem list_any (A : Option Addr) (c : Nat) (l : List ByteArray) (w : World) (h : Strs w A l) (hT : Tabs w) (hl : (jn l).length ≤ 1000000) (hll : l.length ≤ 1000000) :
    Calls Tryz.prog 57 #[.slice A l.length c] w fun e w' => e = .returned (.string (dg ⟨(jn l).toArray⟩)) ∧ Below w.heap.size w w' := by
  obtain ⟨b, hb⟩ : ∃ b, w.heap.size = b := ⟨_, rfl⟩
  obtain ⟨wa, hwa⟩ : ∃ wa, w.alloc (.cells #[.pointer none, .slice none 0 0] 90) = wa := ⟨_, rfl⟩
  have HA : Hid (∀ w', Below w.heap.size w w' → Strs w' A l) := fun w' hb => h.below hb
  have HT : Hid (∀ w', Below w.heap.size w w' → Tabs w') := fun w' hb => hT.below hb
  have HB0 : Hid (Below w.heap.size w wa) := Lib.hid (by rw [← hwa]; exact below_alloc (Below.refl _ _) _)
  have HI0 : Hid (IsB b b [] wa) := Lib.hid (.inl ⟨Nat.le_refl _, .slice none 0 0, by rw [← hwa, ← hb]; exact heap_alloc_new w _, ⟨rfl, .inl ⟨rfl, rfl⟩⟩, by simp [Value.ownBlock]⟩)
  have HWA := Lib.hid hwa
  have HB := Lib.hid hb
  clear h hT hwa hb
  go_enter Tryz.func57, Tryz.ntmps57
  go_wp2_with fail
  rw [HWA.out, HB.out]
  go_loopw [8] (fun u8 wr => ∃ k : Nat, k ≤ l.length ∧ u8 = .int .i64 k ∧ Below w.heap.size w wr ∧ IsB b b (jn (l.take k)) wr) (fun u8 _ => l.length - (intOf u8).toNat)
  case atStart => exact ⟨0, Nat.zero_le _, rfl, HB0.out, HI0.out⟩
  case round =>
  obtain ⟨k, hk, rfl, hbw, hib⟩ := hrel
  have HBW := Lib.hid hbw
  have HIB := Lib.hid hib
  have hbs : b ≤ wr.heap.size := by rw [← HB.out]; exact hbw.size
  have HBS := Lib.hid hbs
  clear hbw hib hbs
  by_cases hlt : k < l.length
  · obtain ⟨s, hs⟩ := get_some l k hlt
    obtain ⟨bs, off, rfl, hc⟩ := (HA.out _ HBW.out).at_ hs
    have hsn := jn_snoc hs
    have hle := jn_le l (k + 1)
    have hle0 := jn_le l k
    have hsz : (jn (l.take k)).length + (Go.Lib.decDigits s.size).length + 1 + s.size ≤ 1000000 := by
      rw [hsn] at hle
      simp only [List.length_append, List.length_cons, List.length_nil] at hle
      have : s.data.toList.length = s.size := rfl
      omega
    have HSN := Lib.hid hsn
    have HSZ := Lib.hid hsz
    have hss : s.size ≤ 1000000 := by omega
    have HIT := Lib.hid (itoa_any s.size (by omega) wr (HT.out _ HBW.out))
    clear hs hsn hle hle0 hsz
    go_wp2_with fail
    refine HIT.out.mono ?_
    rintro e w1 ⟨rfl, hb1⟩
    have HW1 := Lib.hid (below_trans HBW.out hb1)
    have HI1 := Lib.hid (isb_below HIB.out hb1)
    clear hb1
    go_wp2_with fail
    refine (wstring b b _ (dec s.size) w1 HI1.out (by have := HSZ.out; show _ + (Go.Lib.decDigits s.size).length ≤ _; omega) (by rw [← HB.out]; exact HW1.out.size)).mono ?_
    rintro e w2 ⟨rfl, hi2, hb2⟩
    have HW2 := Lib.hid (HW1.out.trans (by rw [HB.out]; exact hb2))
    have HI2 : Hid (IsB b b (jn (l.take k) ++ Go.Lib.decDigits s.size) w2) := Lib.hid hi2
    clear hi2 hb2
    go_wp2_with fail
    refine (wbyte b b _ 58 w2 HI2.out (by have := HSZ.out; rw [List.length_append]; omega) (by rw [← HB.out]; exact HW2.out.size)).mono ?_
    rintro e w3 ⟨rfl, hi3, hb3⟩
    have HW3 := Lib.hid (HW2.out.trans (by rw [HB.out]; exact hb3))
    have HI3 := Lib.hid hi3
    clear hi3 hb3
    go_wp2_with fail
    refine (wstring b b _ s w3 HI3.out (by have := HSZ.out; rw [List.length_append, List.length_append, List.length_singleton]; omega) (by rw [← HB.out]; exact HW3.out.size)).mono ?_
    rintro e w4 ⟨rfl, hi4, hb4⟩
    have HW4 := Lib.hid (HW3.out.trans (by rw [HB.out]; exact hb4))
    have HI4 : Hid (IsB b b (jn (l.take (k + 1))) w4) := Lib.hid (by rw [HSN.out]; exact hi4)
    clear hi4 hb4
    go_wp2_with fail
    go_roundw
    case rel => exact ⟨k + 1, by omega, by go_num, HW4.out, HI4.out⟩
    case measure => simp [intOf]; omega
  · obtain rfl : k = l.length := by omega
    rw [List.take_length] at HIB
    obtain ⟨t, ht⟩ : ∃ t, (⟨(jn l).toArray⟩ : ByteArray) = t := ⟨_, rfl⟩
    have htz : t.size ≤ 1000000000 := by
      rw [← ht]; show (jn l).length ≤ _; omega
    have HST := Lib.hid (Tryz.Builder_String_any b b (jn l) wr HIB.out HBS.out)
    rw [ht] at HST
    have HTE := Lib.hid ht
    clear ht
    go_wp2_with fail
    refine HST.out.mono ?_
    rintro e w1 ⟨rfl, hb1⟩
    have HW1 := Lib.hid (HBW.out.trans (by rw [HB.out]; exact hb1))
    clear hb1
    go_wp2_with fail
    refine (sum_any t htz w1 (HT.out _ HW1.out).t64).mono ?_
    rintro e w2 ⟨rfl, hb2⟩
    have HW2 := Lib.hid (below_trans HW1.out hb2)
    clear hb2
    go_wp2
    go_ret
    exact ⟨congrArg (fun x => Ending.returned (.string (dg x))) HTE.out.symm, HW2.out⟩


/-! ### Is -/
def hexs : ByteArray := ⟨#[48, 49, 50, 51, 52, 53, 54, 55, 56, 57, 97, 98, 99, 100, 101, 102]⟩
def isD (t : ByteArray) : Bool := decide (t.size = 16) && t.data.toList.all (hexs.data.toList.contains ·)

theorem dw_empty (p : UInt8 → Bool) (l : List UInt8) : (l.dropWhile p).isEmpty = l.all p := by
  induction l with
  | nil => rfl
  | cons a l ih =>
    rw [List.dropWhile_cons, List.all_cons]
    cases h : p a
    · simp
    · simp [ih]
theorem dw_all (p : UInt8 → Bool) (l : List UInt8) : (l.dropWhile p).all p = l.all p := by
  induction l with
  | nil => rfl
  | cons a l ih =>
    rw [List.dropWhile_cons, List.all_cons]
    cases h : p a
    · simp [h]
    · simp [ih]
theorem trim_nil (l cs : List UInt8) : (Go.Lib.trimS l cs).isEmpty = l.all (cs.contains ·) := by
  rw [Go.Lib.trimS, Go.Lib.trimLeftS, Go.Lib.trimRightS, dw_empty, List.all_reverse, dw_all, List.all_reverse]

set_option maxHeartbeats 4000000 in
theorem is_any (t : ByteArray) (w : World) (ht : t.size ≤ 1000000000) :
    Calls Tryz.prog 61 #[.string t] w fun e w' => e = .returned (.bool (isD t)) ∧ Below w.heap.size w w' := by
  have h116 : (Tryz.prog.info? (Tryz.lays160_ren.t 116)).map (fun i => (i.zero, i.size)) = some (some (.agg (Array.replicate 256 (.bool false))), 256) := by kernel_rfl
  have htr := Any.strings_Trim_laid Tryz.lays160 h116 t hexs w (by omega) (by decide) (ascii_of_all (by decide))
  have hte := trim_nil t.data.toList hexs.data.toList
  obtain ⟨r, hr⟩ : ∃ r, (⟨(Go.Lib.trimS t.data.toList hexs.data.toList).toArray⟩ : ByteArray) = r := ⟨_, rfl⟩
  have hri : r.toList.isEmpty = t.data.toList.all (hexs.data.toList.contains ·) := by
    rw [← hte, ← hr, ByteArray.toList_eq]
  obtain ⟨v, hv⟩ : ∃ v, t.data.toList.all (hexs.data.toList.contains ·) = v := ⟨_, rfl⟩
  rw [hr] at htr
  rw [hv] at hri
  have HTR := Lib.hid htr
  by_cases h16 : t.size = 16
  · have hres : isD t = v := by rw [isD, hv, h16]; simp
    have HR := Lib.hid hres
    have e1 : ((t.size : Int) == 16) = true := by rw [h16]; rfl
    have hri2 : r.toList.isEmpty = v := hri
    clear hri htr hte hr hv h116 hres h16
    cases v with
    | true =>
      go_enter Tryz.func61, Tryz.ntmps61
      go_wp2_with fail
      refine HTR.out.mono ?_
      rintro e w1 ⟨rfl, hb⟩
      have HB := Lib.hid hb
      clear hb
      go_wp2
      go_ret
      rw [HR.out]
      exact ⟨rfl, HB.out⟩
    | false =>
      go_enter Tryz.func61, Tryz.ntmps61
      go_wp2_with fail
      refine HTR.out.mono ?_
      rintro e w1 ⟨rfl, hb⟩
      have HB := Lib.hid hb
      clear hb
      go_wp2
      go_ret
      rw [HR.out]
      exact ⟨rfl, HB.out⟩
  · have hres : isD t = false := by rw [isD, decide_eq_false h16]; rfl
    have HR := Lib.hid hres
    have e1 : ((t.size : Int) == 16) = false := by simp; omega
    clear hri htr hte hr hv h116 hres h16
    go_enter Tryz.func61, Tryz.ntmps61
    go_wp2
    go_ret
    rw [HR.out]
    exact ⟨rfl, Below.refl _ _⟩

end Go.Proofs.YtbefcipeojahfaaGreatDoor
