/- Layer 2: Check's closure. Layer 2: Clone, Check. Layer 2: Reverse, Path. The reference of layer 2: Half, Empty, node, root. The reference of layer 2: up, PathTexts. The reference of the digest: Digit, Is. The reference of layer 2: digests, length, Leaf, Root, Check. Plain words of layer 2 that the laws share; an append that is guarded. Root, Check of the program; Leaves, Check of the reference. Plain: what a vault does. observatoryref07.Same and the examples of observatorylaw07.head. -/
import Derived.Test.YtdlgejofggbifaaGreatDoorChTopBlindedC
namespace Go.Proofs.YtdlgejofggbifaaGreatDoor

section
open Go.RowKit

theorem upv_size (n i : Nat) (s : ByteArray) (p : List ByteArray) (hs : s.size ≤ 200) : (upv n i s p).size ≤ 200 := by
  by_cases h : 2 ≤ n
  · by_cases hi : i < hf n
    · rw [upv_lt n i s p h hi, nd_size]; omega
    · rw [upv_ge n i s p h hi, nd_size]; omega
  · rw [upv_one n i s p h]; exact hs
theorem getLastD_size (p : List ByteArray) (h : allD p = true) : (p.getLastD ByteArray.empty).size ≤ 200 := by
  by_cases hne : p = []
  · subst hne; decide
  · have hm : p.getLastD ByteArray.empty ∈ p := by
      rw [List.getLastD_eq_getLast?, List.getLast?_eq_some_getLast hne]
      exact List.getLast_mem hne
    simp only [allD, List.all_eq_true] at h
    rw [isD_16 (h _ hm)]; decide
/-- What is left of a list after k more digests were taken off its end. -/
def rem (p : List ByteArray) (k : Nat) : List ByteArray := p.take (p.length - k)
theorem rem_succ (p : List ByteArray) (k : Nat) : rem p.dropLast k = rem p (1 + k) := by
  unfold rem
  rw [List.length_dropLast, List.dropLast_eq_take, List.take_take]
  congr 1; omega
theorem sh_succ (p : List ByteArray) (short : Bool) (k : Nat) : ((short || p.isEmpty) || decide (p.dropLast.length < k)) = (short || decide (p.length < 1 + k)) := by
  rw [List.length_dropLast, Bool.or_assoc]
  congr 1
  cases p with
  | nil => simp; omega
  | cons x l => simp only [List.isEmpty_cons, Bool.false_or, List.length_cons]; apply decide_eq_decide.2; omega

theorem PrS.zero {w : World} {Db Pb : Nat} {p : List ByteArray} {short : Bool} (h : PrS w Db Pb p short) : PrS w Db Pb (rem p 0) (short || decide (p.length < 0)) := by
  have e : rem p 0 = p := by unfold rem; simp
  rw [e]; simpa using h

set_option maxRecDepth 100000 in
set_option maxHeartbeats 16000000 in
theorem checkc_any (w0 : World) (hT : Tabs w0) (Lb Vb Ub Db Pb : Nat) (s : ByteArray) (hs : s.size ≤ 200) (hD : w0.heap.size ≤ Db) (hP : w0.heap.size ≤ Pb) (hL : Lb ∉ [Db, Pb]) (hV : Vb ∉ [Db, Pb]) (hU : Ub ∉ [Db, Pb]) (m : Nat) :
    ∀ (n i : Nat) (p : List ByteArray) (short : Bool) (w : World), n ≤ m → 1 ≤ n → n ≤ 1000000 → i < n → Below w0.heap.size w0 w → PrS w Db Pb p short →
      w.cell? ⟨Lb, 0, none⟩ = some (.string s) → w.cell? ⟨Vb, 0, none⟩ = some (.pointer (some ⟨Pb, 0, none⟩)) →
      w.cell? ⟨Ub, 0, none⟩ = some (.func (.func 119) #[] #[.pointer (some ⟨Lb, 0, none⟩), .pointer (some ⟨Vb, 0, none⟩), .pointer (some ⟨Ub, 0, none⟩)]) →
      Calls Tryz.prog 119 #[.int .i64 n, .int .i64 i, .pointer (some ⟨Lb, 0, none⟩), .pointer (some ⟨Vb, 0, none⟩), .pointer (some ⟨Ub, 0, none⟩)] w fun e w' =>
        e = .returned (.string (upv n i s p)) ∧ Chg [Db, Pb] w w' ∧ PrS w' Db Pb (rem p (plen n i)) (short || decide (p.length < plen n i)) := by
  induction m with
  | zero => intro n i p short w h1 h2; omega
  | succ m ih =>
    intro n i p short w hn h1 hbig hi hb hpr hcl hcv hcu
    by_cases h2 : 2 ≤ n
    · have hbase : ∀ w', Chg [Db, Pb] w w' → Below w0.heap.size w0 w' := fun w' hc => hb.trans (hc.below (fun k hk => by
        simp only [List.mem_cons, List.not_mem_nil, or_false] at hk
        rcases hk with rfl | rfl <;> assumption) hb.size)
      have k1 := hf_lt n h2
      have k2 := hf_pos n
      obtain ⟨x, hx⟩ : ∃ x, p.getLastD ByteArray.empty = x := ⟨_, rfl⟩
      have hxs : x.size ≤ 200 := by rw [← hx]; exact getLastD_size p hpr.all
      have HN := Lib.hid (next_any Db Pb p short w.drew (hpr.chg (Below.drew (Below.refl _ _))))
      rw [hx] at HN
      have hlast : upv n i s p = if i < hf n then nd (upv (hf n) i s p.dropLast) x else nd x (upv (n - hf n) (i - hf n) s p.dropLast) := by
        split
        · next h => rw [upv_lt n i s p h2 h, hx]
        · next h => rw [upv_ge n i s p h2 h, hx]
      have hpl : plen n i = 1 + if i < hf n then plen (hf n) i else plen (n - hf n) (i - hf n) := by
        split
        · next h => rw [plen_lt n i h2 h]
        · next h => rw [plen_ge n i h2 h]
      rw [hlast, hpl]
      clear hlast hpl hx
      obtain ⟨k, hk⟩ : ∃ k, hf n = k := ⟨_, rfl⟩
      rw [hk] at k1 k2 ⊢
      have HH := Lib.hid (fun W => (half_any n hbig W).mono fun _ _ ⟨he, hw⟩ => (⟨he, hw.symm⟩ : _ ∧ _ = W))
      rw [hk] at HH
      have HIH := Lib.hid ih
      have HC : Hid (∀ w', Chg [Db, Pb] w w' → Below w0.heap.size w0 w' ∧ w'.cell? ⟨Lb, 0, none⟩ = some (.string s) ∧ w'.cell? ⟨Vb, 0, none⟩ = some (.pointer (some ⟨Pb, 0, none⟩)) ∧ w'.cell? ⟨Ub, 0, none⟩ = some (.func (.func 119) #[] #[.pointer (some ⟨Lb, 0, none⟩), .pointer (some ⟨Vb, 0, none⟩), .pointer (some ⟨Ub, 0, none⟩)])) :=
        Lib.hid (fun w' hc => ⟨hbase w' hc, hc.cell hL hcl, hc.cell hV hcv, hc.cell hU hcu⟩)
      have HND := Lib.hid (fun (a b : ByteArray) (ha : a.size ≤ 200) (hb : b.size ≤ 200) (W : World) (hW : Below w0.heap.size w0 W) => node_any a b ha hb W (hT.below hW))
      have hl := lt_of_cell hcv
      clear hpr hbase hb ih hcl hk
      have hn1 : ((n : Int) == 1) = false := by simp; omega
      by_cases hik : i < k
      · rw [if_pos hik, if_pos hik]
        go_enter Tryz.func119, Tryz.ntmps119
        go_wp2_with fail
        refine wp_region_still_tail 3 (by kernel_rfl) (by kernel_rfl) ?_
        simp only [List.take_succ_cons, List.take_zero, List.drop_succ_cons, List.drop_zero]
        change wpStill _ _ (World.drew _) _ _ _
        still_step
        still_call (HH.out _)
        still_step
        refine wpStill_nil ?_
        change wpList _ _ _ _ _ (World.drew _)
        go_wp2_with fail
        refine HN.out.mono ?_
        rintro e w1 ⟨rfl, hc1, hp1⟩
        have hc1' : Chg [Db, Pb] w w1 := (Chg.refl [Db, Pb] w).drew.trans hc1 (fun j hj => .inl hj)
        obtain ⟨b1, cl1, cv1, cu1⟩ := HC.out w1 hc1'
        have HI1 := Lib.hid (HIH.out k i p.dropLast (short || p.isEmpty) w1 (by omega) k2 (by omega) hik b1 hp1 cl1 cv1 cu1)
        have HC1 := Lib.hid hc1'
        have hu1 := lt_of_cell cu1
        clear hc1 hp1 hc1' b1 cl1 cv1
        go_wp2_with fail
        refine HI1.out.mono ?_
        rintro e w2 ⟨rfl, hc2, hp2⟩
        have HC2 := Lib.hid (HC1.out.trans hc2 (fun j hj => .inl hj))
        have HP2 := Lib.hid hp2
        clear hc2 hp2
        have HN2 := Lib.hid (HND.out (upv k i s p.dropLast) x (upv_size _ _ _ _ hs) hxs w2 (HC.out w2 HC2.out).1)
        go_wp2_with fail
        refine HN2.out.mono ?_
        rintro e w3 ⟨rfl, hb3⟩
        have HB3 := Lib.hid hb3
        clear hb3
        go_wp2
        go_ret
        refine ⟨rfl, HC2.out.trans (Chg.of_below HB3.out []) (by simp), ?_⟩
        have := HP2.out.chg HB3.out
        rw [rem_succ, sh_succ] at this
        exact this
      · rw [if_neg hik, if_neg hik]
        have hni : ¬ (i : Int) < (k : Int) := by omega
        have e1 : (n : Int) - (k : Int) = ((n - k : Nat) : Int) := by omega
        have e2 : (i : Int) - (k : Int) = ((i - k : Nat) : Int) := by omega
        have HE1 := Lib.hid e1
        have HE2 := Lib.hid e2
        clear e1 e2
        go_enter Tryz.func119, Tryz.ntmps119
        go_wp2_with fail
        refine wp_region_still_tail 3 (by kernel_rfl) (by kernel_rfl) ?_
        simp only [List.take_succ_cons, List.take_zero, List.drop_succ_cons, List.drop_zero]
        change wpStill _ _ (World.drew _) _ _ _
        still_step
        still_call (HH.out _)
        still_step
        refine wpStill_nil ?_
        change wpList _ _ _ _ _ (World.drew _)
        go_wp2_with fail
        refine HN.out.mono ?_
        rintro e w1 ⟨rfl, hc1, hp1⟩
        have hc1' : Chg [Db, Pb] w w1 := (Chg.refl [Db, Pb] w).drew.trans hc1 (fun j hj => .inl hj)
        obtain ⟨b1, cl1, cv1, cu1⟩ := HC.out w1 hc1'
        have HI1 := Lib.hid (HIH.out (n - k) (i - k) p.dropLast (short || p.isEmpty) w1 (by omega) (by omega) (by omega) (by omega) b1 hp1 cl1 cv1 cu1)
        have HC1 := Lib.hid hc1'
        have hu1 := lt_of_cell cu1
        clear hc1 hp1 hc1' b1 cl1 cv1
        go_wp2_with fail
        rw [HE1.out, HE2.out]
        refine HI1.out.mono ?_
        rintro e w2 ⟨rfl, hc2, hp2⟩
        have HC2 := Lib.hid (HC1.out.trans hc2 (fun j hj => .inl hj))
        have HP2 := Lib.hid hp2
        clear hc2 hp2
        have HN2 := Lib.hid (HND.out x (upv (n - k) (i - k) s p.dropLast) hxs (upv_size _ _ _ _ hs) w2 (HC.out w2 HC2.out).1)
        go_wp2_with fail
        refine HN2.out.mono ?_
        rintro e w3 ⟨rfl, hb3⟩
        have HB3 := Lib.hid hb3
        clear hb3
        go_wp2
        go_ret
        refine ⟨rfl, HC2.out.trans (Chg.of_below HB3.out []) (by simp), ?_⟩
        have := HP2.out.chg HB3.out
        rw [rem_succ, sh_succ] at this
        exact this
    · obtain rfl : n = 1 := by omega
      rw [upv_one 1 i s p (by omega), plen_one 1 i (by omega)]
      have HP := Lib.hid hpr.zero
      clear hpr ih
      have hl := lt_of_cell hcl
      go_enter Tryz.func119, Tryz.ntmps119
      go_wp2
      go_ret
      exact ⟨rfl, Chg.refl _ _, HP.out⟩
end

section
open Go.RowKit

theorem clone_any (A : Option Addr) (c : Nat) (l : List ByteArray) (w : World) (hS : Strs w A l) (hbig : l.length ≤ 1000000) :
    Calls Tryz.prog 118 #[.slice A l.length c] w fun e w' => ∃ A' c', e = .returned (.slice A' l.length c') ∧ Strs w' A' l ∧ l.length ≤ c' ∧ (∀ a, A' = some a → w.heap.size ≤ a.block ∧ a.block < w'.heap.size) ∧ Below w.heap.size w w' := by
  have own : ∀ (w' : World) (v : Value), w'.ownsRow w.heap.size 9 1 v l.length (l.map Value.string) → Below w.heap.size w w' → ∃ A' c', (Ending.returned v : Ending) = .returned (.slice A' l.length c') ∧ Strs w' A' l ∧ l.length ≤ c' ∧ (∀ a, A' = some a → w.heap.size ≤ a.block ∧ a.block < w'.heap.size) ∧ Below w.heap.size w w' := fun w' v ho hb => by
    obtain ⟨A', c', rfl, h1, -, h3⟩ := Rd.of_own ho
    refine ⟨A', c', rfl, h3, h1, fun a ha => ?_, hb⟩
    subst ha
    exact ho.lt a.block rfl
  by_cases h0 : l.length = 0
  · obtain rfl : l = [] := List.eq_nil_of_length_eq_zero h0
    cases A with
    | none =>
      refine (Tryz.slices_Clone_string_nil 0 c w).mono ?_
      rintro e w' ⟨rfl, rfl⟩
      exact ⟨none, 0, rfl, ⟨rfl, fun h => by simp at h⟩, Nat.le_refl _, fun a ha => (by cases ha), Below.refl _ _⟩
    | some a =>
      refine (Tryz.slices_Clone_string_zero a c w).mono ?_
      rintro e w' ⟨v, rfl, ho, -, hb⟩
      exact own w' v ho hb
  · obtain ⟨b, off, rfl, hc⟩ := hS.2 (by omega)
    refine (Tryz.slices_Clone_string b off l.length c l w (Nat.le_refl _) (by omega) (fun j hj => ?_)).mono ?_
    · have := hc j (.string l[j]) (by simp [hj])
      rw [this]
      simp [List.getD, hj]
    · rintro e w' ⟨v, rfl, ho, -, hb⟩
      rw [List.take_length] at ho
      exact own w' v ho hb

def chkB (root : ByteArray) (n i : Int) (leaf : ByteArray) (p : List ByteArray) : Bool :=
  decide (n ≤ 1000000 ∧ 0 ≤ i ∧ i < n) && allD p && isD leaf && (decide (upv n.toNat i.toNat leaf p = root) && decide (p.length = plen n.toNat i.toNat))

theorem chk_done (p : List ByteArray) (k : Nat) : (!(false || decide (p.length < k)) && decide ((rem p k).length = 0)) = decide (p.length = k) := by
  unfold rem
  rw [List.length_take]
  by_cases h1 : p.length < k
  · have : ¬ p.length = k := by omega
    simp [h1, this]
  · by_cases h2 : p.length = k
    · simp [h2]
    · have : ¬ min (p.length - k) p.length = 0 := by omega
      simp [h1, h2, this]; omega

set_option maxRecDepth 100000 in
set_option maxHeartbeats 16000000 in
theorem tcheck_any (root : ByteArray) (n i : Int) (leaf : ByteArray) (A : Option Addr) (c : Nat) (p : List ByteArray) (w : World) (hT : Tabs w) (hS : Strs w A p) (hbig : p.length ≤ 1000000) (hleaf : leaf.size ≤ 1000000000) (hsz : ∀ s, s ∈ p → s.size ≤ 1000000000) :
    Calls Tryz.prog 105 #[.string root, .int .i64 n, .int .i64 i, .string leaf, .slice A p.length c] w fun e w' => e = .returned (.bool (chkB root n i leaf p)) ∧ Below w.heap.size w w' := by
  obtain ⟨w1, hw1⟩ : ∃ w1, w.alloc (.cells #[.string leaf] 9) = w1 := ⟨_, rfl⟩
  have HB1 : Hid (Below w.heap.size w w1) := Lib.hid (by rw [← hw1]; exact below_alloc (Below.refl _ _) _)
  have HC1 : Hid (Blk w1 w.heap.size 9 #[.string leaf]) := Lib.hid (by rw [← hw1]; exact Blk.new _ _ _ _ rfl)
  have HCL := Lib.hid (clone_any A c p w1 (hS.below HB1.out) hbig)
  have HW1 := Lib.hid hw1
  have HT := Lib.hid (fun W (hW : Below w.heap.size w W) => hT.below hW)
  have HSZ := Lib.hid hsz
  have HHS : Hid (w1.heap.size = w.heap.size + 1) := Lib.hid (by rw [← hw1]; simp)
  have hlw1 : w.heap.size < w1.heap.size := by rw [HHS.out]; omega
  clear hw1 hS hT hsz
  go_enter Tryz.func105, Tryz.ntmps105
  go_wp2_with fail
  rw [HW1.out]
  refine HCL.out.mono ?_
  rintro e w2 ⟨A', c', rfl, hS2, hc', hA2, hb2⟩
  have HB2 := Lib.hid (below_trans HB1.out hb2)
  have HL2 := Lib.hid (HC1.out.chg (Chg.of_below hb2 []) (by simp))
  have HS2 := Lib.hid hS2
  have HCC := Lib.hid hc'
  have HA2 := Lib.hid hA2
  have hl2 : w.heap.size < w2.heap.size := Nat.lt_of_lt_of_le hlw1 hb2.size
  have HL21 : Hid (w1.heap.size ≤ w2.heap.size) := Lib.hid hb2.size
  clear hS2 hc' hA2 hb2 HCL
  obtain ⟨w3, hw3⟩ : ∃ w3, w2.alloc (.cells #[.slice A' p.length c'] 98) = w3 := ⟨_, rfl⟩
  have HB3 : Hid (Below w.heap.size w w3) := Lib.hid (by rw [← hw3]; exact below_alloc HB2.out _)
  have HD3 : Hid (Blk w3 w2.heap.size 98 #[.slice A' p.length c']) := Lib.hid (by rw [← hw3]; exact Blk.new _ _ _ _ rfl)
  have HS3 : Hid (Strs w3 A' p) := Lib.hid (by rw [← hw3]; exact HS2.out.below (below_alloc (Below.refl _ _) _))
  have HL3 : Hid (Blk w3 w.heap.size 9 #[.string leaf]) := Lib.hid (by rw [← hw3]; exact HL2.out.alloc _)
  have HW3 := Lib.hid hw3
  have hl3 : w2.heap.size < w3.heap.size := by rw [← hw3]; simp
  have d3 := HD3.out.cell 0
  have l3 := HL3.out.cell 0
  simp only [List.getElem?_toArray, List.getElem?_cons_zero] at d3 l3
  clear hw3
  by_cases hni : n ≤ 1000000 ∧ 0 ≤ i ∧ i < n
  · obtain ⟨g1, g2, g3⟩ := hni
    obtain ⟨nn, rfl⟩ : ∃ nn : Nat, n = nn := ⟨n.toNat, by omega⟩
    obtain ⟨ii, rfl⟩ : ∃ ii : Nat, i = ii := ⟨i.toNat, by omega⟩
    have hchk : chkB root nn ii leaf p = (allD p && isD leaf && (decide (upv nn ii leaf p = root) && decide (p.length = plen nn ii))) := by
      unfold chkB
      have : ((nn : Int) ≤ 1000000 ∧ (0 : Int) ≤ ii ∧ (ii : Int) < nn) := ⟨g1, g2, g3⟩
      rw [decide_eq_true this, Bool.true_and, Int.toNat_natCast, Int.toNat_natCast]
    have HCHK := Lib.hid hchk
    have HPR := Lib.hid (proper_any A' c' p w3 hbig HS3.out HSZ.out)
    clear hchk
    go_wp2_with fail
    rw [HW3.out]
    refine HPR.out.mono ?_
    rintro e w4 ⟨rfl, hb4⟩
    have HB4 := Lib.hid (below_trans HB3.out hb4)
    have HD4 := Lib.hid (HD3.out.chg (Chg.of_below hb4 []) (by simp))
    have HL4 := Lib.hid (HL3.out.chg (Chg.of_below hb4 []) (by simp))
    have HS4 := Lib.hid (HS3.out.below hb4)
    have l4 := HL4.out.cell 0
    simp only [List.getElem?_toArray, List.getElem?_cons_zero] at l4
    have ll4 := HL4.out.lt
    clear d3 l3 hb4
    cases hall : allD p with
    | false =>
      rw [hall] at HCHK
      have HH := Lib.hid hall
      clear hall
      go_wp2
      go_ret
      exact ⟨ret_bool (by rw [HCHK.out]; rfl), HB4.out⟩
    | true =>
    have HALL := Lib.hid hall
    rw [hall] at HCHK
    have HIS := Lib.hid (is_any leaf w4 hleaf)
    clear hall
    go_wp2_with fail
    refine HIS.out.mono ?_
    rintro e w5 ⟨rfl, hb5⟩
    have HB5 := Lib.hid (below_trans HB4.out hb5)
    have HD5 := Lib.hid (HD4.out.chg (Chg.of_below hb5 []) (by simp))
    have HL5 := Lib.hid (HL4.out.chg (Chg.of_below hb5 []) (by simp))
    have HS5 := Lib.hid (HS4.out.below hb5)
    have hl5 := HD5.out.lt
    clear l4 hb5
    cases hd : isD leaf with
    | false =>
      rw [hd] at HCHK
      clear hd
      go_wp2
      go_ret
      exact ⟨ret_bool (by rw [HCHK.out]; rfl), HB5.out⟩
    | true =>
    have hl16 := isD_16 hd
    rw [hd] at HCHK
    clear hd
    go_wp2_with fail
    obtain ⟨w6, hw6⟩ : ∃ w6, (((w5.alloc (.cells #[.pointer (some ⟨w2.heap.size, 0, none⟩), .bool false] 141)).alloc (.cells #[.pointer (some ⟨w5.heap.size, 0, none⟩)] 138)).alloc
        (.cells #[.func (.func 119) #[] #[.pointer (some ⟨w.heap.size, 0, none⟩), .pointer (some ⟨w5.heap.size + 1, 0, none⟩), .pointer (some ⟨w5.heap.size + 1 + 1, 0, none⟩)]] 142)) = w6 := ⟨_, rfl⟩
    have hb6 : Below w5.heap.size w5 w6 := by rw [← hw6]; exact below_alloc (below_alloc (below_alloc (Below.refl _ _) _) _) _
    have HB6 := Lib.hid (below_trans HB5.out hb6)
    have hc6 := Chg.of_below hb6 []
    have hP6 : Blk w6 w5.heap.size 141 #[.pointer (some ⟨w2.heap.size, 0, none⟩), .bool false] := by
      rw [← hw6]; exact ((Blk.new w5 _ _ _ rfl).alloc _).alloc _
    have hV6 : Blk w6 (w5.heap.size + 1) 138 #[.pointer (some ⟨w5.heap.size, 0, none⟩)] := by
      rw [← hw6]; exact (Blk.new _ _ _ _ (by simp)).alloc _
    have hU6 : Blk w6 (w5.heap.size + 1 + 1) 142 #[.func (.func 119) #[] #[.pointer (some ⟨w.heap.size, 0, none⟩), .pointer (some ⟨w5.heap.size + 1, 0, none⟩), .pointer (some ⟨w5.heap.size + 1 + 1, 0, none⟩)]] := by
      rw [← hw6]; exact Blk.new _ _ _ _ (by simp)
    have hl52 : w2.heap.size < w5.heap.size := hl5
    have hpr6 : PrS w6 w2.heap.size w5.heap.size p false := by
      refine ⟨⟨A', c', HD5.out.chg hc6 (by simp), HS5.out.below hb6, HCC.out, fun a ha hm => ?_⟩, hP6, by omega, hbig, HALL.out⟩
      have := HA2.out a ha
      simp only [List.mem_cons, List.not_mem_nil, or_false] at hm
      omega
    have HCALL := Lib.hid (checkc_any w (HT.out w (Below.refl _ _)) w.heap.size (w5.heap.size + 1) (w5.heap.size + 1 + 1) w2.heap.size w5.heap.size leaf (by omega) (by omega) (by omega)
      (by simp only [List.mem_cons, List.not_mem_nil, or_false]; omega) (by simp only [List.mem_cons, List.not_mem_nil, or_false]; omega) (by simp only [List.mem_cons, List.not_mem_nil, or_false]; omega)
      nn nn ii p false w6 (Nat.le_refl _) (by omega) (by omega) (by omega) HB6.out hpr6 ((HL5.out.chg hc6 (by simp)).cell 0) (hV6.cell 0) (hU6.cell 0))
    have HV6 := Lib.hid hV6
    have HNV : Hid (w5.heap.size + 1 ∉ [w2.heap.size, w5.heap.size]) := Lib.hid (by simp only [List.mem_cons, List.not_mem_nil, or_false]; omega)
    have HFB : Hid (∀ w', Chg [w2.heap.size, w5.heap.size] w6 w' → Below w.heap.size w w') := Lib.hid (fun w' hc => HB6.out.trans (hc.below (fun k hk => by
      simp only [List.mem_cons, List.not_mem_nil, or_false] at hk
      rcases hk with rfl | rfl <;> omega) HB6.out.size))
    have HW6 := Lib.hid hw6
    clear hb6 hc6 hP6 hV6 hU6 hpr6 hw6
    rw [HW6.out]
    refine HCALL.out.mono ?_
    rintro e w7 ⟨rfl, hc7, hp7⟩
    have HV7 := Lib.hid (HV6.out.chg hc7 HNV.out)
    have v7 := HV7.out.cell 0
    simp only [List.getElem?_toArray, List.getElem?_cons_zero] at v7
    have lv7 := HV7.out.lt
    have HDN := Lib.hid (done_any w2.heap.size w5.heap.size _ _ w7 hp7)
    rw [chk_done] at HDN
    have HB7 := Lib.hid (HFB.out w7 hc7)
    clear hc7 hp7 HCALL
    obtain ⟨b, hb⟩ : ∃ b, decide (upv nn ii leaf p = root) = b := ⟨_, rfl⟩
    have hbe : ((upv nn ii leaf p).toList == root.toList) = b := by rw [beq_bytes]; exact hb
    rw [hb] at HCHK
    clear hb
    generalize upv nn ii leaf p = u at *
    cases b with
    | false =>
      go_wp2
      go_ret
      exact ⟨ret_bool (by rw [HCHK.out]; rfl), HB7.out⟩
    | true =>
      go_wp2_with fail
      refine HDN.out.mono ?_
      rintro e _ ⟨rfl, rfl⟩
      go_wp2
      go_ret
      exact ⟨ret_bool (by rw [HCHK.out]; simp), HB7.out⟩
  · have hchk : chkB root n i leaf p = false := by unfold chkB; simp only [decide_eq_false hni, Bool.false_and]
    have HCHK := Lib.hid hchk
    clear hchk
    have hor : 1000000 < n ∨ (n ≤ 1000000 ∧ i < 0) ∨ (n ≤ 1000000 ∧ 0 ≤ i ∧ n ≤ i) := by omega
    clear hni
    rcases hor with g1 | ⟨g1, g2⟩ | ⟨g1, g2, g3⟩
    all_goals
      go_wp2_with fail
      rw [HW3.out]
      go_wp2
      go_ret
      exact ⟨ret_bool HCHK.out.symm, HB3.out⟩
end

section
open Go.RowKit

theorem info_strg : (Tryz.prog.info? 9).map (fun i => (i.zero, i.size, i.bytes)) = some (some (.string ByteArray.empty), 1, 16) := by kernel_rfl
theorem strsOf_rev (l : List ByteArray) : ((Go.Lib.strsOf (fun i => l.getD i ByteArray.empty) l.length).reverse.map encStr) = l.reverse.map Value.string := by
  have e : Go.Lib.strsOf (fun i => l.getD i ByteArray.empty) l.length = l.map (fun s => s.data.toList) := by
    apply List.ext_getElem?
    intro i
    by_cases hi : i < l.length
    · simp [Go.Lib.strsOf, hi]
    · simp [Go.Lib.strsOf, hi]
  rw [e, ← List.map_reverse, List.map_map]
  rfl

theorem below_setCs {B : Nat} {a : World} (b : Nat) (hb : B ≤ b) : ∀ (vs : List Value) (o : Nat) {w : World}, Below B a w → Below B a (w.setCells b o vs)
  | [], _, _, h => h
  | v :: r, o, _, h => below_setCs b hb r (o + 1) (h.setCell (p := ⟨b, o, none⟩) hb v)

theorem rev_any (B : Nat) (v : Value) (l : List ByteArray) (w : World) (h : w.ownsRow B 9 1 v l.length (l.map Value.string)) (hb : l.length ≤ 1000000) (hB : B ≤ w.heap.size) :
    Calls Tryz.prog 68 #[v] w fun e w' => e = .returned (.tuple #[]) ∧ ∃ A c, v = .slice A l.length c ∧ l.length ≤ c ∧ Strs w' A l.reverse ∧ (∀ a, A = some a → B ≤ a.block ∧ a.block < w'.heap.size) ∧ Below B w w' := by
  rcases h.2 with ⟨rfl, h0⟩ | ⟨g, cap, cur, rfl, hg1, hg2, hg3, hg4, hg5, hg6⟩
  · have h0' : l.length = 0 := h0
    obtain rfl : l = [] := List.eq_nil_of_length_eq_zero h0'
    refine (Tryz.slices_Reverse_string_empty none 0 w).mono ?_
    rintro e w' ⟨rfl, rfl⟩
    exact ⟨rfl, none, 0, rfl, Nat.le_refl _, ⟨rfl, fun h => by simp at h⟩, fun a ha => (by cases ha), Below.refl _ _⟩
  · have hrd := Rd.of_own h
    obtain ⟨A, c, hv, hc1, -, hR⟩ := hrd
    obtain ⟨rfl, rfl⟩ : some ⟨g, 0, none⟩ = A ∧ cap = c := by simpa using hv
    have hcell : ∀ i, i < l.length → w.cell? ⟨g, 0 + i, none⟩ = some (.string (l.getD i ByteArray.empty)) := fun i hi => by
      obtain ⟨b', off', e, hc⟩ := hR.2 (by omega)
      obtain ⟨rfl, rfl⟩ : g = b' ∧ 0 = off' := by simpa using e
      exact hc i _ (by simp [hi])
    refine (Tryz.slices_Reverse_string_cells g 0 l.length cap (fun i => l.getD i ByteArray.empty) w (by omega) hcell (fun j _ => frozen_of_row w g _ cur 9 hg2)).mono ?_
    rintro e w' ⟨rfl, q, rfl⟩
    rw [strsOf_rev]
    have hbel : Below B w ((w.drewN q).setCells g 0 (l.reverse.map Value.string)) := below_setCs g hg1 _ 0 ⟨rfl, rfl, rfl, Nat.le_refl _, fun _ _ => rfl⟩
    refine ⟨rfl, some ⟨g, 0, none⟩, cap, rfl, hc1, ⟨by simp, fun hn => ⟨g, 0, rfl, fun j u hu => ?_⟩⟩, fun a ha => ?_, hbel⟩
    · have hj : j < (l.reverse.map Value.string).length := (List.getElem?_eq_some_iff.1 hu).1
      have hin := World.cell?_setCells_in g (l.reverse.map Value.string) 0 (w.drewN q) (fun i hi => by
        have : i < l.length := by simpa using hi
        show ((w.drewN q).cell? ⟨g, 0 + i, none⟩).isSome = true
        have h2 : (w.drewN q).cell? ⟨g, 0 + i, none⟩ = w.cell? ⟨g, 0 + i, none⟩ := rfl
        rw [h2, hcell i this]; rfl) j hj
      rw [hin, ← (List.getElem?_eq_some_iff.1 hu).2]
    · cases ha
      exact ⟨hg1, Nat.lt_of_lt_of_le (Array.getElem?_eq_some_iff.1 hg2).1 hbel.size⟩

def lenV : Value → Nat
  | .slice _ n _ => n
  | _ => 0

theorem pt_below (l : List ByteArray) (i : Nat) (h : sm l) : ∀ s ∈ pt l i, s.size ≤ 200 := by
  obtain ⟨n, hn⟩ : ∃ n, l.length = n := ⟨_, rfl⟩
  induction n using Nat.strongRecOn generalizing l i with
  | _ n ih =>
    by_cases h2 : 2 ≤ l.length
    · have k1 := hf_lt l.length h2
      have k2 := hf_pos l.length
      intro s hs
      by_cases hi : i < hf l.length
      · rw [pt_lt l i h2 hi] at hs
        rcases List.mem_append.1 hs with h3 | h3
        · exact ih _ (by rw [List.length_take]; omega) _ i (h.take _) rfl s h3
        · rw [List.mem_singleton.1 h3]; exact rt_size _ (h.drop _)
      · rw [pt_ge l i h2 hi] at hs
        rcases List.mem_append.1 hs with h3 | h3
        · exact ih _ (by rw [List.length_drop]; omega) _ _ (h.drop _) rfl s h3
        · rw [List.mem_singleton.1 h3]; exact rt_size _ (h.take _)
    · rw [pt_one l i h2]; intro s hs; cases hs
theorem plen_lt_n (n i : Nat) (h : 1 ≤ n) : plen n i < n := by
  induction n using Nat.strongRecOn generalizing i with
  | _ n ih =>
    by_cases h2 : 2 ≤ n
    · have k1 := hf_lt n h2
      have k2 := hf_pos n
      by_cases hi : i < hf n
      · rw [plen_lt n i h2 hi]; have := ih (hf n) k1 i k2; omega
      · rw [plen_ge n i h2 hi]; have := ih (n - hf n) (by omega) (i - hf n) (by omega); omega
    · rw [plen_one n i h2]; omega

set_option maxRecDepth 100000 in
set_option maxHeartbeats 16000000 in
theorem tpath_any (A : Option Addr) (c : Nat) (l : List ByteArray) (i : Int) (w : World) (hbig : l.length ≤ 100000) (hcap : l.length ≤ c) (hS : Strs w A l) (hsm : sm l) (hT : Tabs w) (hD : allD l = true) (hi0 : 0 ≤ i) (hi1 : i < l.length) :
    Calls Tryz.prog 41 #[.slice A l.length c, .int .i64 i] w fun e w' => ∃ A' c', e = .returned (.tuple #[.slice A' (pt l i.toNat).length c', .int .i64 0]) ∧ (pt l i.toNat).length ≤ c' ∧ Strs w' A' (pt l i.toNat) ∧ (∀ a, A' = some a → w.heap.size ≤ a.block ∧ a.block < w'.heap.size) ∧ Below w.heap.size w w' := by
  obtain ⟨ii, rfl⟩ : ∃ ii : Nat, i = ii := ⟨i.toNat, by omega⟩
  rw [Int.toNat_natCast]
  have hpl : (pt l ii).length ≤ l.length := by rw [pt_len]; have := plen_lt_n l.length ii (by omega); omega
  obtain ⟨P0, hP0⟩ : ∃ P0, pt l ii = P0 := ⟨_, rfl⟩
  have HPL := Lib.hid hpl
  rw [hP0] at HPL ⊢
  have HP0 := Lib.hid hP0
  obtain ⟨ip, hj1, hy0, hy1, hy2⟩ := info_parts info_strg
  have HI := Lib.hid (And.intro hj1 (And.intro hy0 (And.intro hy1 hy2)))
  have HPR := Lib.hid (proper_any A c l w (by omega) hS (fun s hs => by have := hsm s hs; omega))
  rw [hD] at HPR
  have HTOT : Hid (∀ (b off c' : Nat) (l' : List ByteArray) (W : World), Below w.heap.size w W → Strs w (some ⟨b, off, none⟩) l' → sm l' → l'.length ≤ c' → l'.length ≤ 100000 → Calls Tryz.prog 67 #[.slice (some ⟨b, off, none⟩) l'.length c'] W fun e w' => e = .returned (.string (rt l')) ∧ Below W.heap.size W w') :=
    Lib.hid (fun b off c' l' W hW hs hm hc hb => total_any (some ⟨b, off, none⟩) c' l' W (by omega) hc (hs.below hW) hm (hT.below hW))
  obtain ⟨b0, off0, rfl, -⟩ := hS.2 (by omega)
  have HS := Lib.hid hS
  have HSM := Lib.hid hsm
  clear hj1 hy0 hy1 hy2 hD hT hS hsm hP0 hpl
  have HO : Hid (w.ownsRow w.heap.size 9 1 (.slice none 0 0) 0 []) := ⟨rfl, .inl ⟨rfl, rfl⟩⟩
  have hd1 : decide (l.length ≤ ii) = false := decide_eq_false (by omega)
  have hd2 : decide ((ii : Int) < 0) = false := decide_eq_false (by omega)
  go_enter Tryz.func41, Tryz.ntmps41
  go_wp2_with fail
  refine HPR.out.mono ?_
  rintro e w1 ⟨rfl, hb1⟩
  have HB1 := Lib.hid hb1
  have HO1 := Lib.hid (row_below HO.out hb1)
  clear hb1
  go_wp2_with fail
  go_loopw [0, 1, 6] (fun u0 u1 u6 wr => ∃ (b off c' : Nat) (l' : List ByteArray) (i' : Nat) (rest : List ByteArray), u0 = .slice (some ⟨b, off, none⟩) l'.length c' ∧ u1 = .int .i64 i' ∧ i' < l'.length ∧ l'.length ≤ c' ∧ l'.length ≤ 100000 ∧ Strs w (some ⟨b, off, none⟩) l' ∧ sm l' ∧
      P0 = pt l' i' ++ rest ∧ Below w.heap.size w wr ∧ wr.ownsRow w.heap.size 9 1 u6 rest.length (rest.reverse.map Value.string)) (fun u0 _ _ _ => lenV u0)
  case atStart => exact ⟨b0, off0, c, l, ii, [], rfl, rfl, by omega, hcap, hbig, HS.out, HSM.out, by rw [List.append_nil, HP0.out], HB1.out, HO1.out⟩
  case round =>
    obtain ⟨b, off, c', l', i', rest, rfl, rfl, g1, g2, g3, hs', hm', hp', hb', ho'⟩ := hrel
    have HS' := Lib.hid hs'
    have HM' := Lib.hid hm'
    have HP' := Lib.hid hp'
    have HB' := Lib.hid hb'
    have HO' := Lib.hid ho'
    clear hs' hm' hp' hb' ho'
    by_cases h2 : 2 ≤ l'.length
    · obtain ⟨k, hk⟩ : ∃ k, hf l'.length = k := ⟨_, rfl⟩
      have k1 := hf_lt l'.length h2
      have k2 := hf_pos l'.length
      rw [hk] at k1 k2
      have HH := Lib.hid (fun W => half_any l'.length (by omega) W)
      rw [hk] at HH
      by_cases hik : i' < k
      · have hst := pt_lt l' i' h2 (by rw [hk]; exact hik)
        rw [hk] at hst
        have hside := HTOT.out b (off + k) (c' - k) (l'.drop k) wr HB'.out (HS'.out.drop k) (HM'.out.drop k) (by rw [List.length_drop]; omega) (by rw [List.length_drop]; omega)
        rw [List.length_drop] at hside
        have hnl : (l'.take k).length = k := by rw [List.length_take]; omega
        have HSIDE := Lib.hid hside
        have HNL := Lib.hid hnl
        have HSN := Lib.hid (HS'.out.take k)
        have HMN := Lib.hid (HM'.out.take k)
        obtain ⟨x, hx⟩ : ∃ x, rt (l'.drop k) = x := ⟨_, rfl⟩
        rw [hx] at HSIDE hst
        have hp2 : P0 = pt (l'.take k) i' ++ (x :: rest) := by rw [HP'.out, hst, List.append_assoc]; rfl
        have hre : rest.length + 1 ≤ P0.length := by rw [hp2]; simp
        have HP2 := Lib.hid hp2
        have HRE : Hid (rest.length ≤ 100000) := Lib.hid (by have := HPL.out; omega)
        clear hst hside hnl hx hp2 hre
        generalize l'.length = m at *
        have hkm : (k : Int) ≤ (m : Int) := by omega
        have hkc : (k : Int) ≤ (c' : Int) := by omega
        have hck : (c' = k) = False := by simp; omega
        have hyi : (i' : Int) < (k : Int) := by omega
        go_wp2_with fail
        refine (HH.out wr).mono ?_
        rintro e _ ⟨rfl, rfl⟩
        go_wp2_with fail
        refine HSIDE.out.mono ?_
        rintro e w3 ⟨rfl, hb3⟩
        have HB3 := Lib.hid (below_trans HB'.out hb3)
        have HOA : Hid ((w3.alloc (.cells #[.string x] 9)).ownsRow w.heap.size 9 1 u6 rest.length (rest.reverse.map Value.string)) := Lib.hid (row_below (row_below HO'.out hb3) (below_alloc (Below.refl _ _) _))
        clear hb3
        go_wp2_with (at_builtin; refine wpList_app _ rfl (.tmp 30) (.tmp 35) 46 46 rfl w.heap.size 9 9 ip _ 1 16 Tryz.underlying46 Tryz.underlying46 HI.out.1 HI.out.2.1 HI.out.2.2.1 HI.out.2.2.2 rfl (by omega) u6 rest.length _ rfl HOA.out (some ⟨w3.heap.size, 0, none⟩) 1 1 [.string x] rfl (Rd_new w3 #[.string x] _ 1 1 _ rfl rfl) (by simp [Value.oneCell']) (by have := HRE.out; simp only [maxLen]; omega) (by have := HRE.out; omega) (by have := HB3.out.size; simp; omega) ?_)
        intro v6 w4 hown4 hg4
        have HB4 : Hid (Below w.heap.size w w4) := Lib.hid ((below_alloc HB3.out _).grown hg4 (by have := HB3.out.size; simp; omega) (fun j hj => (HOA.out.lt j hj).1))
        have e4 : (rest.map Value.string).reverse ++ [.string x] = (x :: rest).reverse.map Value.string := by simp
        rw [e4] at hown4
        have HO4 := Lib.hid hown4
        clear hown4 hg4 e4
        go_wp2
        go_roundw
        case rel =>
          refine ⟨b, off, c', l'.take k, i', x :: rest, by rw [HNL.out], by go_num, by rw [HNL.out]; omega, by rw [HNL.out]; omega, by rw [HNL.out]; omega, HSN.out, HMN.out, HP2.out, HB4.out, HO4.out⟩
        case measure => simp [lenV]; omega
      · have hst := pt_ge l' i' h2 (by rw [hk]; exact hik)
        rw [hk] at hst
        have hside := HTOT.out b off c' (l'.take k) wr HB'.out (HS'.out.take k) (HM'.out.take k) (by rw [List.length_take]; omega) (by rw [List.length_take]; omega)
        rw [List.length_take, Nat.min_eq_left (by omega)] at hside
        have hnl : (l'.drop k).length = l'.length - k := by rw [List.length_drop]
        have HSIDE := Lib.hid hside
        have HNL := Lib.hid hnl
        have HSN := Lib.hid (HS'.out.drop k)
        have HMN := Lib.hid (HM'.out.drop k)
        obtain ⟨x, hx⟩ : ∃ x, rt (l'.take k) = x := ⟨_, rfl⟩
        rw [hx] at HSIDE hst
        have hp2 : P0 = pt (l'.drop k) (i' - k) ++ (x :: rest) := by rw [HP'.out, hst, List.append_assoc]; rfl
        have hre : rest.length + 1 ≤ P0.length := by rw [hp2]; simp
        have HP2 := Lib.hid hp2
        have HRE : Hid (rest.length ≤ 100000) := Lib.hid (by have := HPL.out; omega)
        clear hst hside hnl hx hp2 hre
        generalize l'.length = m at *
        have hkm : (k : Int) ≤ (m : Int) := by omega
        have hkc : (k : Int) ≤ (c' : Int) := by omega
        have hck : (c' = k) = False := by simp; omega
        have hni : ¬ (i' : Int) < (k : Int) := by omega
        go_wp2_with fail
        refine (HH.out wr).mono ?_
        rintro e _ ⟨rfl, rfl⟩
        go_wp2_with fail
        refine HSIDE.out.mono ?_
        rintro e w3 ⟨rfl, hb3⟩
        have HB3 := Lib.hid (below_trans HB'.out hb3)
        have HOA : Hid ((w3.alloc (.cells #[.string x] 9)).ownsRow w.heap.size 9 1 u6 rest.length (rest.reverse.map Value.string)) := Lib.hid (row_below (row_below HO'.out hb3) (below_alloc (Below.refl _ _) _))
        clear hb3
        go_wp2_with (at_builtin; refine wpList_app _ rfl (.tmp 40) (.tmp 45) 46 46 rfl w.heap.size 9 9 ip _ 1 16 Tryz.underlying46 Tryz.underlying46 HI.out.1 HI.out.2.1 HI.out.2.2.1 HI.out.2.2.2 rfl (by omega) u6 rest.length _ rfl HOA.out (some ⟨w3.heap.size, 0, none⟩) 1 1 [.string x] rfl (Rd_new w3 #[.string x] _ 1 1 _ rfl rfl) (by simp [Value.oneCell']) (by have := HRE.out; simp only [maxLen]; omega) (by have := HRE.out; omega) (by have := HB3.out.size; simp; omega) ?_)
        intro v6 w4 hown4 hg4
        have HB4 : Hid (Below w.heap.size w w4) := Lib.hid ((below_alloc HB3.out _).grown hg4 (by have := HB3.out.size; simp; omega) (fun j hj => (HOA.out.lt j hj).1))
        have e4 : (rest.map Value.string).reverse ++ [.string x] = (x :: rest).reverse.map Value.string := by simp
        rw [e4] at hown4
        have HO4 := Lib.hid hown4
        clear hown4 hg4 e4
        go_wp2
        go_roundw
        case rel =>
          refine ⟨b, (off + k), (c' - k), l'.drop k, (i' - k), x :: rest, by rw [HNL.out], by go_num, by rw [HNL.out]; omega, by rw [HNL.out]; omega, by rw [HNL.out]; omega, HSN.out, HMN.out, HP2.out, HB4.out, HO4.out⟩
        case measure => simp [lenV]; omega
    · have hm1 : l'.length = 1 := by omega
      have hp2 : P0 = rest := by rw [HP'.out, pt_one l' i' h2]; rfl
      obtain rfl := hp2
      have hr := rev_any w.heap.size u6 P0.reverse wr (by rw [List.length_reverse]; exact HO'.out) (by rw [List.length_reverse]; have := HPL.out; omega) HB'.out.size
      rw [List.reverse_reverse, List.length_reverse] at hr
      have HR := Lib.hid hr
      clear hr
      go_wp2_with fail
      refine HR.out.mono ?_
      rintro e w3 ⟨rfl, A', c'', rfl, hc, hs3, ha3, hb3⟩
      have HC := Lib.hid hc
      have HS3 := Lib.hid hs3
      have HA3 := Lib.hid ha3
      have HB3 := Lib.hid (Below.trans HB'.out hb3)
      clear hc hs3 ha3 hb3
      go_wp2
      go_ret2
      exact ⟨A', c'', rfl, HC.out, HS3.out, HA3.out, HB3.out⟩
end

section
open Go.RowKit

set_option maxHeartbeats 1600000 in
theorem rhalf_any (n : Nat) (h : n ≤ 1000000) (w : World) : Calls Tryz.prog 57 #[.int .i64 n] w fun e w' => e = .returned (.int .i64 (hf n)) ∧ w = w' := by
  go_enter Tryz.func57, Tryz.ntmps57
  go_wp2_with fail
  go_loop [3] (fun u => ∃ j k : Nat, k = 2 ^ j ∧ (k < n ∨ j = 0) ∧ u = .int .i64 k) (fun u => n - (intOf u).toNat)
  case atStart => exact ⟨0, 1, rfl, .inr rfl, rfl⟩
  case round =>
    obtain ⟨j, k, hk, hj, rfl⟩ := hrel
    have hk1 : 1 ≤ k := by rw [hk]; exact Nat.one_le_two_pow
    have hk2 : k ≤ 1000000 := by
      rcases hj with h1 | rfl
      · omega
      · simp at hk; omega
    have HK := Lib.hid hk
    have HJ := Lib.hid hj
    clear hk hj
    by_cases hlt : 2 * k < n
    · go_wp2
      go_round
      case rel => exact ⟨j + 1, 2 * k, by rw [HK.out, Nat.pow_succ]; omega, .inl hlt, by go_num⟩
      case measure => simp [intOf]; omega
    · have he : hf n = k := by
        have := hf_eq n j (by rcases HJ.out with h1 | h1; exact .inl (by rw [← HK.out]; exact h1); exact .inr h1) (by rw [← HK.out]; omega)
        rw [this, HK.out]
      have HE := Lib.hid he
      clear he
      go_wp2
      go_ret
      exact ⟨ret_int (by rw [HE.out]), rfl⟩

set_option maxHeartbeats 1600000 in
theorem rnode_any (a b : ByteArray) (ha : a.size ≤ 200) (hb : b.size ≤ 200) (w : World) :
    Calls Tryz.prog 85 #[.string a, .string b] w fun e w' => e = .returned (.string (nd a b)) ∧ Below w.heap.size w w' := by
  obtain ⟨wa, hwa⟩ : ∃ wa, w.alloc (.cells #[.string bNode, .string a, .string b] 9) = wa := ⟨_, rfl⟩
  have HBA : Hid (Below w.heap.size w wa) := Lib.hid (by rw [← hwa]; exact below_alloc (Below.refl _ _) _)
  have HSA : Hid (Strs wa (some ⟨w.heap.size, 0, none⟩) [bNode, a, b]) := Lib.hid (by rw [← hwa]; exact Strs_new _ _ _ _ _ rfl rfl)
  have HWA := Lib.hid hwa
  have HL := Lib.hid (rlist (some ⟨w.heap.size, 0, none⟩) 3 [bNode, a, b] wa HSA.out (by simp) (by
    intro s hs
    simp only [List.mem_cons, List.not_mem_nil, or_false] at hs
    rcases hs with rfl | rfl | rfl
    · decide
    · exact ha
    · exact hb))
  clear hwa
  go_enter Tryz.func85, Tryz.ntmps85
  go_wp2_with fail
  have hwa := HWA.out
  unfold bNode at hwa
  rw [hwa]
  refine HL.out.mono ?_
  rintro e w1 ⟨rfl, hb1⟩
  have HB1 := Lib.hid (below_trans HBA.out hb1)
  clear hb1 hwa
  go_wp2
  go_ret
  exact ⟨rfl, HB1.out⟩

set_option maxHeartbeats 1600000 in
theorem rempty_any (w : World) : Calls Tryz.prog 84 #[] w fun e w' => e = .returned (.string em) ∧ Below w.heap.size w w' := by
  have HL := Lib.hid (rlist (some ⟨w.heap.size, 0, none⟩) 1 [bEmpty] (w.alloc (.cells #[.string bEmpty] 9)) (Strs_new _ _ _ _ _ rfl rfl) (by simp) (by intro s hs; rw [List.mem_singleton.1 hs]; decide))
  unfold bEmpty at HL
  go_enter Tryz.func84, Tryz.ntmps84
  go_wp2_with fail
  refine HL.out.mono ?_
  rintro e w1 ⟨rfl, hb1⟩
  have HB1 := Lib.hid (below_trans (below_alloc (Below.refl _ _) _) hb1)
  clear hb1
  go_wp2
  go_ret
  exact ⟨rfl, HB1.out⟩

set_option maxRecDepth 100000 in
set_option maxHeartbeats 8000000 in
theorem rroot_any (n : Nat) : ∀ (A : Option Addr) (c : Nat) (l : List ByteArray) (w : World), l.length ≤ n → l.length ≤ 100000 → l.length ≤ c → Strs w A l → sm l →
    Calls Tryz.prog 58 #[.slice A l.length c] w fun e w' => e = .returned (.string (rt l)) ∧ Below w.heap.size w w' := by
  induction n with
  | zero =>
    intro A c l w h1 h2 h3 hS hsm
    obtain rfl : l = [] := List.eq_nil_of_length_eq_zero (by omega)
    have HE := Lib.hid (rempty_any w)
    rw [rt_nil]
    clear hS hsm
    go_enter Tryz.func58, Tryz.ntmps58
    go_wp2_with fail
    refine HE.out.mono ?_
    rintro e w1 ⟨rfl, hb1⟩
    have HB1 := Lib.hid hb1
    clear hb1
    go_wp2
    go_ret
    exact ⟨rfl, HB1.out⟩
  | succ n ih =>
    intro A c l w hn hbig hcap hS hsm
    by_cases h2 : 2 ≤ l.length
    · obtain ⟨b, off, rfl, -⟩ := hS.2 (by omega)
      obtain ⟨k, hk⟩ : ∃ k, hf l.length = k := ⟨_, rfl⟩
      have HH := Lib.hid (rhalf_any l.length (by omega) w)
      rw [hk] at HH
      have k1 := hf_lt l.length h2
      have k2 := hf_pos l.length
      rw [hk] at k1 k2
      have hrt := rt_split l k h2 hk
      have hs1 := rt_size _ (hsm.take k)
      have hs2 := rt_size _ (hsm.drop k)
      have H1 : Hid (∀ W, Below w.heap.size w W → Calls Tryz.prog 58 #[.slice (some ⟨b, off, none⟩) k c] W fun e w' => e = .returned (.string (rt (l.take k))) ∧ Below w.heap.size w w') := Lib.hid (fun W hW => by
        have := ih (some ⟨b, off, none⟩) c (l.take k) W (by rw [List.length_take]; omega) (by rw [List.length_take]; omega) (by rw [List.length_take]; omega) ((hS.below hW).take k) (hsm.take k)
        rw [List.length_take, Nat.min_eq_left (by omega)] at this
        exact this.mono fun _ _ ⟨he, hb⟩ => ⟨he, below_trans hW hb⟩)
      have H2 : Hid (∀ W, Below w.heap.size w W → Calls Tryz.prog 58 #[.slice (some ⟨b, off + k, none⟩) (l.length - k) (c - k)] W fun e w' => e = .returned (.string (rt (l.drop k))) ∧ Below w.heap.size w w') := Lib.hid (fun W hW => by
        have := ih (some ⟨b, off + k, none⟩) (c - k) (l.drop k) W (by rw [List.length_drop]; omega) (by rw [List.length_drop]; omega) (by rw [List.length_drop]; omega) ((hS.below hW).drop k) (hsm.drop k)
        rw [List.length_drop] at this
        exact this.mono fun _ _ ⟨he, hb⟩ => ⟨he, below_trans hW hb⟩)
      have H3 : Hid (∀ W, Below w.heap.size w W → Calls Tryz.prog 85 #[.string (rt (l.take k)), .string (rt (l.drop k))] W fun e w' => e = .returned (.string (nd (rt (l.take k)) (rt (l.drop k)))) ∧ Below w.heap.size w w') := Lib.hid (fun W hW => (rnode_any _ _ hs1 hs2 W).mono fun _ _ ⟨he, hb⟩ => ⟨he, below_trans hW hb⟩)
      rw [hrt]
      generalize rt (l.take k) = r1 at *
      generalize rt (l.drop k) = r2 at *
      generalize l.length = m at *
      clear hrt hs1 hs2 hS hsm ih hk h2
      have hne : ((m : Int) == 1) = false := by simp; omega
      have hne0 : ((m : Int) == 0) = false := by simp; omega
      have hkm : (k : Int) ≤ (m : Int) := by omega
      have hkc : (k : Int) ≤ (c : Int) := by omega
      have hck : (c = k) = False := by simp; omega
      go_enter Tryz.func58, Tryz.ntmps58
      go_wp2_with fail
      refine HH.out.mono ?_
      rintro e _ ⟨rfl, rfl⟩
      go_wp2_with fail
      refine wp_region_below (by kernel_rfl) (by kernel_rfl) ?_
      refine wpQuiet_step (fun K hK => ?_)
      go_simp
      apply Exists.intro
      refine ⟨fun W hW => ?_, hK _ ?_⟩
      · (try go_simp
         exact rfl)
      clear hK K
      refine wpQuiet_step (fun K hK => ?_)
      go_simp
      apply Exists.intro
      refine ⟨fun W hW => ?_, hK _ ?_⟩
      · (try go_simp
         exact rfl)
      clear hK K
      refine wpQuiet_step (fun K hK => ?_)
      go_simp
      apply Exists.intro
      refine ⟨fun W hW => ?_, hK _ ?_⟩
      · (try go_simp
         exact rfl)
      clear hK K
      refine wpQuiet_step (fun K hK => ?_)
      go_simp
      apply Exists.intro
      refine ⟨fun W hW => ?_, hK _ ?_⟩
      · exact H1.out W hW
      clear hK K
      refine wpQuiet_step (fun K hK => ?_)
      go_simp
      apply Exists.intro
      refine ⟨fun W hW => ?_, hK _ ?_⟩
      · (try go_simp
         exact rfl)
      clear hK K
      refine wpQuiet_step (fun K hK => ?_)
      go_simp
      apply Exists.intro
      refine ⟨fun W hW => ?_, hK _ ?_⟩
      · (try go_simp
         exact rfl)
      clear hK K
      refine wpQuiet_step (fun K hK => ?_)
      go_simp
      apply Exists.intro
      refine ⟨fun W hW => ?_, hK _ ?_⟩
      · (try go_simp
         exact rfl)
      clear hK K
      refine wpQuiet_step (fun K hK => ?_)
      go_simp
      apply Exists.intro
      refine ⟨fun W hW => ?_, hK _ ?_⟩
      · exact H2.out W hW
      clear hK K
      refine wpQuiet_step (fun K hK => ?_)
      go_simp
      apply Exists.intro
      refine ⟨fun W hW => ?_, hK _ ?_⟩
      · exact H3.out W hW
      clear hK K
      refine wpQuiet_step (fun K hK => ?_)
      go_simp
      apply Exists.intro
      refine ⟨fun W hW => ?_, hK _ ?_⟩
      · (try go_simp
         exact rfl)
      clear hK K
      refine wpQuiet_nil ?_
      intro W hW
      go_wp2
      go_ret
      exact ⟨rfl, hW⟩
    · match l, h2, hS with
      | [], _, _ =>
        have HE := Lib.hid (rempty_any w)
        rw [rt_nil]
        clear hsm ih
        go_enter Tryz.func58, Tryz.ntmps58
        go_wp2_with fail
        refine HE.out.mono ?_
        rintro e w1 ⟨rfl, hb1⟩
        have HB1 := Lib.hid hb1
        clear hb1
        go_wp2
        go_ret
        exact ⟨rfl, HB1.out⟩
      | [x], _, hS =>
        obtain ⟨b, off, rfl, c0⟩ := hS.at_ (k := 0) (x := x) rfl
        have c0l := lt_of_cell c0
        rw [rt_one]
        clear ih hS hsm
        simp only [List.length_singleton, Nat.add_zero] at *
        go_enter Tryz.func58, Tryz.ntmps58
        go_wp2
        go_ret
        exact ⟨rfl, Below.refl _ _⟩
      | x :: y :: l, h2, _ => simp at h2
end

section
open Go.RowKit

theorem own_base {w : World} {B B' e size n : Nat} {v : Value} {xs : List Value} (h : w.ownsRow B e size v n xs) (hb : B' ≤ B) : w.ownsRow B' e size v n xs := by
  refine ⟨h.1, ?_⟩
  rcases h.2 with h1 | ⟨g, cap, cur, e1, e2, e3⟩
  · exact .inl h1
  · exact .inr ⟨g, cap, cur, e1, Nat.le_trans hb e2, e3⟩

theorem ptx_len (n i : Nat) (s : ByteArray) (p : List ByteArray) : (ptx n i s p).length = plen n i := by
  induction n using Nat.strongRecOn generalizing i p with
  | _ n ih =>
    by_cases h2 : 2 ≤ n
    · have k1 := hf_lt n h2
      have k2 := hf_pos n
      by_cases hi : i < hf n
      · rw [ptx_lt n i s p h2 hi, plen_lt n i h2 hi, List.length_append, List.length_singleton, ih (hf n) k1]; omega
      · rw [ptx_ge n i s p h2 hi, plen_ge n i h2 hi, List.length_append, List.length_singleton, ih (n - hf n) (by omega)]; omega
    · rw [ptx_one n i s p h2, plen_one n i h2]; rfl

theorem rjoin3 (a b : ByteArray) (ha : a.size ≤ 200) (hb : b.size ≤ 200) (W : World) :
    Calls Tryz.prog 32 #[.slice (some ⟨W.heap.size, 0, none⟩) 3 3] (W.alloc (.cells #[.string ⟨#[110, 111, 100, 101]⟩, .string a, .string b] 9)) fun e w' => e = .returned (.string (jb [bNode, a, b])) ∧ Below W.heap.size W w' := by
  have := rjoined (some ⟨W.heap.size, 0, none⟩) 3 [bNode, a, b] (W.alloc (.cells #[.string ⟨#[110, 111, 100, 101]⟩, .string a, .string b] 9)) (Strs_new _ _ _ _ _ rfl rfl) (by simp) (by
    intro s hs
    simp only [List.mem_cons, List.not_mem_nil, or_false] at hs
    rcases hs with rfl | rfl | rfl
    · decide
    · exact ha
    · exact hb)
  exact this.mono fun _ _ ⟨he, hb⟩ => ⟨he, below_trans (below_alloc (Below.refl _ _) _) hb⟩

theorem last_parts (p : List ByteArray) (h : 1 ≤ p.length) (hsm : sm p) : ∃ m x, p.length = m + 1 ∧ p[m]? = some x ∧ p.getLastD ByteArray.empty = x ∧ p.dropLast.length = m ∧ x.size ≤ 200 := by
  obtain ⟨m, hm⟩ : ∃ m, p.length = m + 1 := ⟨p.length - 1, by omega⟩
  obtain ⟨x, hx⟩ := get_some p m (by omega)
  refine ⟨m, x, hm, hx, ?_, by rw [List.length_dropLast, hm]; rfl, hsm x (List.mem_of_getElem? hx)⟩
  rw [List.getLastD_eq_getLast?, List.getLast?_eq_getElem?, hm]
  simp only [Nat.add_sub_cancel, hx, Option.getD_some]

set_option maxRecDepth 100000 in
set_option maxHeartbeats 16000000 in
theorem rup_any (q : Nat) : ∀ (n i : Nat) (s : ByteArray) (A : Option Addr) (c : Nat) (p : List ByteArray) (w : World), n ≤ q → 1 ≤ n → n ≤ 1000000 → i < n → p.length = plen n i → p.length ≤ c → Strs w A p → sm p → s.size ≤ 200 →
    Calls Tryz.prog 60 #[.int .i64 n, .int .i64 i, .string s, .slice A p.length c] w fun e w' => e = .returned (.string (upv n i s p)) ∧ Below w.heap.size w w' := by
  induction q with
  | zero => intro n i s A c p w h1 h2; omega
  | succ q ih =>
    intro n i s A c p w hn h1 hbig hi hpl hcap hS hsm hs
    by_cases h2 : 2 ≤ n
    · have k1 := hf_lt n h2
      have k2 := hf_pos n
      have hpn := plen_lt_n n i h1
      obtain ⟨m, x, hm, hx, hlast, hdl, hxs⟩ := last_parts p (by have := plen_zero n i; omega) hsm
      obtain ⟨b, off, rfl, c1⟩ := hS.at_ hx
      have c1l := lt_of_cell c1
      have HC1 : Hid (∀ W, Below w.heap.size w W → W.cell? ⟨b, off + m, none⟩ = some (.string x)) := Lib.hid (fun W hW => kept_cell hW c1)
      have HU : Hid (∀ (n' i' : Nat) (W : World), n' < n → 1 ≤ n' → i' < n' → m = plen n' i' → Below w.heap.size w W → Calls Tryz.prog 60 #[.int .i64 n', .int .i64 i', .string s, .slice (some ⟨b, off, none⟩) m c] W fun e w' => e = .returned (.string (upv n' i' s p.dropLast)) ∧ Below W.heap.size W w') := Lib.hid (fun n' i' W g1 g2 g4 g5 hW => by
        have := ih n' i' s (some ⟨b, off, none⟩) c p.dropLast W (by omega) g2 (by omega) g4 (by rw [hdl]; exact g5) (by rw [hdl]; omega) (by rw [List.dropLast_eq_take]; exact (hS.below hW).take _) (by rw [List.dropLast_eq_take]; exact hsm.take _) hs
        rw [hdl] at this
        exact this)
      have HND : Hid (∀ (a b : ByteArray) (W : World), a.size ≤ 200 → b.size ≤ 200 → Below w.heap.size w W → Calls Tryz.prog 85 #[.string a, .string b] W fun e w' => e = .returned (.string (nd a b)) ∧ Below W.heap.size W w') := Lib.hid (fun a b W ha hb _ => rnode_any a b ha hb W)
      obtain ⟨k, hk⟩ : ∃ k, hf n = k := ⟨_, rfl⟩
      have HH := Lib.hid (rhalf_any n hbig w)
      rw [hk] at HH
      have hwr : IntKind.i64.wrap (((m + 1 : Nat) : Int) - 1) = (m : Int) := by rw [IntWalk.i64_in _ (by omega)]; omega
      have hn1 : ((n : Int) == 1) = false := by simp; omega
      have hn10 : (n == 1) = false := by simp; omega
      by_cases hik : i < hf n
      · have hst := upv_lt n i s p h2 hik
        rw [hlast] at hst
        have hpp := plen_lt n i h2 hik
        rw [hk] at hst hpp hik k1 k2
        rw [hst, hm]
        have hus := upv_size k i s p.dropLast hs
        have HUP : Hid (∀ (W : World), Below w.heap.size w W → Calls Tryz.prog 60 #[.int .i64 (k : Nat), .int .i64 (i : Nat), .string s, .slice (some ⟨b, off, none⟩) m c] W fun e w' => e = .returned (.string (upv k i s p.dropLast)) ∧ Below W.heap.size W w') := Lib.hid (fun W hW => HU.out k i W (by omega) (by omega) (by omega) (by omega) hW)
        have c1' := c1
        have HUS := Lib.hid hus
        have HXS := Lib.hid hxs
        generalize upv k i s p.dropLast = u at *
        clear hst hpp hlast hdl hx hS hsm hk h2 HU hus hxs hs hpl ih hpn c1
        rw [hm] at hcap
        clear hm
        generalize hK : m + 1 = K at *
        have hmK : m < K := by omega
        have hmc : (m : Int) ≤ (c : Int) := by omega
        have hmm : (m : Int) ≤ (K : Int) := by omega
        have hyi : (i : Int) < (k : Int) := by omega
        go_enter Tryz.func60, Tryz.ntmps60
        go_wp2_with fail
        refine HH.out.mono ?_
        rintro e _ ⟨rfl, rfl⟩
        go_wp2_with fail
        refine (HUP.out w (Below.refl _ _)).mono ?_
        rintro e w1 ⟨rfl, hb1⟩
        have HB1 := Lib.hid hb1
        clear hb1
        go_wp2_with fail
        refine (HND.out u x w1 HUS.out HXS.out HB1.out).mono ?_
        rintro e w2 ⟨rfl, hb2⟩
        have HB2 := Lib.hid (below_trans HB1.out hb2)
        clear hb2
        go_wp2
        go_ret
        exact ⟨rfl, HB2.out⟩
      · have hst := upv_ge n i s p h2 hik
        rw [hlast] at hst
        have hpp := plen_ge n i h2 hik
        rw [hk] at hst hpp hik k1 k2
        rw [hst, hm]
        have hus := upv_size (n - k) (i - k) s p.dropLast hs
        have HUP : Hid (∀ (W : World), Below w.heap.size w W → Calls Tryz.prog 60 #[.int .i64 ((n - k) : Nat), .int .i64 ((i - k) : Nat), .string s, .slice (some ⟨b, off, none⟩) m c] W fun e w' => e = .returned (.string (upv (n - k) (i - k) s p.dropLast)) ∧ Below W.heap.size W w') := Lib.hid (fun W hW => HU.out (n - k) (i - k) W (by omega) (by omega) (by omega) (by omega) hW)
        have c1' := c1
        have HUS := Lib.hid hus
        have HXS := Lib.hid hxs
        generalize upv (n - k) (i - k) s p.dropLast = u at *
        clear hst hpp hlast hdl hx hS hsm hk h2 HU hus hxs hs hpl ih hpn c1
        rw [hm] at hcap
        clear hm
        generalize hK : m + 1 = K at *
        have hmK : m < K := by omega
        have hmc : (m : Int) ≤ (c : Int) := by omega
        have hmm : (m : Int) ≤ (K : Int) := by omega
        have hni : ¬ (i : Int) < (k : Int) := by omega
        have e1 : (n : Int) - (k : Int) = ((n - k : Nat) : Int) := by omega
        have e2 : (i : Int) - (k : Int) = ((i - k : Nat) : Int) := by omega
        have HE1 := Lib.hid e1
        have HE2 := Lib.hid e2
        clear e1 e2
        go_enter Tryz.func60, Tryz.ntmps60
        go_wp2_with fail
        refine HH.out.mono ?_
        rintro e _ ⟨rfl, rfl⟩
        go_wp2_with fail
        rw [HE1.out, HE2.out]
        refine (HUP.out w (Below.refl _ _)).mono ?_
        rintro e w1 ⟨rfl, hb1⟩
        have HB1 := Lib.hid hb1
        clear hb1
        go_wp2_with fail
        refine (HND.out x u w1 HXS.out HUS.out HB1.out).mono ?_
        rintro e w2 ⟨rfl, hb2⟩
        have HB2 := Lib.hid (below_trans HB1.out hb2)
        clear hb2
        go_wp2
        go_ret
        exact ⟨rfl, HB2.out⟩
    · obtain rfl : n = 1 := by omega
      rw [upv_one 1 i s p (by omega)]
      clear ih hS hsm
      go_enter Tryz.func60, Tryz.ntmps60
      go_wp2
      go_ret
      exact ⟨rfl, Below.refl _ _⟩

set_option maxRecDepth 100000 in
set_option maxHeartbeats 16000000 in
theorem rptx_any (q : Nat) : ∀ (n i : Nat) (s : ByteArray) (A : Option Addr) (c : Nat) (p : List ByteArray) (w : World), n ≤ q → 1 ≤ n → n ≤ 1000000 → i < n → p.length = plen n i → p.length ≤ c → Strs w A p → sm p → s.size ≤ 200 →
    Calls Tryz.prog 37 #[.int .i64 n, .int .i64 i, .string s, .slice A p.length c] w fun e w' => ∃ v, e = .returned v ∧ w'.ownsRow w.heap.size 9 1 v (ptx n i s p).length ((ptx n i s p).map Value.string) ∧ Below w.heap.size w w' := by
  induction q with
  | zero => intro n i s A c p w h1 h2; omega
  | succ q ih =>
    intro n i s A c p w hn h1 hbig hi hpl hcap hS hsm hs
    by_cases h2 : 2 ≤ n
    · have k1 := hf_lt n h2
      have k2 := hf_pos n
      have hpn := plen_lt_n n i h1
      obtain ⟨m, x, hm, hx, hlast, hdl, hxs⟩ := last_parts p (by have := plen_zero n i; omega) hsm
      obtain ⟨b, off, rfl, c1⟩ := hS.at_ hx
      have c1l := lt_of_cell c1
      have HC1 : Hid (∀ W, Below w.heap.size w W → W.cell? ⟨b, off + m, none⟩ = some (.string x)) := Lib.hid (fun W hW => kept_cell hW c1)
      have HU : Hid (∀ (n' i' : Nat) (W : World), n' < n → 1 ≤ n' → i' < n' → m = plen n' i' → Below w.heap.size w W → Calls Tryz.prog 60 #[.int .i64 n', .int .i64 i', .string s, .slice (some ⟨b, off, none⟩) m c] W fun e w' => e = .returned (.string (upv n' i' s p.dropLast)) ∧ Below W.heap.size W w') := Lib.hid (fun n' i' W g1 g2 g4 g5 hW => by
        have := rup_any q n' i' s (some ⟨b, off, none⟩) c p.dropLast W (by omega) g2 (by omega) g4 (by rw [hdl]; exact g5) (by rw [hdl]; omega) (by rw [List.dropLast_eq_take]; exact (hS.below hW).take _) (by rw [List.dropLast_eq_take]; exact hsm.take _) hs
        rw [hdl] at this
        exact this)
      have HP : Hid (∀ (n' i' : Nat), n' < n → 1 ≤ n' → i' < n' → m = plen n' i' → Calls Tryz.prog 37 #[.int .i64 n', .int .i64 i', .string s, .slice (some ⟨b, off, none⟩) m c] w fun e w' => ∃ v, e = .returned v ∧ w'.ownsRow w.heap.size 9 1 v (ptx n' i' s p.dropLast).length ((ptx n' i' s p.dropLast).map Value.string) ∧ Below w.heap.size w w') := Lib.hid (fun n' i' g1 g2 g4 g5 => by
        have := ih n' i' s (some ⟨b, off, none⟩) c p.dropLast w (by omega) g2 (by omega) g4 (by rw [hdl]; exact g5) (by rw [hdl]; omega) (by rw [List.dropLast_eq_take]; exact hS.take _) (by rw [List.dropLast_eq_take]; exact hsm.take _) hs
        rw [hdl] at this
        exact this)
      have HND : Hid (∀ (a b : ByteArray) (W : World), a.size ≤ 200 → b.size ≤ 200 → Below w.heap.size w W → Calls Tryz.prog 85 #[.string a, .string b] W fun e w' => e = .returned (.string (nd a b)) ∧ Below W.heap.size W w') := Lib.hid (fun a b W ha hb _ => rnode_any a b ha hb W)
      obtain ⟨k, hk⟩ : ∃ k, hf n = k := ⟨_, rfl⟩
      have HH := Lib.hid (rhalf_any n hbig w)
      rw [hk] at HH
      have hwr : IntKind.i64.wrap (((m + 1 : Nat) : Int) - 1) = (m : Int) := by rw [IntWalk.i64_in _ (by omega)]; omega
      have hn1 : ((n : Int) == 1) = false := by simp; omega
      have hn10 : (n == 1) = false := by simp; omega
      by_cases hik : i < hf n
      · have hst := ptx_lt n i s p h2 hik
        rw [hlast] at hst
        have hpp := plen_lt n i h2 hik
        rw [hk] at hst hpp hik k1 k2
        rw [hst, hm]
        have hus := upv_size k i s p.dropLast hs
        have HUP : Hid (∀ (W : World), Below w.heap.size w W → Calls Tryz.prog 60 #[.int .i64 (k : Nat), .int .i64 (i : Nat), .string s, .slice (some ⟨b, off, none⟩) m c] W fun e w' => e = .returned (.string (upv k i s p.dropLast)) ∧ Below W.heap.size W w') := Lib.hid (fun W hW => HU.out k i W (by omega) (by omega) (by omega) (by omega) hW)
        have HPT := Lib.hid (HP.out k i (by omega) (by omega) (by omega) (by omega))
        have htl : (ptx k i s p.dropLast).length ≤ 1000000 := by rw [ptx_len]; omega
        have HTL := Lib.hid htl
        obtain ⟨ip, hj1, hy0, hy1, hy2⟩ := info_parts info_strg
        have HI := Lib.hid (And.intro hj1 (And.intro hy0 (And.intro hy1 hy2)))
        clear hj1 hy0 hy1 hy2 htl
        generalize ptx k i s p.dropLast = T at *
        have HJ : Hid (∀ W : World, Below w.heap.size w W → Calls Tryz.prog 32 #[.slice (some ⟨W.heap.size, 0, none⟩) 3 3] (W.alloc (.cells #[.string ⟨#[110, 111, 100, 101]⟩, .string (upv k i s p.dropLast), .string x] 9)) fun e w' => e = .returned (.string (jb [bNode, (upv k i s p.dropLast), x])) ∧ Below W.heap.size W w') := Lib.hid (fun W _ => rjoin3 _ x hus hxs W)
        have c1' := c1
        have HUS := Lib.hid hus
        have HXS := Lib.hid hxs
        generalize upv k i s p.dropLast = u at *
        generalize jb [bNode, u, x] = y at *
        clear hst hpp hlast hdl hx hS hsm hk h2 HU hus hxs hs hpl ih hpn c1 HP
        rw [hm] at hcap
        clear hm
        generalize hK : m + 1 = K at *
        have hmK : m < K := by omega
        have hmc : (m : Int) ≤ (c : Int) := by omega
        have hmm : (m : Int) ≤ (K : Int) := by omega
        have hyi : (i : Int) < (k : Int) := by omega
        go_enter Tryz.func37, Tryz.ntmps37
        go_wp2_with fail
        refine HH.out.mono ?_
        rintro e _ ⟨rfl, rfl⟩
        go_wp2_with fail
        refine HPT.out.mono ?_
        rintro e w1 ⟨v1, rfl, ho1, hb1⟩
        have HO1 := Lib.hid ho1
        have HB1 := Lib.hid hb1
        clear ho1
        go_wp2_with fail
        refine (HUP.out w1 HB1.out).mono ?_
        rintro e w2 ⟨rfl, hb2⟩
        have HB2 := Lib.hid (below_trans HB1.out hb2)
        have HO2 := Lib.hid (row_below HO1.out hb2)
        clear hb2
        go_wp2_with fail
        refine (HJ.out w2 HB2.out).mono ?_
        rintro e w3 ⟨rfl, hb3⟩
        have HB3 := Lib.hid (below_trans HB2.out hb3)
        have HO3 : Hid ((w3.alloc (.cells #[.string y] 9)).ownsRow w.heap.size 9 1 v1 T.length (T.map Value.string)) := Lib.hid (row_below (row_below HO2.out hb3) (below_alloc (Below.refl _ _) _))
        clear hb3
        go_wp2_with (at_builtin; refine wpList_app _ rfl (.tmp 34) (.tmp 43) 46 46 rfl w.heap.size 9 9 ip _ 1 16 Tryz.underlying46 Tryz.underlying46 HI.out.1 HI.out.2.1 HI.out.2.2.1 HI.out.2.2.2 rfl (by omega) v1 T.length _ rfl HO3.out (some ⟨w3.heap.size, 0, none⟩) 1 1 [.string y] rfl (Rd_new w3 #[.string y] _ 1 1 _ rfl rfl) (by simp [Value.oneCell']) (by have := HTL.out; simp only [maxLen]; omega) (by have := HTL.out; omega) (by have := HB3.out.size; simp; omega) ?_)
        intro v4 w4 hown4 hg4
        have HB4 : Hid (Below w.heap.size w w4) := Lib.hid ((below_alloc HB3.out _).grown hg4 (by have := HB3.out.size; simp; omega) (fun j hj => (HO3.out.lt j hj).1))
        have HO4 := Lib.hid hown4
        clear hown4 hg4
        go_wp2
        go_ret
        refine ⟨v4, rfl, ?_, HB4.out⟩
        have := HO4.out
        simpa using this
      · have hst := ptx_ge n i s p h2 hik
        rw [hlast] at hst
        have hpp := plen_ge n i h2 hik
        rw [hk] at hst hpp hik k1 k2
        rw [hst, hm]
        have hus := upv_size (n - k) (i - k) s p.dropLast hs
        have HUP : Hid (∀ (W : World), Below w.heap.size w W → Calls Tryz.prog 60 #[.int .i64 ((n - k) : Nat), .int .i64 ((i - k) : Nat), .string s, .slice (some ⟨b, off, none⟩) m c] W fun e w' => e = .returned (.string (upv (n - k) (i - k) s p.dropLast)) ∧ Below W.heap.size W w') := Lib.hid (fun W hW => HU.out (n - k) (i - k) W (by omega) (by omega) (by omega) (by omega) hW)
        have HPT := Lib.hid (HP.out (n - k) (i - k) (by omega) (by omega) (by omega) (by omega))
        have htl : (ptx (n - k) (i - k) s p.dropLast).length ≤ 1000000 := by rw [ptx_len]; omega
        have HTL := Lib.hid htl
        obtain ⟨ip, hj1, hy0, hy1, hy2⟩ := info_parts info_strg
        have HI := Lib.hid (And.intro hj1 (And.intro hy0 (And.intro hy1 hy2)))
        clear hj1 hy0 hy1 hy2 htl
        generalize ptx (n - k) (i - k) s p.dropLast = T at *
        have HJ : Hid (∀ W : World, Below w.heap.size w W → Calls Tryz.prog 32 #[.slice (some ⟨W.heap.size, 0, none⟩) 3 3] (W.alloc (.cells #[.string ⟨#[110, 111, 100, 101]⟩, .string x, .string (upv (n - k) (i - k) s p.dropLast)] 9)) fun e w' => e = .returned (.string (jb [bNode, x, (upv (n - k) (i - k) s p.dropLast)])) ∧ Below W.heap.size W w') := Lib.hid (fun W _ => rjoin3 x _ hxs hus W)
        have c1' := c1
        have HUS := Lib.hid hus
        have HXS := Lib.hid hxs
        generalize upv (n - k) (i - k) s p.dropLast = u at *
        generalize jb [bNode, x, u] = y at *
        clear hst hpp hlast hdl hx hS hsm hk h2 HU hus hxs hs hpl ih hpn c1 HP
        rw [hm] at hcap
        clear hm
        generalize hK : m + 1 = K at *
        have hmK : m < K := by omega
        have hmc : (m : Int) ≤ (c : Int) := by omega
        have hmm : (m : Int) ≤ (K : Int) := by omega
        have hni : ¬ (i : Int) < (k : Int) := by omega
        have e1 : (n : Int) - (k : Int) = ((n - k : Nat) : Int) := by omega
        have e2 : (i : Int) - (k : Int) = ((i - k : Nat) : Int) := by omega
        have HE1 := Lib.hid e1
        have HE2 := Lib.hid e2
        clear e1 e2
        go_enter Tryz.func37, Tryz.ntmps37
        go_wp2_with fail
        refine HH.out.mono ?_
        rintro e _ ⟨rfl, rfl⟩
        go_wp2_with fail
        rw [HE1.out, HE2.out]
        refine HPT.out.mono ?_
        rintro e w1 ⟨v1, rfl, ho1, hb1⟩
        have HO1 := Lib.hid ho1
        have HB1 := Lib.hid hb1
        clear ho1
        go_wp2_with fail
        rw [HE1.out, HE2.out]
        refine (HUP.out w1 HB1.out).mono ?_
        rintro e w2 ⟨rfl, hb2⟩
        have HB2 := Lib.hid (below_trans HB1.out hb2)
        have HO2 := Lib.hid (row_below HO1.out hb2)
        clear hb2
        go_wp2_with fail
        refine (HJ.out w2 HB2.out).mono ?_
        rintro e w3 ⟨rfl, hb3⟩
        have HB3 := Lib.hid (below_trans HB2.out hb3)
        have HO3 : Hid ((w3.alloc (.cells #[.string y] 9)).ownsRow w.heap.size 9 1 v1 T.length (T.map Value.string)) := Lib.hid (row_below (row_below HO2.out hb3) (below_alloc (Below.refl _ _) _))
        clear hb3
        go_wp2_with (at_builtin; refine wpList_app _ rfl (.tmp 53) (.tmp 66) 46 46 rfl w.heap.size 9 9 ip _ 1 16 Tryz.underlying46 Tryz.underlying46 HI.out.1 HI.out.2.1 HI.out.2.2.1 HI.out.2.2.2 rfl (by omega) v1 T.length _ rfl HO3.out (some ⟨w3.heap.size, 0, none⟩) 1 1 [.string y] rfl (Rd_new w3 #[.string y] _ 1 1 _ rfl rfl) (by simp [Value.oneCell']) (by have := HTL.out; simp only [maxLen]; omega) (by have := HTL.out; omega) (by have := HB3.out.size; simp; omega) ?_)
        intro v4 w4 hown4 hg4
        have HB4 : Hid (Below w.heap.size w w4) := Lib.hid ((below_alloc HB3.out _).grown hg4 (by have := HB3.out.size; simp; omega) (fun j hj => (HO3.out.lt j hj).1))
        have HO4 := Lib.hid hown4
        clear hown4 hg4
        go_wp2
        go_ret
        refine ⟨v4, rfl, ?_, HB4.out⟩
        have := HO4.out
        simpa using this
    · obtain rfl : n = 1 := by omega
      rw [ptx_one 1 i s p (by omega)]
      clear ih hS hsm
      go_enter Tryz.func37, Tryz.ntmps37
      go_wp2
      go_ret
      exact ⟨_, rfl, ⟨rfl, .inl ⟨rfl, rfl⟩⟩, Below.refl _ _⟩
end

section
open Go.RowKit

def digv (c : UInt8) : Int := if 48 ≤ c.toNat ∧ c.toNat ≤ 57 then c.toNat - 48 else if 97 ≤ c.toNat ∧ c.toNat ≤ 102 then c.toNat - 87 else -1
theorem rdigit (c : UInt8) (w : World) : Calls Tryz.prog 74 #[.int .u8 c.toNat] w fun e w' => e = .returned (.int .i64 (digv c)) ∧ w = w' := by
  have hc := c.toNat_lt
  unfold digv
  obtain ⟨x, hx⟩ : ∃ x, c.toNat = x := ⟨_, rfl⟩
  rw [hx] at hc ⊢
  clear hx
  by_cases h1 : 48 ≤ x
  · by_cases h2 : x ≤ 57
    · go_enter Tryz.func74, Tryz.ntmps74
      go_wp2
      go_ret
      exact ⟨ret_int (by omega), rfl⟩
    · by_cases h3 : 97 ≤ x
      · by_cases h4 : x ≤ 102
        · go_enter Tryz.func74, Tryz.ntmps74
          go_wp2
          go_ret
          exact ⟨ret_int (by omega), rfl⟩
        · go_enter Tryz.func74, Tryz.ntmps74
          go_wp2
          go_ret
          exact ⟨ret_int (by omega), rfl⟩
      · go_enter Tryz.func74, Tryz.ntmps74
        go_wp2
        go_ret
        exact ⟨ret_int (by omega), rfl⟩
  · have h3 : ¬ 97 ≤ x := by omega
    go_enter Tryz.func74, Tryz.ntmps74
    go_wp2
    go_ret
    exact ⟨ret_int (by omega), rfl⟩

/-! ### Is -/
set_option maxRecDepth 100000 in
theorem digv_hex (c : UInt8) : decide (digv c < 0) = !hexs.data.toList.contains c := by
  have key : ((List.range 256).all fun n => decide (digv (UInt8.ofNat n) < 0) == !hexs.data.toList.contains (UInt8.ofNat n)) = true := by decide
  have h := List.all_eq_true.1 key c.toNat (List.mem_range.2 c.toNat_lt)
  rw [UInt8.ofNat_toNat] at h
  exact beq_iff_eq.1 h
theorem isD_size {t : ByteArray} (h : t.size ≠ 16) : isD t = false := by
  rw [isD, decide_eq_false h]; rfl
theorem isD_bad {t : ByteArray} {k : Nat} (h : k < t.size) (hd : hexs.data.toList.contains t[k] = false) : isD t = false := by
  have hm : t[k] ∈ t.data.toList := by
    show t.data[k] ∈ t.data.toList
    simp
  have : t.data.toList.all (hexs.data.toList.contains ·) = false := by
    rw [List.all_eq_false]
    exact ⟨_, hm, by rw [hd]; exact Bool.false_ne_true⟩
  rw [isD, this, Bool.and_false]

set_option maxRecDepth 100000 in
set_option maxHeartbeats 2000000 in
theorem ris (t : ByteArray) (ht : t.size ≤ 1000000000) (w : World) :
    Calls Tryz.prog 46 #[.string t] w fun e w' => e = .returned (.bool (isD t)) ∧ w = w' := by
  go_enter Tryz.func46, Tryz.ntmps46
  go_wp2_with fail
  go_loop [3] (fun u => ∃ k : Nat, k ≤ t.size ∧ k ≤ 16 ∧ u = .int .i64 k ∧ (t.data.toList.take k).all (hexs.data.toList.contains ·) = true) (fun u => t.size - (intOf u).toNat)
  case atStart => exact ⟨0, Nat.zero_le _, Nat.zero_le _, rfl, rfl⟩
  case round =>
  obtain ⟨k, hk, hk16, rfl, hall⟩ := hrel
  have HALL := Lib.hid hall
  clear hall
  by_cases hlt : k < t.size
  · by_cases h16 : k < 16
    · obtain ⟨c, hc⟩ : ∃ c, t[k] = c := ⟨_, rfl⟩
      have HR := Lib.hid (rdigit c w)
      obtain ⟨v, hv⟩ : ∃ v, digv c = v := ⟨_, rfl⟩
      have HX := Lib.hid (digv_hex c)
      rw [hv] at HR HX
      have HC := Lib.hid hc
      have hck : t.data.toList[k]? = some c := by
        rw [List.getElem?_eq_getElem (by simpa using hlt)]
        exact congrArg some hc
      have HCK := Lib.hid hck
      clear hv hc hck
      go_wp2_with fail
      rw [HC.out]
      refine HR.out.mono ?_
      rintro e w1 ⟨rfl, rfl⟩
      by_cases hneg : v < 0
      · have HB : Hid (isD t = false) := Lib.hid (isD_bad hlt (by have := HX.out; rw [decide_eq_true hneg] at this; rw [HC.out]; simpa using this.symm))
        go_wp2
        go_ret
        exact ⟨ret_bool HB.out.symm, rfl⟩
      · have HG : Hid (hexs.data.toList.contains c = true) := Lib.hid (by have := HX.out; rw [decide_eq_false hneg] at this; simpa using this.symm)
        go_wp2_with fail
        go_round
        case rel => exact ⟨k + 1, by omega, by omega, by go_num, by rw [take_snoc _ _ _ HCK.out, List.all_append, HALL.out, List.all_cons, HG.out]; rfl⟩
        case measure => simp [intOf]; omega
    · obtain rfl : k = 16 := by omega
      by_cases hz : t.size = 16
      · exact absurd hz (by omega)
      · have HB := Lib.hid (isD_size hz)
        go_wp2
        go_ret
        exact ⟨ret_bool (by rw [HB.out]; simp; omega), rfl⟩
  · obtain rfl : k = t.size := by omega
    rw [List.take_of_length_le (show t.data.toList.length ≤ t.size from Nat.le_refl _)] at HALL
    by_cases hz : t.size = 16
    · have HB : Hid (isD t = true) := Lib.hid (by rw [isD, decide_eq_true hz, HALL.out]; rfl)
      go_wp2
      go_ret
      exact ⟨ret_bool (by rw [HB.out]), rfl⟩
    · have HB := Lib.hid (isD_size hz)
      go_wp2
      go_ret
      exact ⟨ret_bool (by rw [HB.out]; simp; omega), rfl⟩
end

section
open Go.RowKit

set_option maxHeartbeats 4000000 in
theorem rdig_any (A : Option Addr) (c : Nat) (l : List ByteArray) (w : World) (h : Strs w A l) (hl : l.length ≤ 9223372036854775807) (hs : ∀ s ∈ l, s.size ≤ 1000000000) :
    Calls Tryz.prog 82 #[.slice A l.length c] w fun e w' => e = .returned (.bool (allD l)) ∧ w = w' := by
  have H := Lib.hid h
  have HSZ := Lib.hid hs
  have HIS := Lib.hid (fun (t : ByteArray) (ht : t.size ≤ 1000000000) => ris t ht w)
  clear h hs
  go_enter Tryz.func82, Tryz.ntmps82
  go_wp2_with fail
  go_loop [3] (fun u => ∃ k : Nat, k ≤ l.length ∧ u = .int .i64 k ∧ allD (l.take k) = true) (fun u => l.length - (intOf u).toNat)
  case atStart => exact ⟨0, Nat.zero_le _, rfl, rfl⟩
  case round =>
    obtain ⟨k, hk, rfl, hall⟩ := hrel
    have HALL := Lib.hid hall
    clear hall
    by_cases hlt : k < l.length
    · obtain ⟨s, hs⟩ := get_some l k hlt
      obtain ⟨b, off, rfl, c0⟩ := H.out.at_ hs
      have c0l := lt_of_cell c0
      have hmem : s ∈ l := List.mem_of_getElem? hs
      have HC := Lib.hid (HIS.out s (HSZ.out s hmem))
      have hall2 : allD (l.take (k + 1)) = isD s := by
        have := all_take_succ isD l k s hs
        have h2 := HALL.out
        unfold allD at h2 ⊢
        rw [this, h2, Bool.true_and]
      have HA2 := Lib.hid hall2
      have hbad : isD s = false → allD l = false := fun h => by
        unfold allD
        rw [List.all_eq_false]
        exact ⟨s, hmem, by simp [h]⟩
      have HBAD := Lib.hid hbad
      clear hs hall2 hbad hmem
      obtain ⟨v, hv⟩ : ∃ v, isD s = v := ⟨_, rfl⟩
      rw [hv] at HC HA2 HBAD
      clear hv
      cases v with
      | true =>
        go_wp2_with fail
        refine HC.out.mono ?_
        rintro e _ ⟨rfl, rfl⟩
        go_wp2
        go_round
        case rel => exact ⟨k + 1, by omega, by go_num, HA2.out⟩
        case measure => simp [intOf]; omega
      | false =>
        have HBD := Lib.hid (HBAD.out rfl)
        clear HBAD HA2
        go_wp2_with fail
        refine HC.out.mono ?_
        rintro e _ ⟨rfl, rfl⟩
        go_wp2
        go_ret
        exact ⟨ret_bool HBD.out.symm, rfl⟩
    · obtain rfl : k = l.length := by omega
      rw [List.take_length] at HALL
      go_wp2
      go_ret
      exact ⟨ret_bool HALL.out.symm, rfl⟩

set_option maxHeartbeats 4000000 in
theorem rlen_any (q : Nat) : ∀ (n i : Nat) (w : World), n ≤ q → 1 ≤ n → n ≤ 1000000 → i < n →
    Calls Tryz.prog 81 #[.int .i64 n, .int .i64 i] w fun e w' => e = .returned (.int .i64 (plen n i)) ∧ w = w' := by
  induction q with
  | zero => intro n i w h1 h2; omega
  | succ q ih =>
    intro n i w hn h1 hbig hi
    by_cases h2 : 2 ≤ n
    · have k1 := hf_lt n h2
      have k2 := hf_pos n
      have hpn := plen_lt_n n i h1
      obtain ⟨k, hk⟩ : ∃ k, hf n = k := ⟨_, rfl⟩
      have HH := Lib.hid (rhalf_any n hbig w)
      have h3 := plen_lt n i h2
      have h4 := plen_ge n i h2
      rw [hk] at HH k1 k2 h3 h4
      have hn1 : ((n : Int) == 1) = false := by simp; omega
      by_cases hik : i < k
      · have HI := Lib.hid (ih k i w (by omega) k2 (by omega) hik)
        rw [h3 hik] at hpn ⊢
        have hyi : (i : Int) < (k : Int) := by omega
        clear ih h3 h4 hk
        generalize plen k i = z at *
        go_enter Tryz.func81, Tryz.ntmps81
        go_wp2_with fail
        refine HH.out.mono ?_
        rintro e _ ⟨rfl, rfl⟩
        go_wp2_with fail
        refine HI.out.mono ?_
        rintro e _ ⟨rfl, rfl⟩
        go_wp2
        go_ret
        exact ⟨ret_int (by go_num), rfl⟩
      · have HI := Lib.hid (ih (n - k) (i - k) w (by omega) (by omega) (by omega) (by omega))
        rw [h4 hik] at hpn ⊢
        have hni : ¬ (i : Int) < (k : Int) := by omega
        have e1 : (n : Int) - (k : Int) = ((n - k : Nat) : Int) := by omega
        have e2 : (i : Int) - (k : Int) = ((i - k : Nat) : Int) := by omega
        have HE1 := Lib.hid e1
        have HE2 := Lib.hid e2
        clear ih h3 h4 hk e1 e2
        generalize plen (n - k) (i - k) = z at *
        go_enter Tryz.func81, Tryz.ntmps81
        go_wp2_with fail
        refine HH.out.mono ?_
        rintro e _ ⟨rfl, rfl⟩
        go_wp2_with fail
        rw [HE1.out, HE2.out]
        refine HI.out.mono ?_
        rintro e _ ⟨rfl, rfl⟩
        go_wp2
        go_ret
        exact ⟨ret_int (by go_num), rfl⟩
    · obtain rfl : n = 1 := by omega
      rw [plen_one 1 i (by omega)]
      clear ih
      go_enter Tryz.func81, Tryz.ntmps81
      go_wp2
      go_ret
      exact ⟨rfl, rfl⟩

theorem rleaf_any (a : ByteArray) (ha : a.size ≤ 200) (w : World) :
    Calls Tryz.prog 38 #[.string a] w fun e w' => e = .returned (.string (lf a)) ∧ Below w.heap.size w w' := by
  have HL := Lib.hid (rlist (some ⟨w.heap.size, 0, none⟩) 2 [bLeaf, a] (w.alloc (.cells #[.string bLeaf, .string a] 9)) (Strs_new _ _ _ _ _ rfl rfl) (by simp) (by
    intro s hs
    simp only [List.mem_cons, List.not_mem_nil, or_false] at hs
    rcases hs with rfl | rfl
    · decide
    · exact ha))
  unfold bLeaf at HL
  go_enter Tryz.func38, Tryz.ntmps38
  go_wp2_with fail
  refine HL.out.mono ?_
  rintro e w1 ⟨rfl, hb1⟩
  have HB1 := Lib.hid (below_trans (below_alloc (Below.refl _ _) _) hb1)
  clear hb1
  go_wp2
  go_ret
  exact ⟨rfl, HB1.out⟩



set_option maxHeartbeats 8000000 in
theorem rcheck_any (root : ByteArray) (n i : Int) (leaf : ByteArray) (A : Option Addr) (c : Nat) (p : List ByteArray) (w : World) (hS : Strs w A p) (hbig : p.length ≤ 1000000) (hcap : p.length ≤ c) (hleaf : leaf.size ≤ 200) (hsm : sm p) :
    Calls Tryz.prog 55 #[.string root, .int .i64 n, .int .i64 i, .string leaf, .slice A p.length c] w fun e w' => e = .returned (.bool (chkB root n i leaf p)) ∧ Below w.heap.size w w' := by
  have hno : ¬ (n ≤ 1000000 ∧ 0 ≤ i ∧ i < n) → chkB root n i leaf p = false := fun h => by unfold chkB; rw [decide_eq_false h]; simp
  have HNO := Lib.hid hno
  clear hno
  by_cases h1 : 1000000 < n
  · have hres := HNO.out (by omega)
    have hd1 : decide (1000000 < n) = true := decide_eq_true h1
    have HRES := Lib.hid hres
    clear hS hsm hres
    go_enter Tryz.func55, Tryz.ntmps55
    go_wp2
    go_ret
    exact ⟨ret_bool (HRES.out).symm, Below.refl _ _⟩
  have hd1 : decide (1000000 < n) = false := decide_eq_false h1
  by_cases h2 : i < 0
  · have HRES := Lib.hid (HNO.out (by omega))
    have hd2 : decide (i < 0) = true := decide_eq_true h2
    clear hS hsm
    go_enter Tryz.func55, Tryz.ntmps55
    go_wp2
    go_ret
    exact ⟨ret_bool (HRES.out).symm, Below.refl _ _⟩
  have hd2 : decide (i < 0) = false := decide_eq_false h2
  by_cases h3 : n ≤ i
  · have HRES := Lib.hid (HNO.out (by omega))
    have hd3 : decide (n ≤ i) = true := decide_eq_true h3
    clear hS hsm
    go_enter Tryz.func55, Tryz.ntmps55
    go_wp2
    go_ret
    exact ⟨ret_bool (HRES.out).symm, Below.refl _ _⟩
  obtain ⟨N, rfl⟩ : ∃ N : Nat, n = N := ⟨n.toNat, by omega⟩
  obtain ⟨I, rfl⟩ : ∃ I : Nat, i = I := ⟨i.toNat, by omega⟩
  have hd3 : decide (N ≤ I) = false := decide_eq_false (by omega)
  have hd4 : decide ((N : Int) ≤ (I : Int)) = false := decide_eq_false (by omega)
  have hd5 : decide (1000000 < N) = false := decide_eq_false (by omega)
  have HLEN := Lib.hid (rlen_any N N I w (Nat.le_refl _) (by omega) (by omega) (by omega))
  have HDG := Lib.hid (rdig_any A c p w hS (by omega) (fun s hs => by have := hsm s hs; omega))
  have HIS := Lib.hid (ris leaf (by omega) w)
  have hval : chkB root (N : Int) (I : Int) leaf p = (allD p && isD leaf && (decide (upv N I leaf p = root) && decide (p.length = plen N I))) := by
    unfold chkB
    rw [decide_eq_true (⟨by omega, by omega, by omega⟩ : (N : Int) ≤ 1000000 ∧ (0 : Int) ≤ I ∧ (I : Int) < N), Bool.true_and, Int.toNat_natCast, Int.toNat_natCast]
  have HUP : Hid (p.length = plen N I → Calls Tryz.prog 60 #[.int .i64 N, .int .i64 I, .string leaf, .slice A p.length c] w fun e w' => e = .returned (.string (upv N I leaf p)) ∧ Below w.heap.size w w') := Lib.hid (fun h => rup_any N N I leaf A c p w (Nat.le_refl _) (by omega) (by omega) (by omega) h hcap hS hsm hleaf)
  rw [hval]
  clear hS hsm HNO hval
  generalize upv N I leaf p = u at *
  generalize allD p = dp at *
  generalize isD leaf = dl at *
  obtain ⟨z, hz⟩ : ∃ z, plen N I = z := ⟨_, rfl⟩
  rw [hz] at HLEN HUP ⊢
  clear hz
  generalize p.length = m at *
  by_cases hlen : m = z
  case neg =>
    have hne : ((m : Int) == (z : Int)) = false := by simp; omega
    have hne0 : (m == z) = false := by simp; omega
    have hbn : ((m : Int) != (z : Int)) = true := by rw [bne, hne]; rfl
    have hres : (dp && dl && (decide (u = root) && decide (m = z))) = false := by rw [decide_eq_false hlen]; simp
    have HRES := Lib.hid hres
    clear hres
    go_enter Tryz.func55, Tryz.ntmps55
    go_wp2_with fail
    refine HLEN.out.mono ?_
    rintro e _ ⟨rfl, rfl⟩
    go_wp2
    go_ret
    exact ⟨ret_bool (HRES.out).symm, Below.refl _ _⟩
  case pos =>
  subst hlen
  have HUP1 := Lib.hid (HUP.out rfl)
  clear HUP
  rw [decide_eq_true (rfl : m = m), Bool.and_true]
  cases dp
  case false =>
    rw [Bool.false_and, Bool.false_and]
    go_enter Tryz.func55, Tryz.ntmps55
    go_wp2_with fail
    refine HLEN.out.mono ?_
    rintro e _ ⟨rfl, rfl⟩
    go_wp2_with fail
    refine HDG.out.mono ?_
    rintro e _ ⟨rfl, rfl⟩
    go_wp2
    go_ret
    exact ⟨rfl, Below.refl _ _⟩
  case true =>
  cases dl
  case false =>
    rw [Bool.true_and, Bool.false_and]
    go_enter Tryz.func55, Tryz.ntmps55
    go_wp2_with fail
    refine HLEN.out.mono ?_
    rintro e _ ⟨rfl, rfl⟩
    go_wp2_with fail
    refine HDG.out.mono ?_
    rintro e _ ⟨rfl, rfl⟩
    go_wp2_with fail
    refine HIS.out.mono ?_
    rintro e _ ⟨rfl, rfl⟩
    go_wp2
    go_ret
    exact ⟨rfl, Below.refl _ _⟩
  case true =>
  rw [Bool.true_and, Bool.true_and]
  by_cases hu : u = root
  case pos =>
    subst hu
    have t1 := beq_true u
    rw [decide_eq_true rfl]
    go_enter Tryz.func55, Tryz.ntmps55
    go_wp2_with fail
    refine HLEN.out.mono ?_
    rintro e _ ⟨rfl, rfl⟩
    go_wp2_with fail
    refine HDG.out.mono ?_
    rintro e _ ⟨rfl, rfl⟩
    go_wp2_with fail
    refine HIS.out.mono ?_
    rintro e _ ⟨rfl, rfl⟩
    go_wp2_with fail
    refine HUP1.out.mono ?_
    rintro e w1 ⟨rfl, hb1⟩
    have HB1 := Lib.hid hb1
    clear hb1
    go_wp2
    go_ret
    exact ⟨rfl, HB1.out⟩
  case neg =>
  obtain ⟨t1, t2⟩ := bne_of u root hu
  rw [decide_eq_false hu]
  go_enter Tryz.func55, Tryz.ntmps55
  go_wp2_with fail
  refine HLEN.out.mono ?_
  rintro e _ ⟨rfl, rfl⟩
  go_wp2_with fail
  refine HDG.out.mono ?_
  rintro e _ ⟨rfl, rfl⟩
  go_wp2_with fail
  refine HIS.out.mono ?_
  rintro e _ ⟨rfl, rfl⟩
  go_wp2_with fail
  refine HUP1.out.mono ?_
  rintro e w1 ⟨rfl, hb1⟩
  have HB1 := Lib.hid hb1
  clear hb1
  go_wp2
  go_ret
  exact ⟨rfl, HB1.out⟩
end

section
open Go.RowKit

theorem wpList_appG {P : Program} (w : World) {ops : Array Oper} {rest : List Oper} {o : Oper} {a : Act} {Q : Exit → Act → World → Prop} (hw : Region.wanted o (yielded ops a.tmps) = true) (s x : Operand) (t t2 : TypeId)
    (ho : o.op = .call { callee := .builtin .append, args := #[s, x], argTypes := #[t, t2] })
    (base : Nat) (e e2 : TypeId) (i : TypeInfo) (z : Value) (size bytes : Nat) (ht : P.underlying t = some (.slice e)) (ht2 : P.underlying t2 = some (.slice e2)) (hi : P.info? e = some i) (hz : i.zero = some z)
    (hsize : i.size = size) (hby : i.bytes = bytes) (hzs : z.cells.size = size) (hsz : 0 < size)
    (v : Value) (n : Nat) (xs : List Value) (hs : a.eval s = v) (hown : w.ownsRow base e size v n xs)
    (A : Option Addr) (m c : Nat) (news : List Value) (hx : a.eval x = .slice A m c) (hr : Rd w size A m news) (h1 : ∀ u ∈ news, u.oneCell' = true)
    (h63 : n + m ≤ maxLen) (hbytes : (n + m) * bytes ≤ 140737488355328) (hbase : base ≤ w.heap.size)
    (h : ∀ v' w', w'.ownsRow base e size v' (n + m) (xs ++ news) → w.grownBy w' v.ownBlock → wpList P ops Q rest (a.put o.dst v') w') : wpList P ops Q (o :: rest) a w := by
  refine wpList_step fun K hK => ?_
  rw [if_pos hw]
  obtain ⟨v', w', hrun, h2, h3⟩ := run_app (P := P) w base t t2 o.type e e2 i z size bytes ht ht2 hi hz hsize hby hzs hsz v n xs hown A m c news hr h1 h63 hbytes hbase
  unfold Oper.wp execOp
  simp only [ho, resolve, invoke, builtin, Sem.run_bind, Sem.run_pure, Result.andThen_ok, List.map_toArray, List.map_cons, List.map_nil, hs, hx, hrun]
  exact hK _ _ (h v' w' h2 h3)

theorem jb_small (a b : ByteArray) (ha : a.size ≤ 200) (hb : b.size ≤ 200) : (jb [bNode, a, b]).size ≤ 1000000000 := by
  have := jb3 bNode a b (by decide) ha hb
  show ((jn [bNode, a, b]).toArray).size ≤ 1000000000
  simp; omega

theorem txt_small (l : List ByteArray) (h : sm l) : ∀ s ∈ txt l, s.size ≤ 1000000000 := by
  obtain ⟨n, hn⟩ : ∃ n, l.length = n := ⟨_, rfl⟩
  induction n using Nat.strongRecOn generalizing l with
  | _ n ih =>
    by_cases h2 : 2 ≤ l.length
    · have k1 := hf_lt l.length h2
      have k2 := hf_pos l.length
      rw [txt_two l h2]
      intro s hs
      rcases List.mem_append.1 hs with h3 | h3
      · rcases List.mem_append.1 h3 with h4 | h4
        · exact ih (hf l.length) (by omega) _ (h.take _) (by rw [List.length_take]; omega) s h4
        · exact ih (l.length - hf l.length) (by omega) _ (h.drop _) (by rw [List.length_drop]) s h4
      · rw [List.mem_singleton.1 h3]
        exact jb_small _ _ (rt_size _ (h.take _)) (rt_size _ (h.drop _))
    · match l, h2 with
      | [], _ =>
        rw [txt_nil]
        intro s hs
        rw [List.mem_singleton.1 hs]
        have := jn_few [bEmpty] (by intro s hs; rw [List.mem_singleton.1 hs]; decide)
        show ((jn [bEmpty]).toArray).size ≤ 1000000000
        simp at this ⊢; omega
      | [x], _ => rw [txt_one]; intro s hs; cases hs
      | x :: y :: l, h2 => simp at h2

theorem ptx_small (n i : Nat) (s : ByteArray) (p : List ByteArray) (hp : allD p = true) (hs : s.size ≤ 200) : ∀ t ∈ ptx n i s p, t.size ≤ 1000000000 := by
  induction n using Nat.strongRecOn generalizing i p with
  | _ n ih =>
    by_cases h2 : 2 ≤ n
    · have k1 := hf_lt n h2
      have k2 := hf_pos n
      have hd : allD p.dropLast = true := by rw [List.dropLast_eq_take]; exact allD_take hp _
      intro t ht
      by_cases hi : i < hf n
      · rw [ptx_lt n i s p h2 hi] at ht
        rcases List.mem_append.1 ht with h3 | h3
        · exact ih (hf n) k1 i p.dropLast hd t h3
        · rw [List.mem_singleton.1 h3]; exact jb_small _ _ (upv_size _ _ _ _ hs) (getLastD_size p hp)
      · rw [ptx_ge n i s p h2 hi] at ht
        rcases List.mem_append.1 ht with h3 | h3
        · exact ih (n - hf n) (by omega) (i - hf n) p.dropLast hd t h3
        · rw [List.mem_singleton.1 h3]; exact jb_small _ _ (getLastD_size p hp) (upv_size _ _ _ _ hs)
    · rw [ptx_one n i s p h2]; intro t ht; cases ht

theorem chk_parts {root : ByteArray} {n i : Nat} {s : ByteArray} {p : List ByteArray} (h : chkB root (n : Int) (i : Int) s p = true) : allD p = true ∧ upv n i s p = root ∧ p.length = plen n i := by
  unfold chkB at h
  simp only [Bool.and_eq_true, decide_eq_true_eq, Int.toNat_natCast] at h
  exact ⟨h.1.1.2, h.2.1, h.2.2⟩

theorem allD_pt (l : List ByteArray) (i : Nat) (h : allD l = true) : allD (pt l i) = true := by
  obtain ⟨n, hn⟩ : ∃ n, l.length = n := ⟨_, rfl⟩
  induction n using Nat.strongRecOn generalizing l i with
  | _ n ih =>
    by_cases h2 : 2 ≤ l.length
    · have k1 := hf_lt l.length h2
      have k2 := hf_pos l.length
      by_cases hi : i < hf l.length
      · rw [pt_lt l i h2 hi]
        have h1 := ih _ (by rw [List.length_take]; omega) (l.take (hf l.length)) i (allD_take h _) rfl
        have h3 := isD_rt _ (allD_drop h (hf l.length))
        simp only [allD, List.all_append, Bool.and_eq_true] at h1 ⊢
        exact ⟨h1, by simp [h3]⟩
      · rw [pt_ge l i h2 hi]
        have h1 := ih _ (by rw [List.length_drop]; omega) (l.drop (hf l.length)) (i - hf l.length) (allD_drop h _) rfl
        have h3 := isD_rt _ (allD_take h (hf l.length))
        simp only [allD, List.all_append, Bool.and_eq_true] at h1 ⊢
        exact ⟨h1, by simp [h3]⟩
    · rw [pt_one l i h2]; rfl

theorem incl_yes (l : List ByteArray) (i : Nat) (s : ByteArray) (hD : allD l = true) (hs : l[i]? = some s) (hn : l.length ≤ 1000000) : chkB (rt l) (l.length : Int) (i : Int) s (pt l i) = true := by
  have hi : i < l.length := (List.getElem?_eq_some_iff.1 hs).1
  have hm : s ∈ l := List.mem_of_getElem? hs
  have hds : isD s = true := by simp only [allD, List.all_eq_true] at hD; exact hD s hm
  unfold chkB
  have h1 : ((l.length : Int) ≤ 1000000 ∧ (0 : Int) ≤ (i : Int) ∧ (i : Int) < (l.length : Int)) := by omega
  rw [decide_eq_true h1, allD_pt l i hD, hds, Int.toNat_natCast, Int.toNat_natCast, pt_up l i s hs, pt_len]
  simp
end

section
open Go.RowKit

theorem valid_nat {s : Int × Int} (h : validB s = true) : (1 ≤ s.1 ∧ s.1 ≤ 16) ∧ 0 ≤ s.2 ∧ s.2 < 2147483647 := by
  obtain ⟨h1, h2, h3⟩ := (validB_iff s).1 h
  have := (elemB_iff _).1 h3
  exact ⟨⟨h1, h2⟩, this⟩
theorem shT_sm {s : Int × Int} (h : validB s = true) : (shT s).size ≤ 200 := by
  obtain ⟨h1, h2⟩ := valid_nat h
  have := shT_size s h1.2 h2.2
  omega
theorem shLf_eq (s : Int × Int) : shLf s = dg (jb [bLeaf, shT s]) := by unfold shLf lf; rfl
theorem shLf_isD (s : Int × Int) : isD (shLf s) = true := by rw [shLf_eq]; exact isD_dg _
theorem shLf_D (l : List (Int × Int)) : allD (l.map shLf) = true := by
  unfold allD
  rw [List.all_eq_true]
  intro t ht
  obtain ⟨s, _, rfl⟩ := List.mem_map.1 ht
  exact shLf_isD s
theorem shLf_sm (l : List (Int × Int)) : sm (l.map shLf) := by
  intro s hs
  obtain ⟨t, _, rfl⟩ := List.mem_map.1 hs
  rw [shLf_eq, dg_size]; omega
set_option maxHeartbeats 8000000 in
theorem rleaves_any (A : Option Addr) (c : Nat) (l : List (Int × Int)) (w : World) (hA : Prs w A l) (hl : l.length ≤ 1000) (hv : l.all validB = true) :
    Calls Tryz.prog 35 #[.slice A l.length c] w fun e w' => ∃ v, e = .returned v ∧ w'.ownsRow w.heap.size 9 1 v l.length ((l.map shLf).map Value.string) ∧ Below w.heap.size w w' := by
  have HA := Lib.hid hA
  have HVA : Hid (∀ k s, l[k]? = some s → validB s = true) := Lib.hid (fun k s h => List.all_eq_true.1 hv s (List.mem_of_getElem? h))
  obtain ⟨ip, hj1, hy0, hy1, hy2⟩ := info_parts info_strg
  have HI := Lib.hid (And.intro hj1 (And.intro hy0 (And.intro hy1 hy2)))
  clear hj1 hy0 hy1 hy2 hA hv
  have HO : Hid (w.ownsRow w.heap.size 9 1 (.slice none 0 0) 0 []) := ⟨rfl, .inl ⟨rfl, rfl⟩⟩
  go_enter Tryz.func35, Tryz.ntmps35
  go_wp2_with fail
  go_loopw [3, 4] (fun u3 u4 wr => ∃ k : Nat, k ≤ l.length ∧ u4 = .int .i64 k ∧ Below w.heap.size w wr ∧ wr.ownsRow w.heap.size 9 1 u3 k (((l.take k).map shLf).map Value.string)) (fun _ u4 _ => l.length - (intOf u4).toNat)
  case atStart => exact ⟨0, Nat.zero_le _, rfl, Below.refl _ _, HO.out⟩
  case round =>
  obtain ⟨k, hk, rfl, hbw, how⟩ := hrel
  have HBW := Lib.hid hbw
  have HOW := Lib.hid how
  clear hbw how
  by_cases hlt : k < l.length
  · obtain ⟨s, hs⟩ := get_some l k hlt
    obtain ⟨b, off, rfl, hc1, hc2⟩ := (HA.out.below HBW.out).at_ hs
    have hcl := lt_of_cell hc1
    have hvs := HVA.out k s hs
    obtain ⟨g1, g2⟩ := valid_nat hvs
    have HTX := Lib.hid (rtext_any s wr ⟨by omega, by omega⟩ ⟨by omega, by omega⟩)
    have HLF := Lib.hid (fun W => rleaf_any (shT s) (shT_sm hvs) W)
    have HS := Lib.hid hs
    clear hs hvs
    obtain ⟨y, hy⟩ : ∃ y, shLf s = y := ⟨_, rfl⟩
    have HY := Lib.hid hy
    unfold shLf at hy
    rw [hy] at HLF
    clear hy
    generalize shT s = ts at *
    go_wp2_with fail
    refine HTX.out.mono ?_
    rintro e w1 ⟨rfl, hb1⟩
    have HB1 := Lib.hid (below_trans HBW.out hb1)
    have HO1 := Lib.hid (row_below HOW.out hb1)
    clear hb1
    go_wp2_with fail
    refine (HLF.out w1).mono ?_
    rintro e w2 ⟨rfl, hb2⟩
    have HB2 := Lib.hid (below_trans HB1.out hb2)
    have HO2 : Hid ((w2.alloc (.cells #[.string y] 9)).ownsRow w.heap.size 9 1 u3 k (((l.take k).map shLf).map Value.string)) := Lib.hid (row_below (row_below HO1.out hb2) (below_alloc (Below.refl _ _) _))
    clear hb2
    go_wp2_with (at_builtin; refine wpList_app _ rfl (.tmp 11) (.tmp 18) 46 46 rfl w.heap.size 9 9 ip _ 1 16 Tryz.underlying46 Tryz.underlying46 HI.out.1 HI.out.2.1 HI.out.2.2.1 HI.out.2.2.2 rfl (by omega) u3 k _ rfl HO2.out (some ⟨w2.heap.size, 0, none⟩) 1 1 [.string y] rfl (Rd_new w2 #[.string y] _ 1 1 _ rfl rfl) (by simp [Value.oneCell']) (by simp only [maxLen]; omega) (by omega) (by have := HB2.out.size; simp; omega) ?_)
    intro v4 w4 hown4 hg4
    have HB4 : Hid (Below w.heap.size w w4) := Lib.hid ((below_alloc HB2.out _).grown hg4 (by have := HB2.out.size; simp; omega) (fun j hj => (HO2.out.lt j hj).1))
    have HO4 := Lib.hid hown4
    clear hown4 hg4
    go_wp2
    go_roundw
    case rel => exact ⟨k + 1, by omega, by go_num, HB4.out, by rw [take_snoc _ _ _ HS.out]; simpa [HY.out] using HO4.out⟩
    case measure => simp [intOf]; omega
  · obtain rfl : k = l.length := by omega
    rw [List.take_of_length_le (Nat.le_refl _)] at HOW
    go_wp2
    go_ret
    exact ⟨_, rfl, HOW.out, HBW.out⟩
set_option maxHeartbeats 8000000 in
theorem sroot_any (A : Option Addr) (c : Nat) (l : List (Int × Int)) (w : World) (hA : Prs w A l) (h1 : 1 ≤ l.length) (h16 : l.length ≤ 16) (hv : l.all validB = true) (hT : Tabs w) :
    Calls Tryz.prog 29 #[.slice A l.length c] w fun e w' => e = .returned (.tuple #[.string (rt (l.map shLf)), .int .i64 0]) ∧ Below w.heap.size w w' := by
  have HA := Lib.hid hA
  have HT : Hid (∀ W, Below w.heap.size w W → Tabs W) := Lib.hid (fun W hW => hT.below hW)
  have HVA : Hid (∀ k s, l[k]? = some s → validB s = true) := Lib.hid (fun k s h => List.all_eq_true.1 hv s (List.mem_of_getElem? h))
  obtain ⟨ip, hj1, hy0, hy1, hy2⟩ := info_parts info_strg
  have HI := Lib.hid (And.intro hj1 (And.intro hy0 (And.intro hy1 hy2)))
  clear hj1 hy0 hy1 hy2 hA hv hT
  have HO : Hid (w.ownsRow w.heap.size 9 1 (.slice none 0 0) 0 []) := ⟨rfl, .inl ⟨rfl, rfl⟩⟩
  have hd1 : decide (l.length < 1) = false := decide_eq_false (by omega)
  have hd2 : decide (16 < l.length) = false := decide_eq_false (by omega)
  go_enter Tryz.func29, Tryz.ntmps29
  go_wp2_with fail
  go_loopw [4, 6, 17] (fun u4 _ u17 wr => ∃ k : Nat, k ≤ l.length ∧ u17 = .int .i64 k ∧ Below w.heap.size w wr ∧ wr.ownsRow w.heap.size 9 1 u4 k (((l.take k).map shLf).map Value.string)) (fun _ _ u17 _ => l.length - (intOf u17).toNat)
  case atStart => exact ⟨0, Nat.zero_le _, rfl, Below.refl _ _, HO.out⟩
  case round =>
  obtain ⟨k, hk, rfl, hbw, how⟩ := hrel
  have HBW := Lib.hid hbw
  have HOW := Lib.hid how
  clear hbw how
  by_cases hlt : k < l.length
  · obtain ⟨s, hs⟩ := get_some l k hlt
    obtain ⟨b, off, rfl, hc1, hc2⟩ := (HA.out.below HBW.out).at_ hs
    have hcl := lt_of_cell hc1
    have hvs := HVA.out k s hs
    obtain ⟨g1, g2⟩ := valid_nat hvs
    have HV := Lib.hid hvs
    have HTX : Hid (∀ W, Below w.heap.size w W → Calls Tryz.prog 52 #[.agg #[.int .i64 s.1, .int .i64 s.2]] W fun e w' => e = .returned (.string (shT s)) ∧ Below W.heap.size W w') := Lib.hid (fun W hW => stext_any s W ⟨by omega, by omega⟩ ⟨by omega, by omega⟩ (HT.out W hW))
    have HLF : Hid (∀ W, Below w.heap.size w W → Calls Tryz.prog 51 #[.string (shT s)] W fun e w' => e = .returned (.string (lf (shT s))) ∧ Below W.heap.size W w') := Lib.hid (fun W hW => leaf_any (shT s) (shT_sm hvs) W (HT.out W hW))
    have HS := Lib.hid hs
    clear hs hvs
    obtain ⟨y, hy⟩ : ∃ y, shLf s = y := ⟨_, rfl⟩
    have HY := Lib.hid hy
    unfold shLf at hy
    rw [hy] at HLF
    clear hy
    generalize shT s = ts at *
    go_wp2_with fail
    refine (valid_any s.1 s.2 _).mono ?_
    rintro e w' ⟨rfl, rfl⟩
    rw [HV.out]
    go_wp2_with fail
    refine (HTX.out _ (below_alloc (below_alloc HBW.out _) _)).mono ?_
    rintro e w1 ⟨rfl, hb1⟩
    have HB1 := Lib.hid (below_trans (below_alloc (below_alloc HBW.out _) _) hb1)
    have HO1 := Lib.hid (row_below (row_below (row_below HOW.out (below_alloc (Below.refl _ _) (.cells #[.int .i64 s.1, .int .i64 s.2] 37))) (below_alloc (Below.refl _ _) (.cells #[.int .i64 s.1, .int .i64 s.2] 37))) hb1)
    clear hb1
    go_wp2_with fail
    refine (HLF.out w1 HB1.out).mono ?_
    rintro e w2 ⟨rfl, hb2⟩
    have HB2 := Lib.hid (below_trans HB1.out hb2)
    have HO2 : Hid ((w2.alloc (.cells #[.string y] 9)).ownsRow w.heap.size 9 1 u4 k (((l.take k).map shLf).map Value.string)) := Lib.hid (row_below (row_below HO1.out hb2) (below_alloc (Below.refl _ _) _))
    clear hb2
    go_wp2_with (at_builtin; refine wpList_app _ rfl (.tmp 24) (.tmp 28) 46 46 rfl w.heap.size 9 9 ip _ 1 16 Tryz.underlying46 Tryz.underlying46 HI.out.1 HI.out.2.1 HI.out.2.2.1 HI.out.2.2.2 rfl (by omega) u4 k _ rfl HO2.out (some ⟨w2.heap.size, 0, none⟩) 1 1 [.string y] rfl (Rd_new w2 #[.string y] _ 1 1 _ rfl rfl) (by simp [Value.oneCell']) (by simp only [maxLen]; omega) (by omega) (by have := HB2.out.size; simp; omega) ?_)
    intro v4 w4 hown4 hg4
    have HB4 : Hid (Below w.heap.size w w4) := Lib.hid ((below_alloc HB2.out _).grown hg4 (by have := HB2.out.size; simp; omega) (fun j hj => (HO2.out.lt j hj).1))
    have HO4 := Lib.hid hown4
    clear hown4 hg4
    go_wp2
    go_roundw
    case rel => exact ⟨k + 1, by omega, by go_num, HB4.out, by rw [take_snoc _ _ _ HS.out]; simpa [HY.out] using HO4.out⟩
    case measure => simp [intOf]; omega
  · obtain rfl : k = l.length := by omega
    rw [List.take_of_length_le (Nat.le_refl _)] at HOW
    obtain ⟨A2, c2, rfl, hc2, -, hr2⟩ := Rd.of_own HOW.out
    have hroot := root_any A2 c2 (l.map shLf) wr (by rw [List.length_map]; omega) (by rw [List.length_map]; exact hc2) (by unfold Strs; rw [List.length_map]; exact hr2) (shLf_sm l) (HT.out wr HBW.out)
    rw [shLf_D, if_pos rfl, if_pos rfl, List.length_map] at hroot
    have HR := Lib.hid hroot
    clear hr2 hroot
    go_wp2_with fail
    refine HR.out.mono ?_
    rintro e w1 ⟨rfl, hb1⟩
    have HB1 := Lib.hid (below_trans HBW.out hb1)
    clear hb1
    go_wp2
    go_ret2
    exact ⟨rfl, HB1.out⟩
def shChk (root : ByteArray) (m : Int) (s : Int × Int) (p : List ByteArray) : Bool := decide (1 ≤ m ∧ m ≤ 16 ∧ s.1 ≤ m) && validB s && chkB root m (s.1 - 1) (shLf s) p
set_option maxHeartbeats 8000000 in
theorem scheck_any (root : ByteArray) (m : Int) (s : Int × Int) (A : Option Addr) (c : Nat) (p : List ByteArray) (w : World) (hS : Strs w A p) (hbig : p.length ≤ 1000000) (hcap : p.length ≤ c) (hsm : sm p) (hT : Tabs w) :
    Calls Tryz.prog 78 #[.string root, .int .i64 m, .agg #[.int .i64 s.1, .int .i64 s.2], .slice A p.length c] w fun e w' => e = .returned (.bool (shChk root m s p)) ∧ Below w.heap.size w w' := by
  have HVF := Lib.hid (fun W => valid_any s.1 s.2 W)
  obtain ⟨w0, hw0⟩ : ∃ w0, w.alloc (.cells #[.int .i64 s.1, .int .i64 s.2] 37) = w0 := ⟨_, rfl⟩
  have HB0 : Hid (Below w.heap.size w w0) := Lib.hid (by rw [← hw0]; exact below_alloc (Below.refl _ _) _)
  have HK : Hid (∀ W, Below w0.heap.size w0 W → W.cell? ⟨w.heap.size, 0, none⟩ = some (.int .i64 s.1) ∧ W.cell? ⟨w.heap.size, 1, none⟩ = some (.int .i64 s.2)) := Lib.hid (fun W hW => by
    have hb : Blk w0 w.heap.size 37 #[.int .i64 s.1, .int .i64 s.2] := by rw [← hw0]; exact Blk.new w _ _ _ rfl
    exact ⟨kept_cell hW (hb.of_cell rfl), kept_cell hW (hb.of_cell rfl)⟩)
  have HW0 := Lib.hid hw0
  clear hw0
  have hno : ¬ (1 ≤ m ∧ m ≤ 16 ∧ s.1 ≤ m) → shChk root m s p = false := fun h => by unfold shChk; rw [decide_eq_false h]; simp
  by_cases h1 : m < 1
  · have HRES := Lib.hid (hno (by omega))
    have hd1 : decide (m < 1) = true := decide_eq_true h1
    clear hS hsm hno hT
    go_enter Tryz.func78, Tryz.ntmps78
    go_wp2
    go_ret
    exact ⟨ret_bool HRES.out.symm, below_alloc (Below.refl _ _) _⟩
  by_cases h2 : 16 < m
  · have HRES := Lib.hid (hno (by omega))
    have hd1 : decide (m < 1) = false := decide_eq_false h1
    have hd2 : decide (16 < m) = true := decide_eq_true h2
    clear hS hsm hno hT
    go_enter Tryz.func78, Tryz.ntmps78
    go_wp2
    go_ret
    exact ⟨ret_bool HRES.out.symm, below_alloc (Below.refl _ _) _⟩
  have hd1 : decide (m < 1) = false := decide_eq_false h1
  have hd2 : decide (16 < m) = false := decide_eq_false h2
  cases hv : validB s
  · have hres : shChk root m s p = false := by unfold shChk; rw [hv]; simp
    have HRES := Lib.hid hres
    have HV := Lib.hid hv
    clear hS hsm hno hres hv hT
    go_enter Tryz.func78, Tryz.ntmps78
    go_wp2_with fail
    refine (HVF.out _).mono ?_
    rintro e _ ⟨rfl, rfl⟩
    rw [HV.out]
    go_wp2
    go_ret
    exact ⟨ret_bool HRES.out.symm, below_alloc (below_alloc (Below.refl _ _) _) _⟩
  obtain ⟨g1, g2⟩ := valid_nat hv
  by_cases h3 : m < s.1
  · have HRES := Lib.hid (hno (by omega))
    have HV := Lib.hid hv
    have hd3 : decide (m < s.1) = true := decide_eq_true h3
    clear hS hsm hno hv hT
    go_enter Tryz.func78, Tryz.ntmps78
    go_wp2_with fail
    refine (HVF.out _).mono ?_
    rintro e _ ⟨rfl, rfl⟩
    rw [HV.out]
    go_wp2
    go_ret
    exact ⟨ret_bool HRES.out.symm, below_alloc (below_alloc (Below.refl _ _) _) _⟩
  have hd3 : decide (m < s.1) = false := decide_eq_false h3
  have hlfz : (lf (shT s)).size ≤ 1000000000 := by show (dg _).size ≤ _; rw [dg_size]; omega
  have hlfz2 : (lf (shT s)).size ≤ 200 := by show (dg _).size ≤ _; rw [dg_size]; omega
  have hval : shChk root m s p = chkB root m (s.1 - 1) (lf (shT s)) p := by
    unfold shChk shLf
    rw [decide_eq_true (⟨by omega, by omega, by omega⟩ : 1 ≤ m ∧ m ≤ 16 ∧ s.1 ≤ m), hv, Bool.true_and, Bool.true_and]
  have HT : Hid (∀ W, Below w.heap.size w W → Tabs W) := Lib.hid (fun W hW => hT.below hW)
  obtain ⟨w2, hw2⟩ : ∃ w2, w0.alloc (.cells #[.int .i64 s.1, .int .i64 s.2] 37) = w2 := ⟨_, rfl⟩
  have HB2 : Hid (Below w0.heap.size w0 w2) := Lib.hid (by rw [← hw2]; exact below_alloc (Below.refl _ _) _)
  have HTX : Hid (∀ W, Below w.heap.size w W → Calls Tryz.prog 52 #[.agg #[.int .i64 s.1, .int .i64 s.2]] W fun e w' => e = .returned (.string (shT s)) ∧ Below W.heap.size W w') := Lib.hid (fun W hW => stext_any s W ⟨by omega, by omega⟩ ⟨by omega, by omega⟩ (HT.out W hW))
  have HLF : Hid (∀ W, Below w.heap.size w W → Calls Tryz.prog 51 #[.string (shT s)] W fun e w' => e = .returned (.string (lf (shT s))) ∧ Below W.heap.size W w') := Lib.hid (fun W hW => leaf_any (shT s) (shT_sm hv) W (HT.out W hW))
  have HCK : Hid (∀ W, Below w.heap.size w W → Calls Tryz.prog 105 #[.string root, .int .i64 m, .int .i64 (s.1 - 1), .string (lf (shT s)), .slice A p.length c] W fun e w' => e = .returned (.bool (chkB root m (s.1 - 1) (lf (shT s)) p)) ∧ Below W.heap.size W w') := Lib.hid (fun W hW => tcheck_any root m (s.1 - 1) (lf (shT s)) A c p W (HT.out W hW) (hS.below hW) hbig hlfz (fun t ht => by have := hsm t ht; omega))
  have HV := Lib.hid hv
  have HW2 := Lib.hid hw2
  have HBA : Hid (∀ W, Below w2.heap.size w2 W → Below w.heap.size w W ∧ Below w0.heap.size w0 W) := Lib.hid (fun W hW => ⟨below_trans (below_trans HB0.out HB2.out) hW, below_trans HB2.out hW⟩)
  rw [hval]
  clear hS hsm hno hval hv hw2 hlfz hlfz2 HB2 hT
  generalize lf (shT s) = y at *
  generalize shT s = ts at *
  generalize chkB root m (s.1 - 1) y p = cv at *
  have hsub : IntKind.i64.wrap (s.1 - 1) = s.1 - 1 := by rw [IntWalk.i64_in _ (by omega)]
  go_enter Tryz.func78, Tryz.ntmps78
  go_wp2_with fail
  have hw0 := HW0.out
  rw [hw0]
  refine (HVF.out _).mono ?_
  rintro e _ ⟨rfl, rfl⟩
  rw [HV.out, HW2.out]
  obtain ⟨q1, q2⟩ := HK.out w2 (HBA.out w2 (Below.refl _ _)).2
  have ql := lt_of_cell q1
  clear hw0
  go_wp2_with fail
  clear q1 q2 ql
  refine wp_region_belowC (by kernel_rfl) (by kernel_rfl) (fun WQ HQS HQN => ?_)
  refine HQS.go (fun K hK => ?_)
  go_simp
  apply Exists.intro
  refine ⟨fun W hW => ?_, hK _ ?_⟩
  · (try go_simp)
    exact rfl
  clear hK K
  refine HQS.go (fun K hK => ?_)
  go_simp
  apply Exists.intro
  refine ⟨fun W hW => ?_, hK _ ?_⟩
  · (try go_simp)
    exact rfl
  clear hK K
  refine HQS.go (fun K hK => ?_)
  go_simp
  apply Exists.intro
  refine ⟨fun W hW => ?_, hK _ ?_⟩
  · (try go_simp)
    exact rfl
  clear hK K
  refine HQS.go (fun K hK => ?_)
  go_simp
  apply Exists.intro
  refine ⟨fun W hW => ?_, hK _ ?_⟩
  · obtain ⟨q1, q2⟩ := HK.out W (HBA.out W hW).2
    have ql := lt_of_cell q1
    go_simp
    exact rfl
  clear hK K
  refine HQS.go (fun K hK => ?_)
  go_simp
  apply Exists.intro
  refine ⟨fun W hW => ?_, hK _ ?_⟩
  · (try go_simp)
    exact rfl
  clear hK K
  refine HQS.go (fun K hK => ?_)
  go_simp
  apply Exists.intro
  refine ⟨fun W hW => ?_, hK _ ?_⟩
  · obtain ⟨q1, q2⟩ := HK.out W (HBA.out W hW).2
    have ql := lt_of_cell q1
    go_simp
    exact rfl
  clear hK K
  refine HQS.go (fun K hK => ?_)
  go_simp
  apply Exists.intro
  refine ⟨fun W hW => ?_, hK _ ?_⟩
  · exact (HTX.out W (HBA.out W hW).1).mono fun _ _ ⟨he, hb⟩ => ⟨he, below_trans hW hb⟩
  clear hK K
  refine HQS.go (fun K hK => ?_)
  go_simp
  apply Exists.intro
  refine ⟨fun W hW => ?_, hK _ ?_⟩
  · exact (HLF.out W (HBA.out W hW).1).mono fun _ _ ⟨he, hb⟩ => ⟨he, below_trans hW hb⟩
  clear hK K
  refine HQS.go (fun K hK => ?_)
  go_simp
  apply Exists.intro
  refine ⟨fun W hW => ?_, hK _ ?_⟩
  · (try go_simp)
    exact rfl
  clear hK K
  refine HQS.go (fun K hK => ?_)
  go_simp
  apply Exists.intro
  refine ⟨fun W hW => ?_, hK _ ?_⟩
  · exact (HCK.out W (HBA.out W hW).1).mono fun _ _ ⟨he, hb⟩ => ⟨he, below_trans hW hb⟩
  clear hK K
  refine HQS.go (fun K hK => ?_)
  go_simp
  apply Exists.intro
  refine ⟨fun W hW => ?_, hK _ ?_⟩
  · (try go_simp)
    exact rfl
  clear hK K
  refine HQN.go ?_
  intro W hW
  go_wp2
  go_ret
  exact ⟨rfl, (HBA.out W hW).1⟩
set_option maxHeartbeats 8000000 in
theorem r7check_any (root : ByteArray) (m : Int) (s : Int × Int) (A : Option Addr) (c : Nat) (p : List ByteArray) (w : World) (hS : Strs w A p) (hbig : p.length ≤ 1000000) (hcap : p.length ≤ c) (hsm : sm p) :
    Calls Tryz.prog 31 #[.string root, .int .i64 m, .agg #[.int .i64 s.1, .int .i64 s.2], .slice A p.length c] w fun e w' => e = .returned (.bool (shChk root m s p)) ∧ Below w.heap.size w w' := by
  have HVF := Lib.hid (fun W => rvalid_any s.1 s.2 W)
  obtain ⟨w0, hw0⟩ : ∃ w0, w.alloc (.cells #[.int .i64 s.1, .int .i64 s.2] 37) = w0 := ⟨_, rfl⟩
  have HB0 : Hid (Below w.heap.size w w0) := Lib.hid (by rw [← hw0]; exact below_alloc (Below.refl _ _) _)
  have HK : Hid (∀ W, Below w0.heap.size w0 W → W.cell? ⟨w.heap.size, 0, none⟩ = some (.int .i64 s.1) ∧ W.cell? ⟨w.heap.size, 1, none⟩ = some (.int .i64 s.2)) := Lib.hid (fun W hW => by
    have hb : Blk w0 w.heap.size 37 #[.int .i64 s.1, .int .i64 s.2] := by rw [← hw0]; exact Blk.new w _ _ _ rfl
    exact ⟨kept_cell hW (hb.of_cell rfl), kept_cell hW (hb.of_cell rfl)⟩)
  have HW0 := Lib.hid hw0
  clear hw0
  have hno : ¬ (1 ≤ m ∧ m ≤ 16 ∧ s.1 ≤ m) → shChk root m s p = false := fun h => by unfold shChk; rw [decide_eq_false h]; simp
  by_cases h1 : m < 1
  · have HRES := Lib.hid (hno (by omega))
    have hd1 : decide (m < 1) = true := decide_eq_true h1
    clear hS hsm hno
    go_enter Tryz.func31, Tryz.ntmps31
    go_wp2
    go_ret
    exact ⟨ret_bool HRES.out.symm, below_alloc (Below.refl _ _) _⟩
  by_cases h2 : 16 < m
  · have HRES := Lib.hid (hno (by omega))
    have hd1 : decide (m < 1) = false := decide_eq_false h1
    have hd2 : decide (16 < m) = true := decide_eq_true h2
    clear hS hsm hno
    go_enter Tryz.func31, Tryz.ntmps31
    go_wp2
    go_ret
    exact ⟨ret_bool HRES.out.symm, below_alloc (Below.refl _ _) _⟩
  have hd1 : decide (m < 1) = false := decide_eq_false h1
  have hd2 : decide (16 < m) = false := decide_eq_false h2
  cases hv : validB s
  · have hres : shChk root m s p = false := by unfold shChk; rw [hv]; simp
    have HRES := Lib.hid hres
    have HV := Lib.hid hv
    clear hS hsm hno hres hv
    go_enter Tryz.func31, Tryz.ntmps31
    go_wp2_with fail
    refine (HVF.out _).mono ?_
    rintro e _ ⟨rfl, rfl⟩
    rw [HV.out]
    go_wp2
    go_ret
    exact ⟨ret_bool HRES.out.symm, below_alloc (below_alloc (Below.refl _ _) _) _⟩
  obtain ⟨g1, g2⟩ := valid_nat hv
  by_cases h3 : m < s.1
  · have HRES := Lib.hid (hno (by omega))
    have HV := Lib.hid hv
    have hd3 : decide (m < s.1) = true := decide_eq_true h3
    clear hS hsm hno hv
    go_enter Tryz.func31, Tryz.ntmps31
    go_wp2_with fail
    refine (HVF.out _).mono ?_
    rintro e _ ⟨rfl, rfl⟩
    rw [HV.out]
    go_wp2
    go_ret
    exact ⟨ret_bool HRES.out.symm, below_alloc (below_alloc (Below.refl _ _) _) _⟩
  have hd3 : decide (m < s.1) = false := decide_eq_false h3
  have hlfz : (lf (shT s)).size ≤ 1000000000 := by show (dg _).size ≤ _; rw [dg_size]; omega
  have hlfz2 : (lf (shT s)).size ≤ 200 := by show (dg _).size ≤ _; rw [dg_size]; omega
  have hval : shChk root m s p = chkB root m (s.1 - 1) (lf (shT s)) p := by
    unfold shChk shLf
    rw [decide_eq_true (⟨by omega, by omega, by omega⟩ : 1 ≤ m ∧ m ≤ 16 ∧ s.1 ≤ m), hv, Bool.true_and, Bool.true_and]

  obtain ⟨w2, hw2⟩ : ∃ w2, w0.alloc (.cells #[.int .i64 s.1, .int .i64 s.2] 37) = w2 := ⟨_, rfl⟩
  have HB2 : Hid (Below w0.heap.size w0 w2) := Lib.hid (by rw [← hw2]; exact below_alloc (Below.refl _ _) _)
  have HTX : Hid (∀ W, Below w.heap.size w W → Calls Tryz.prog 33 #[.agg #[.int .i64 s.1, .int .i64 s.2]] W fun e w' => e = .returned (.string (shT s)) ∧ Below W.heap.size W w') := Lib.hid (fun W hW => rtext_any s W ⟨by omega, by omega⟩ ⟨by omega, by omega⟩)
  have HLF : Hid (∀ W, Below w.heap.size w W → Calls Tryz.prog 38 #[.string (shT s)] W fun e w' => e = .returned (.string (lf (shT s))) ∧ Below W.heap.size W w') := Lib.hid (fun W hW => rleaf_any (shT s) (shT_sm hv) W)
  have HCK : Hid (∀ W, Below w.heap.size w W → Calls Tryz.prog 55 #[.string root, .int .i64 m, .int .i64 (s.1 - 1), .string (lf (shT s)), .slice A p.length c] W fun e w' => e = .returned (.bool (chkB root m (s.1 - 1) (lf (shT s)) p)) ∧ Below W.heap.size W w') := Lib.hid (fun W hW => rcheck_any root m (s.1 - 1) (lf (shT s)) A c p W (hS.below hW) hbig hcap hlfz2 hsm)
  have HV := Lib.hid hv
  have HW2 := Lib.hid hw2
  have HBA : Hid (∀ W, Below w2.heap.size w2 W → Below w.heap.size w W ∧ Below w0.heap.size w0 W) := Lib.hid (fun W hW => ⟨below_trans (below_trans HB0.out HB2.out) hW, below_trans HB2.out hW⟩)
  rw [hval]
  clear hS hsm hno hval hv hw2 hlfz hlfz2 HB2
  generalize lf (shT s) = y at *
  generalize shT s = ts at *
  generalize chkB root m (s.1 - 1) y p = cv at *
  have hsub : IntKind.i64.wrap (s.1 - 1) = s.1 - 1 := by rw [IntWalk.i64_in _ (by omega)]
  go_enter Tryz.func31, Tryz.ntmps31
  go_wp2_with fail
  have hw0 := HW0.out
  rw [hw0]
  refine (HVF.out _).mono ?_
  rintro e _ ⟨rfl, rfl⟩
  rw [HV.out, HW2.out]
  obtain ⟨q1, q2⟩ := HK.out w2 (HBA.out w2 (Below.refl _ _)).2
  have ql := lt_of_cell q1
  clear hw0
  go_wp2_with fail
  clear q1 q2 ql
  refine wp_region_belowC (by kernel_rfl) (by kernel_rfl) (fun WQ HQS HQN => ?_)
  refine HQS.go (fun K hK => ?_)
  go_simp
  apply Exists.intro
  refine ⟨fun W hW => ?_, hK _ ?_⟩
  · (try go_simp)
    exact rfl
  clear hK K
  refine HQS.go (fun K hK => ?_)
  go_simp
  apply Exists.intro
  refine ⟨fun W hW => ?_, hK _ ?_⟩
  · (try go_simp)
    exact rfl
  clear hK K
  refine HQS.go (fun K hK => ?_)
  go_simp
  apply Exists.intro
  refine ⟨fun W hW => ?_, hK _ ?_⟩
  · (try go_simp)
    exact rfl
  clear hK K
  refine HQS.go (fun K hK => ?_)
  go_simp
  apply Exists.intro
  refine ⟨fun W hW => ?_, hK _ ?_⟩
  · obtain ⟨q1, q2⟩ := HK.out W (HBA.out W hW).2
    have ql := lt_of_cell q1
    go_simp
    exact rfl
  clear hK K
  refine HQS.go (fun K hK => ?_)
  go_simp
  apply Exists.intro
  refine ⟨fun W hW => ?_, hK _ ?_⟩
  · (try go_simp)
    exact rfl
  clear hK K
  refine HQS.go (fun K hK => ?_)
  go_simp
  apply Exists.intro
  refine ⟨fun W hW => ?_, hK _ ?_⟩
  · obtain ⟨q1, q2⟩ := HK.out W (HBA.out W hW).2
    have ql := lt_of_cell q1
    go_simp
    exact rfl
  clear hK K
  refine HQS.go (fun K hK => ?_)
  go_simp
  apply Exists.intro
  refine ⟨fun W hW => ?_, hK _ ?_⟩
  · exact (HTX.out W (HBA.out W hW).1).mono fun _ _ ⟨he, hb⟩ => ⟨he, below_trans hW hb⟩
  clear hK K
  refine HQS.go (fun K hK => ?_)
  go_simp
  apply Exists.intro
  refine ⟨fun W hW => ?_, hK _ ?_⟩
  · exact (HLF.out W (HBA.out W hW).1).mono fun _ _ ⟨he, hb⟩ => ⟨he, below_trans hW hb⟩
  clear hK K
  refine HQS.go (fun K hK => ?_)
  go_simp
  apply Exists.intro
  refine ⟨fun W hW => ?_, hK _ ?_⟩
  · (try go_simp)
    exact rfl
  clear hK K
  refine HQS.go (fun K hK => ?_)
  go_simp
  apply Exists.intro
  refine ⟨fun W hW => ?_, hK _ ?_⟩
  · exact (HCK.out W (HBA.out W hW).1).mono fun _ _ ⟨he, hb⟩ => ⟨he, below_trans hW hb⟩
  clear hK K
  refine HQS.go (fun K hK => ?_)
  go_simp
  apply Exists.intro
  refine ⟨fun W hW => ?_, hK _ ?_⟩
  · (try go_simp)
    exact rfl
  clear hK K
  refine HQN.go ?_
  intro W hW
  go_wp2
  go_ret
  exact ⟨rfl, (HBA.out W hW).1⟩
end

section
open Go.RowKit

/-- The shares that were offered, in the order of their places. -/
def ord (S : List (Int × Int)) (total : Nat) : List (Int × Int) := (List.range total).filterMap fun (x : Nat) => fnd S ((x : Int) + 1)

theorem ord_succ (S : List (Int × Int)) (k : Nat) : ord S (k + 1) = ord S k ++ (fnd S ((k : Int) + 1)).toList := by
  unfold ord
  rw [List.range_succ, List.filterMap_append]
  cases h : fnd S ((k : Int) + 1) <;> simp [h]
theorem ord_len (S : List (Int × Int)) (k : Nat) : (ord S k).length ≤ k := by
  unfold ord
  exact Nat.le_trans (List.length_filterMap_le _ _) (by simp)

theorem fnd_mem {S : List (Int × Int)} (hnd : (S.map (·.1)).Nodup) {s : Int × Int} (hs : s ∈ S) : fnd S s.1 = some s := by
  induction S with
  | nil => cases hs
  | cons t S ih =>
    rw [List.map_cons, List.nodup_cons] at hnd
    rcases List.mem_cons.1 hs with rfl | h
    · simp [fnd]
    · have hne : t.1 ≠ s.1 := fun e => hnd.1 (e ▸ List.mem_map_of_mem (f := (·.1)) h)
      have := ih hnd.2 h
      unfold fnd at this ⊢
      rw [List.find?_cons_of_neg (by simpa using hne)]
      exact this

theorem mem_ord {S : List (Int × Int)} (hnd : (S.map (·.1)).Nodup) {total : Nat} (hp : ∀ s, s ∈ S → 1 ≤ s.1 ∧ s.1 ≤ total) (s : Int × Int) : s ∈ ord S total ↔ s ∈ S := by
  unfold ord
  rw [List.mem_filterMap]
  constructor
  · rintro ⟨x, -, hx⟩
    exact (fnd_some hx).1
  · intro hs
    have h := hp s hs
    refine ⟨(s.1 - 1).toNat, List.mem_range.2 (by omega), ?_⟩
    rw [show (((s.1 - 1).toNat : Nat) : Int) + 1 = s.1 by omega]
    exact fnd_mem hnd hs

theorem ord_keys (S : List (Int × Int)) (k : Nat) : (∀ s, s ∈ ord S k → s.1 ≤ k) ∧ ((ord S k).map (·.1)).Nodup := by
  induction k with
  | zero => simp [ord]
  | succ k ih =>
    rw [ord_succ]
    cases h : fnd S ((k : Int) + 1) with
    | none => simp only [Option.toList_none, List.append_nil]; exact ⟨fun s hs => by have := ih.1 s hs; omega, ih.2⟩
    | some t =>
      have ht := (fnd_some h).2
      simp only [Option.toList_some]
      refine ⟨fun s hs => ?_, ?_⟩
      · rcases List.mem_append.1 hs with h1 | h1
        · have := ih.1 s h1; omega
        · rw [List.mem_singleton.1 h1, ht]; omega
      · rw [List.map_append, List.nodup_append]
        refine ⟨ih.2, by simp, ?_⟩
        intro a ha b hb e
        obtain ⟨s, hs, rfl⟩ := List.mem_map.1 ha
        have h1 := ih.1 s hs
        simp only [List.map_cons, List.map_nil, List.mem_singleton] at hb
        omega

theorem nodup_of_map {α β : Type} {f : α → β} {l : List α} (h : (l.map f).Nodup) : l.Nodup := (List.pairwise_map.1 h).imp fun hab e => hab (by rw [e])

theorem ord_perm {S : List (Int × Int)} (hnd : (S.map (·.1)).Nodup) {total : Nat} (hp : ∀ s, s ∈ S → 1 ≤ s.1 ∧ s.1 ≤ total) : (ord S total).Perm S :=
  (List.perm_ext_iff_of_nodup (nodup_of_map (ord_keys S total).2) (nodup_of_map hnd)).2 (mem_ord hnd hp)

/-! ### the answers of a vault -/
def offE (root : ByteArray) (total : Int) (S : List (Int × Int)) (opn : Bool) (s : Int × Int) (p : List ByteArray) : Int :=
  if opn then 11 else if shChk root total s p = false then 24 else if (fnd S s.1).isSome then 8 else 0
def offS (root : ByteArray) (total : Int) (S : List (Int × Int)) (opn : Bool) (s : Int × Int) (p : List ByteArray) : List (Int × Int) :=
  if offE root total S opn s p = 0 then S ++ [s] else S
noncomputable def opnR (need : Int) (total : Nat) (S : List (Int × Int)) (opn : Bool) : Int × Int := if opn then (0, 11) else joinF (ord S total) need
end

section
open Go.RowKit



/-! ### the examples -/
theorem on_two : On [7, 5] [(3, 22), (1, 12)] := ⟨by simp, by simp [evp], by decide⟩
theorem on_three : On [7, 5] [(1, 12), (2, 17), (3, 22)] := ⟨by simp, by simp [evp], by decide⟩
theorem ex1 : joinF [(3, 22), (1, 12)] (2 : Nat) = (7, 0) := joinF_on [7, 5] 2 _ on_two (by omega) (by omega) (by simp) (by simp)
theorem ex2 : joinF [(3, 22)] (2 : Nat) = (0, 25) := joinF_on_few [7, 5] 2 _ (on_two.sublist (by simp)) (by omega) (by omega) (by simp)
theorem ex3 : joinF [(1, 12), (1, 12)] (2 : Nat) = (0, 8) := joinF_dup _ _ (by omega) (by omega) (by decide) (by decide)
theorem ex4 : joinF [(1, 12), (2, 17), (3, 23)] (2 : Nat) = (0, 24) := joinF_on_wrong [7, 5] 2 _ on_three (by omega) (by omega) (by simp) (by simp) 2 (3, 22) rfl 23 (by omega) (by omega) (by simp)
theorem ex5 : shs [7, 5] 3 = [(1, 12), (2, 17), (3, 22)] := by decide
end

end Go.Proofs.YtdlgejofggbifaaGreatDoor
