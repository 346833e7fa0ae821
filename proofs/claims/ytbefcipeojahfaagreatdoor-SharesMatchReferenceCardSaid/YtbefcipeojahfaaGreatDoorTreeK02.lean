/- Layer 2: Check's closure. -/
import Derived.Test.YtbefcipeojahfaaGreatDoorTreeC02
namespace Go.Proofs.YtbefcipeojahfaaGreatDoor
open Go.RowKit

theorem upv_size (n i : Nat) (s : ByteArray) (p : List ByteArray) (hs : s.size ≤ 200) : (upv n i s p).size ≤ 200 := by
  by_cases h : 2 ≤ n
  · by_cases hi : i < hf n
    · rw [upv_lt n i s p h hi, nd_size]; omega
    · rw [upv_ge n i s p h hi, nd_size]; omega
  · rw [upv_one n i s p h]; exact hs
theorem getLastD_size (p : List ByteArray) (h : allD p = true) : (p.getLastD ByteArray.empty).size ≤ 200 := by
  by_cases hne : p = []
  · subst hne; decide
  · have hm : p.getLastD ByteArray.empty ∈ p := by
      rw [List.getLastD_eq_getLast?, List.getLast?_eq_some_getLast hne]
      exact List.getLast_mem hne
    simp only [allD, List.all_eq_true] at h
    rw [isD_16 (h _ hm)]; decide
/-- What is left of a list after k more digests were taken off its end. -/
def rem (p : List ByteArray) (k : Nat) : List ByteArray := p.take (p.length - k)
theorem rem_succ (p : List ByteArray) (k : Nat) : rem p.dropLast k = rem p (1 + k) := by
  unfold rem
  rw [List.length_dropLast, List.dropLast_eq_take, List.take_take]
  congr 1; omega
theorem sh_succ (p : List ByteArray) (short : Bool) (k : Nat) : ((short || p.isEmpty) || decide (p.dropLast.length < k)) = (short || decide (p.length < 1 + k)) := by
  rw [List.length_dropLast, Bool.or_assoc]
  congr 1
  cases p with
  | nil => simp; omega
  | cons x l => simp only [List.isEmpty_cons, Bool.false_or, List.length_cons]; apply decide_eq_decide.2; omega

theorem PrS.zero {w : World} {Db Pb : Nat} {p : List ByteArray} {short : Bool} (h : PrS w Db Pb p short) : PrS w Db Pb (rem p 0) (short || decide (p.length < 0)) := by
  have e : rem p 0 = p := by unfold rem; simp
  rw [e]; simpa using h

set_option maxRecDepth 100000 in
set_option maxHeartbeats 16000000 in
theorem checkc_any (w0 : World) (hT : Tabs w0) (Lb Vb Ub Db Pb : Nat) (s : ByteArray) (hs : s.size ≤ 200) (hD : w0.heap.size ≤ Db) (hP : w0.heap.size ≤ Pb) (hL : Lb ∉ [Db, Pb]) (hV : Vb ∉ [Db, Pb]) (hU : Ub ∉ [Db, Pb]) (m : Nat) :
    ∀ (n i : Nat) (p : List ByteArray) (short : Bool) (w : World), n ≤ m → 1 ≤ n → n ≤ 1000000 → i < n → Below w0.heap.size w0 w → PrS w Db Pb p short →
      w.cell? ⟨Lb, 0, none⟩ = some (.string s) → w.cell? ⟨Vb, 0, none⟩ = some (.pointer (some ⟨Pb, 0, none⟩)) →
      w.cell? ⟨Ub, 0, none⟩ = some (.func (.func 62) #[] #[.pointer (some ⟨Lb, 0, none⟩), .pointer (some ⟨Vb, 0, none⟩), .pointer (some ⟨Ub, 0, none⟩)]) →
      Calls Tryz.prog 62 #[.int .i64 n, .int .i64 i, .pointer (some ⟨Lb, 0, none⟩), .pointer (some ⟨Vb, 0, none⟩), .pointer (some ⟨Ub, 0, none⟩)] w fun e w' =>
        e = .returned (.string (upv n i s p)) ∧ Chg [Db, Pb] w w' ∧ PrS w' Db Pb (rem p (plen n i)) (short || decide (p.length < plen n i)) := by
  induction m with
  | zero => intro n i p short w h1 h2; omega
  | succ m ih =>
    intro n i p short w hn h1 hbig hi hb hpr hcl hcv hcu
    by_cases h2 : 2 ≤ n
    · have hbase : ∀ w', Chg [Db, Pb] w w' → Below w0.heap.size w0 w' := fun w' hc => hb.trans (hc.below (fun k hk => by
        simp only [List.mem_cons, List.not_mem_nil, or_false] at hk
        rcases hk with rfl | rfl <;> assumption) hb.size)
      have k1 := hf_lt n h2
      have k2 := hf_pos n
      obtain ⟨x, hx⟩ : ∃ x, p.getLastD ByteArray.empty = x := ⟨_, rfl⟩
      have hxs : x.size ≤ 200 := by rw [← hx]; exact getLastD_size p hpr.all
      have HN := Lib.hid (next_any Db Pb p short w.drew (hpr.chg (Below.drew (Below.refl _ _))))
      rw [hx] at HN
      have hlast : upv n i s p = if i < hf n then nd (upv (hf n) i s p.dropLast) x else nd x (upv (n - hf n) (i - hf n) s p.dropLast) := by
        split
        · next h => rw [upv_lt n i s p h2 h, hx]
        · next h => rw [upv_ge n i s p h2 h, hx]
      have hpl : plen n i = 1 + if i < hf n then plen (hf n) i else plen (n - hf n) (i - hf n) := by
        split
        · next h => rw [plen_lt n i h2 h]
        · next h => rw [plen_ge n i h2 h]
      rw [hlast, hpl]
      clear hlast hpl hx
      obtain ⟨k, hk⟩ : ∃ k, hf n = k := ⟨_, rfl⟩
      rw [hk] at k1 k2 ⊢
      have HH := Lib.hid (fun W => (half_any n hbig W).mono fun _ _ ⟨he, hw⟩ => (⟨he, hw.symm⟩ : _ ∧ _ = W))
      rw [hk] at HH
      have HIH := Lib.hid ih
      have HC : Hid (∀ w', Chg [Db, Pb] w w' → Below w0.heap.size w0 w' ∧ w'.cell? ⟨Lb, 0, none⟩ = some (.string s) ∧ w'.cell? ⟨Vb, 0, none⟩ = some (.pointer (some ⟨Pb, 0, none⟩)) ∧ w'.cell? ⟨Ub, 0, none⟩ = some (.func (.func 62) #[] #[.pointer (some ⟨Lb, 0, none⟩), .pointer (some ⟨Vb, 0, none⟩), .pointer (some ⟨Ub, 0, none⟩)])) :=
        Lib.hid (fun w' hc => ⟨hbase w' hc, hc.cell hL hcl, hc.cell hV hcv, hc.cell hU hcu⟩)
      have HND := Lib.hid (fun (a b : ByteArray) (ha : a.size ≤ 200) (hb : b.size ≤ 200) (W : World) (hW : Below w0.heap.size w0 W) => node_any a b ha hb W (hT.below hW))
      have hl := lt_of_cell hcv
      clear hpr hbase hb ih hcl hk
      have hn1 : ((n : Int) == 1) = false := by simp; omega
      by_cases hik : i < k
      · rw [if_pos hik, if_pos hik]
        go_enter Tryz.func62, Tryz.ntmps62
        go_wp2_with fail
        refine wp_region_still_tail 3 (by kernel_rfl) (by kernel_rfl) ?_
        simp only [List.take_succ_cons, List.take_zero, List.drop_succ_cons, List.drop_zero]
        change wpStill _ _ (World.drew _) _ _ _
        still_step
        still_call (HH.out _)
        still_step
        refine wpStill_nil ?_
        change wpList _ _ _ _ _ (World.drew _)
        go_wp2_with fail
        refine HN.out.mono ?_
        rintro e w1 ⟨rfl, hc1, hp1⟩
        have hc1' : Chg [Db, Pb] w w1 := (Chg.refl [Db, Pb] w).drew.trans hc1 (fun j hj => .inl hj)
        obtain ⟨b1, cl1, cv1, cu1⟩ := HC.out w1 hc1'
        have HI1 := Lib.hid (HIH.out k i p.dropLast (short || p.isEmpty) w1 (by omega) k2 (by omega) hik b1 hp1 cl1 cv1 cu1)
        have HC1 := Lib.hid hc1'
        have hu1 := lt_of_cell cu1
        clear hc1 hp1 hc1' b1 cl1 cv1
        go_wp2_with fail
        refine HI1.out.mono ?_
        rintro e w2 ⟨rfl, hc2, hp2⟩
        have HC2 := Lib.hid (HC1.out.trans hc2 (fun j hj => .inl hj))
        have HP2 := Lib.hid hp2
        clear hc2 hp2
        have HN2 := Lib.hid (HND.out (upv k i s p.dropLast) x (upv_size _ _ _ _ hs) hxs w2 (HC.out w2 HC2.out).1)
        go_wp2_with fail
        refine HN2.out.mono ?_
        rintro e w3 ⟨rfl, hb3⟩
        have HB3 := Lib.hid hb3
        clear hb3
        go_wp2
        go_ret
        refine ⟨rfl, HC2.out.trans (Chg.of_below HB3.out []) (by simp), ?_⟩
        have := HP2.out.chg HB3.out
        rw [rem_succ, sh_succ] at this
        exact this
      · rw [if_neg hik, if_neg hik]
        have hni : ¬ (i : Int) < (k : Int) := by omega
        have e1 : (n : Int) - (k : Int) = ((n - k : Nat) : Int) := by omega
        have e2 : (i : Int) - (k : Int) = ((i - k : Nat) : Int) := by omega
        have HE1 := Lib.hid e1
        have HE2 := Lib.hid e2
        clear e1 e2
        go_enter Tryz.func62, Tryz.ntmps62
        go_wp2_with fail
        refine wp_region_still_tail 3 (by kernel_rfl) (by kernel_rfl) ?_
        simp only [List.take_succ_cons, List.take_zero, List.drop_succ_cons, List.drop_zero]
        change wpStill _ _ (World.drew _) _ _ _
        still_step
        still_call (HH.out _)
        still_step
        refine wpStill_nil ?_
        change wpList _ _ _ _ _ (World.drew _)
        go_wp2_with fail
        refine HN.out.mono ?_
        rintro e w1 ⟨rfl, hc1, hp1⟩
        have hc1' : Chg [Db, Pb] w w1 := (Chg.refl [Db, Pb] w).drew.trans hc1 (fun j hj => .inl hj)
        obtain ⟨b1, cl1, cv1, cu1⟩ := HC.out w1 hc1'
        have HI1 := Lib.hid (HIH.out (n - k) (i - k) p.dropLast (short || p.isEmpty) w1 (by omega) (by omega) (by omega) (by omega) b1 hp1 cl1 cv1 cu1)
        have HC1 := Lib.hid hc1'
        have hu1 := lt_of_cell cu1
        clear hc1 hp1 hc1' b1 cl1 cv1
        go_wp2_with fail
        rw [HE1.out, HE2.out]
        refine HI1.out.mono ?_
        rintro e w2 ⟨rfl, hc2, hp2⟩
        have HC2 := Lib.hid (HC1.out.trans hc2 (fun j hj => .inl hj))
        have HP2 := Lib.hid hp2
        clear hc2 hp2
        have HN2 := Lib.hid (HND.out x (upv (n - k) (i - k) s p.dropLast) hxs (upv_size _ _ _ _ hs) w2 (HC.out w2 HC2.out).1)
        go_wp2_with fail
        refine HN2.out.mono ?_
        rintro e w3 ⟨rfl, hb3⟩
        have HB3 := Lib.hid hb3
        clear hb3
        go_wp2
        go_ret
        refine ⟨rfl, HC2.out.trans (Chg.of_below HB3.out []) (by simp), ?_⟩
        have := HP2.out.chg HB3.out
        rw [rem_succ, sh_succ] at this
        exact this
    · obtain rfl : n = 1 := by omega
      rw [upv_one 1 i s p (by omega), plen_one 1 i (by omega)]
      have HP := Lib.hid hpr.zero
      clear hpr ih
      have hl := lt_of_cell hcl
      go_enter Tryz.func62, Tryz.ntmps62
      go_wp2
      go_ret
      exact ⟨rfl, Chg.refl _ _, HP.out⟩

end Go.Proofs.YtbefcipeojahfaaGreatDoor
