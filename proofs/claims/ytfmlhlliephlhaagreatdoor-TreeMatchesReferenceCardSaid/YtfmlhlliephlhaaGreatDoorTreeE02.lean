/- Layer 2: Extends' closure. -/
import Derived.Test.YtfmlhlliephlhaaGreatDoorTreeLk02
namespace Go.Proofs.YtfmlhlliephlhaaGreatDoor
open Go.RowKit

theorem bothv_size (n m : Nat) (wh : Bool) (old : ByteArray) (p : List ByteArray) (hp : allD p = true) (ho : old.size ≤ 200) : (bothv n m wh old p).1.size ≤ 200 ∧ (bothv n m wh old p).2.size ≤ 200 := by
  induction n using Nat.strongRecOn generalizing m wh p with
  | _ n ih =>
    by_cases hc : m < n ∧ 2 ≤ n
    · have k1 := hf_lt n hc.2
      have k2 := hf_pos n
      by_cases hi : m ≤ hf n
      · have h3 := ih (hf n) k1 m wh p.dropLast (by rw [List.dropLast_eq_take]; exact allD_take hp _)
        rw [bothv_le n m wh old p hc.1 hc.2 hi]
        refine ⟨h3.1, ?_⟩
        show (nd _ _).size ≤ 200
        rw [nd_size]; omega
      · rw [bothv_gt n m wh old p hc.1 hc.2 hi]
        constructor
        · show (nd _ _).size ≤ 200
          rw [nd_size]; omega
        · show (nd _ _).size ≤ 200
          rw [nd_size]; omega
    · have e : bothv n m wh old p = if wh then (old, old) else (p.getLastD ByteArray.empty, p.getLastD ByteArray.empty) := by rw [bothv, dif_neg hc]
      rw [e]
      split
      · exact ⟨ho, ho⟩
      · exact ⟨getLastD_size p hp, getLastD_size p hp⟩

set_option maxRecDepth 100000 in
set_option maxHeartbeats 32000000 in
theorem extc_any (w0 : World) (hT : Tabs w0) (Ob Vb Ub Db Pb : Nat) (old : ByteArray) (hs : old.size ≤ 200) (hD : w0.heap.size ≤ Db) (hP : w0.heap.size ≤ Pb) (hL : Ob ∉ [Db, Pb]) (hV : Vb ∉ [Db, Pb]) (hU : Ub ∉ [Db, Pb]) (q : Nat) :
    ∀ (n m : Nat) (wh : Bool) (p : List ByteArray) (short : Bool) (w : World), n ≤ q → 1 ≤ m → m ≤ n → n ≤ 1000000 → Below w0.heap.size w0 w → PrS w Db Pb p short →
      w.cell? ⟨Ob, 0, none⟩ = some (.string old) → w.cell? ⟨Vb, 0, none⟩ = some (.pointer (some ⟨Pb, 0, none⟩)) →
      w.cell? ⟨Ub, 0, none⟩ = some (.func (.func 40) #[] #[.pointer (some ⟨Ob, 0, none⟩), .pointer (some ⟨Vb, 0, none⟩), .pointer (some ⟨Ub, 0, none⟩)]) →
      Calls Tryz.prog 40 #[.int .i64 n, .int .i64 m, .bool wh, .pointer (some ⟨Ob, 0, none⟩), .pointer (some ⟨Vb, 0, none⟩), .pointer (some ⟨Ub, 0, none⟩)] w fun e w' =>
        e = .returned (.tuple #[.string (bothv n m wh old p).1, .string (bothv n m wh old p).2]) ∧ Chg [Db, Pb] w w' ∧ PrS w' Db Pb (rem p (llen n m wh)) (short || decide (p.length < llen n m wh)) := by
  induction q with
  | zero => intro n m wh p short w h1 h2 h3; omega
  | succ q ih =>
    intro n m wh p short w hn h1 hmn hbig hb hpr hcl hcv hcu
    by_cases hlt : m < n
    · have h2 : 2 ≤ n := by omega
      have hbase : ∀ w', Chg [Db, Pb] w w' → Below w0.heap.size w0 w' := fun w' hc => hb.trans (hc.below (fun k hk => by
        simp only [List.mem_cons, List.not_mem_nil, or_false] at hk
        rcases hk with rfl | rfl <;> assumption) hb.size)
      have k1 := hf_lt n h2
      have k2 := hf_pos n
      obtain ⟨x, hx⟩ : ∃ x, p.getLastD ByteArray.empty = x := ⟨_, rfl⟩
      have hxs : x.size ≤ 200 := by rw [← hx]; exact getLastD_size p hpr.all
      have HAD : Hid (allD p.dropLast = true) := Lib.hid (by rw [List.dropLast_eq_take]; exact allD_take hpr.all _)
      have HN := Lib.hid (next_any Db Pb p short w.drew (hpr.chg (Below.drew (Below.refl _ _))))
      rw [hx] at HN
      have hlast : bothv n m wh old p = if m ≤ hf n then ((bothv (hf n) m wh old p.dropLast).1, nd (bothv (hf n) m wh old p.dropLast).2 x) else (nd x (bothv (n - hf n) (m - hf n) false old p.dropLast).1, nd x (bothv (n - hf n) (m - hf n) false old p.dropLast).2) := by
        split
        · next h => rw [bothv_le n m wh old p hlt h2 h, hx]
        · next h => rw [bothv_gt n m wh old p hlt h2 h, hx]
      have hpl : llen n m wh = 1 + if m ≤ hf n then llen (hf n) m wh else llen (n - hf n) (m - hf n) false := by
        split
        · next h => rw [llen_le n m wh hlt h2 h]
        · next h => rw [llen_gt n m wh hlt h2 h]
      rw [hlast, hpl]
      clear hlast hpl hx
      obtain ⟨k, hk⟩ : ∃ k, hf n = k := ⟨_, rfl⟩
      rw [hk] at k1 k2 ⊢
      have HH := Lib.hid (fun W => (half_any n hbig W).mono fun _ _ ⟨he, hw⟩ => (⟨he, hw.symm⟩ : _ ∧ _ = W))
      rw [hk] at HH
      have HIH := Lib.hid ih
      have HC : Hid (∀ w', Chg [Db, Pb] w w' → Below w0.heap.size w0 w' ∧ w'.cell? ⟨Ob, 0, none⟩ = some (.string old) ∧ w'.cell? ⟨Vb, 0, none⟩ = some (.pointer (some ⟨Pb, 0, none⟩)) ∧ w'.cell? ⟨Ub, 0, none⟩ = some (.func (.func 40) #[] #[.pointer (some ⟨Ob, 0, none⟩), .pointer (some ⟨Vb, 0, none⟩), .pointer (some ⟨Ub, 0, none⟩)])) :=
        Lib.hid (fun w' hc => ⟨hbase w' hc, hc.cell hL hcl, hc.cell hV hcv, hc.cell hU hcu⟩)
      have HND := Lib.hid (fun (a b : ByteArray) (ha : a.size ≤ 200) (hb : b.size ≤ 200) (W : World) (hW : Below w0.heap.size w0 W) => node_any a b ha hb W (hT.below hW))
      have hl := lt_of_cell hcv
      clear hpr hbase hb ih hcl hk
      have hn1 : ((m : Int) == (n : Int)) = false := by simp; omega
      by_cases hik : m ≤ k
      · rw [if_pos hik, if_pos hik]
        go_enter Tryz.func40, Tryz.ntmps40
        go_wp2_with fail
        refine wp_region_still_tail 3 (by kernel_rfl) (by kernel_rfl) ?_
        simp only [List.take_succ_cons, List.take_zero, List.drop_succ_cons, List.drop_zero]
        change wpStill _ _ (World.drew _) _ _ _
        still_step
        still_call (HH.out _)
        still_step
        refine wpStill_nil ?_
        change wpList _ _ _ _ _ (World.drew _)
        go_wp2_with fail
        refine HN.out.mono ?_
        rintro e w1 ⟨rfl, hc1, hp1⟩
        have hc1' : Chg [Db, Pb] w w1 := (Chg.refl [Db, Pb] w).drew.trans hc1 (fun j hj => .inl hj)
        obtain ⟨b1, cl1, cv1, cu1⟩ := HC.out w1 hc1'
        have HI1 := Lib.hid (HIH.out k m wh p.dropLast (short || p.isEmpty) w1 (by omega) h1 hik (by omega) b1 hp1 cl1 cv1 cu1)
        have HC1 := Lib.hid hc1'
        have hu1 := lt_of_cell cu1
        clear hc1 hp1 hc1' b1 cl1 cv1
        obtain ⟨u, hu⟩ : ∃ u, bothv k m wh old p.dropLast = u := ⟨_, rfl⟩
        have hus := bothv_size k m wh old p.dropLast HAD.out hs
        rw [hu] at HI1 hus
        have HU := Lib.hid hu
        obtain ⟨hus1, hus2⟩ := hus
        clear hu
        go_wp2_with fail
        refine HI1.out.mono ?_
        rintro e w2 ⟨rfl, hc2, hp2⟩
        have HC2 := Lib.hid (HC1.out.trans hc2 (fun j hj => .inl hj))
        have HP2 := Lib.hid hp2
        clear hc2 hp2
        have HN2 := Lib.hid (HND.out u.2 x hus2 hxs w2 (HC.out w2 HC2.out).1)
        go_wp2_with fail
        refine HN2.out.mono ?_
        rintro e w3 ⟨rfl, hb3⟩
        have HB3 := Lib.hid hb3
        clear hb3
        go_wp2
        go_ret2
        refine ⟨by rw [HU.out]; rfl, HC2.out.trans (Chg.of_below HB3.out []) (by simp), ?_⟩
        have := HP2.out.chg HB3.out
        rw [rem_succ, sh_succ] at this
        exact this
      · rw [if_neg hik, if_neg hik]
        have hni : ¬ (m : Int) ≤ (k : Int) := by omega
        have e1 : (n : Int) - (k : Int) = ((n - k : Nat) : Int) := by omega
        have e2 : (m : Int) - (k : Int) = ((m - k : Nat) : Int) := by omega
        have HE1 := Lib.hid e1
        have HE2 := Lib.hid e2
        clear e1 e2
        go_enter Tryz.func40, Tryz.ntmps40
        go_wp2_with fail
        refine wp_region_still_tail 3 (by kernel_rfl) (by kernel_rfl) ?_
        simp only [List.take_succ_cons, List.take_zero, List.drop_succ_cons, List.drop_zero]
        change wpStill _ _ (World.drew _) _ _ _
        still_step
        still_call (HH.out _)
        still_step
        refine wpStill_nil ?_
        change wpList _ _ _ _ _ (World.drew _)
        go_wp2_with fail
        refine HN.out.mono ?_
        rintro e w1 ⟨rfl, hc1, hp1⟩
        have hc1' : Chg [Db, Pb] w w1 := (Chg.refl [Db, Pb] w).drew.trans hc1 (fun j hj => .inl hj)
        obtain ⟨b1, cl1, cv1, cu1⟩ := HC.out w1 hc1'
        have HI1 := Lib.hid (HIH.out (n - k) (m - k) false p.dropLast (short || p.isEmpty) w1 (by omega) (by omega) (by omega) (by omega) b1 hp1 cl1 cv1 cu1)
        have HC1 := Lib.hid hc1'
        have hu1 := lt_of_cell cu1
        clear hc1 hp1 hc1' b1 cl1 cv1
        obtain ⟨u, hu⟩ : ∃ u, bothv (n - k) (m - k) false old p.dropLast = u := ⟨_, rfl⟩
        have hus := bothv_size (n - k) (m - k) false old p.dropLast HAD.out hs
        rw [hu] at HI1 hus
        have HU := Lib.hid hu
        obtain ⟨hus1, hus2⟩ := hus
        clear hu
        go_wp2_with fail
        rw [HE1.out, HE2.out]
        refine HI1.out.mono ?_
        rintro e w2 ⟨rfl, hc2, hp2⟩
        have HC2 := Lib.hid (HC1.out.trans hc2 (fun j hj => .inl hj))
        have HP2 := Lib.hid hp2
        clear hc2 hp2
        have HN2 := Lib.hid (HND.out x u.1 hxs hus1 w2 (HC.out w2 HC2.out).1)
        go_wp2_with fail
        refine HN2.out.mono ?_
        rintro e w3 ⟨rfl, hb3⟩
        have HB3 := Lib.hid hb3
        have HN3 := Lib.hid (HND.out x u.2 hxs hus2 w3 (HC.out w3 (HC2.out.trans (Chg.of_below hb3 []) (by simp))).1)
        clear hb3
        go_wp2_with fail
        refine HN3.out.mono ?_
        rintro e w4 ⟨rfl, hb4⟩
        have HB4 := Lib.hid (below_trans HB3.out hb4)
        clear hb4
        go_wp2
        go_ret2
        refine ⟨by rw [HU.out]; rfl, HC2.out.trans (Chg.of_below HB4.out []) (by simp), ?_⟩
        have := HP2.out.chg HB4.out
        rw [rem_succ, sh_succ] at this
        exact this
    · obtain rfl : m = n := by omega
      have hl0 := lt_of_cell hcl
      have hl1 := lt_of_cell hcv
      have hmm : ((m : Int) == (m : Int)) = true := by simp
      cases wh with
      | true =>
        rw [bothv_end m m true old p hlt, llen_end m m true hlt, if_pos rfl, if_pos rfl]
        have HP := Lib.hid hpr.zero
        clear hpr ih
        go_enter Tryz.func40, Tryz.ntmps40
        go_wp2_with fail
        refine wp_region_still_lit (by kernel_rfl) (by kernel_rfl) ?_
        repeat still_step
        refine wpStill_nil ?_
        change Exit.then _ _ Exit.normal _ (World.drew w)
        go_wp2
        go_ret2
        exact ⟨rfl, (Chg.refl _ w).drew, HP.out.chg (Below.drew (Below.refl _ _))⟩
      | false =>
        rw [bothv_end m m false old p hlt, llen_end m m false hlt, if_neg (by simp), if_neg (by simp)]
        have HN := Lib.hid (next_any Db Pb p short w hpr)
        have he := sh_succ p short 0
        have he2 := rem_succ p 0
        have HE := Lib.hid he
        have HE2 := Lib.hid he2
        clear hpr ih he he2
        obtain ⟨x, hx⟩ : ∃ x, p.getLastD ByteArray.empty = x := ⟨_, rfl⟩
        rw [hx] at HN ⊢
        clear hx
        go_enter Tryz.func40, Tryz.ntmps40
        go_wp2_with fail
        refine HN.out.mono ?_
        rintro e w1 ⟨rfl, hc1, hp1⟩
        have HC1 := Lib.hid hc1
        have HP1 := Lib.hid hp1.zero
        rw [HE.out, HE2.out] at HP1
        clear hc1 hp1
        go_wp2
        go_ret2
        exact ⟨rfl, HC1.out, HP1.out⟩

end Go.Proofs.YtfmlhlliephlhaaGreatDoor
