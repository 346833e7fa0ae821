/- The law DigestBlock: the walk. -/
import Derived.Test.YtfgdcajhnbhhkaaDoorPureD01
import Derived.Test.YtfgdcajhnbhhkaaDoorLaid01
import Derived.Test.YtfgdcajhnbhhkaaDoorOpen
import Derived.Deep.RegionWith
namespace Go.Proofs.YtfgdcajhnbhhkaaDoor
open Go.RowKit

set_option maxRecDepth 100000 in
set_option maxHeartbeats 32000000 in
theorem block_walk (t : ByteArray) (x : UInt8) (a b : ByteArray) (w : World) (hT : Tabs w) (ht : t.size ≤ maxLen) (ha : a.size ≤ maxLen) (hb : b.size ≤ maxLen) :
    Calls Tryd.prog 7 #[.string t, .int .u8 x.toNat, .string a, .string b] w fun e w' => e = .returned (.bool true) ∧ Below w.heap.size w w' := by
  unfold maxLen at ht ha hb
  have HS : Hid (∀ (t : ByteArray) (w' : World), t.size ≤ 1000000000 → Below w.heap.size w w' → Calls Tryd.prog 12 #[.string t] w' fun e w'' => e = .returned (.string (dg t)) ∧ Below w.heap.size w w'') := Lib.hid (fun t w' ht hb => (sum_any t ht w' (hT.below hb).t64).mono fun _ _ ⟨he, h2⟩ => ⟨he, below_trans hb h2⟩)
  have HH := Lib.hid (head_any w hT)
  clear hT
  have hx := x.toNat_lt
  obtain ⟨m, hm⟩ : ∃ m, x.toNat = m := ⟨_, rfl⟩
  rw [hm] at hx ⊢
  clear hm
  obtain ⟨at_, hat⟩ : ∃ k, 8 * m = k := ⟨_, rfl⟩
  have m2 : 8 * (m : Int) = (at_ : Int) := by omega
  have HAT := Lib.hid hat
  have hat2 : at_ ≤ 2048 := by omega
  clear hat
  have hpart : (a.size ≤ b.size ∧ a.size ≤ 8) ∨ (b.size < a.size ∧ b.size ≤ 8) ∨ (8 < a.size ∧ 8 < b.size) := by omega
  rcases hpart with ⟨g1, g2⟩ | ⟨g1, g2⟩ | ⟨g1, g2⟩
  · have hx1 : True := trivial
    obtain ⟨y1, hy1⟩ : ∃ y1, b.extract 0 (a.size) = y1 := ⟨_, rfl⟩
    have hxz : a.size = a.size := rfl
    have hyz : y1.size = a.size := by rw [← hy1, ByteArray.size_extract]; omega
    by_cases h1 : t.size ≤ 2000
    · by_cases h2 : at_ ≤ t.size
      · obtain ⟨q, hq⟩ : ∃ q, min (at_ + a.size) t.size = q := ⟨_, rfl⟩
        have m3 : min ((at_ : Int) + ((a.size : Nat) : Int)) (t.size : Int) = (q : Int) := by omega
        have hq1 : q ≤ t.size := by omega
        obtain ⟨r, hr⟩ : ∃ r, t.extract q t.size = r := ⟨_, rfl⟩
        obtain ⟨p, hp⟩ : ∃ p, t.extract 0 at_ = p := ⟨_, rfl⟩
        have hpz : p.size = at_ := by rw [← hp, ByteArray.size_extract]; omega
        have hrz : r.size ≤ 2000 := by rw [← hr, ByteArray.size_extract]; omega
        have HE := Lib.hid (block_ba p a y1 r m (by rw [hpz, ← HAT.out]) (by omega) (by omega))
        have HZ : Hid (∀ c : ByteArray, c.size ≤ 8 → (t.extract 0 at_ ++ c ++ r).size ≤ 1000000000) := Lib.hid (fun c hc => by rw [ByteArray.size_append, ByteArray.size_append, hp, hpz]; omega)
        have hxz1 : a.size ≤ 8 := by omega
        have hyz1 : y1.size ≤ 8 := by omega
        have ht12 : ((dg (p ++ a ++ r)).toList == (dg (p ++ y1 ++ r)).toList) = (a.toList == y1.toList) := by
          by_cases h : a = y1
          · rw [h]; simp
          · rw [(bne_of _ _ h).1, (bne_of _ _ (fun e => h (HE.out.1 e))).1]
        obtain ⟨v1, hv1⟩ : ∃ v, (a.toList == y1.toList) = v := ⟨_, rfl⟩
        rw [hv1] at ht12
        have HY := Lib.hid hy1
        have HR := Lib.hid hr
        have HP := Lib.hid hp
        have hs1 : (0 : Int) ≤ (at_ : Int) := by omega
        have hs2 : (at_ : Int) ≤ (t.size : Int) := by omega
        have hs3 : t.size ≤ 2000 := h1
        clear hx1 hy1 hr hq hxz hyz hpz hp
        go_enter Tryd.func7, Tryd.ntmps7
        go_wp2_with fail
        refine HH.out.mono ?_
        rintro e w1 ⟨rfl, hb1⟩
        have HB1 := Lib.hid hb1
        clear hb1
        go_wp2_with fail
        rw [HY.out, HR.out]
        have hpz : p.size ≤ 2048 := by rw [← HP.out, ByteArray.size_extract]; omega
        have hp := HP.out
        have z1 : (p ++ a ++ r).size ≤ 1000000000 := by rw [ByteArray.size_append, ByteArray.size_append]; omega
        have z2 : (p ++ y1 ++ r).size ≤ 1000000000 := by rw [ByteArray.size_append, ByteArray.size_append]; omega
        have k1 : ∀ w, (Op.stringOp .add p a).run Tryd.prog w = .ok (.string (p ++ a)) w := fun w => run_string_add_sum w p a (by omega)
        have k2 : ∀ w, (Op.stringOp .add p y1).run Tryd.prog w = .ok (.string (p ++ y1)) w := fun w => run_string_add_sum w p y1 (by omega)
        have k3 : ∀ w, (Op.stringOp .add (p ++ a) r).run Tryd.prog w = .ok (.string (p ++ a ++ r)) w := fun w => run_string_add_sum w _ r (by rw [ByteArray.size_append]; omega)
        have k4 : ∀ w, (Op.stringOp .add (p ++ y1) r).run Tryd.prog w = .ok (.string (p ++ y1 ++ r)) w := fun w => run_string_add_sum w _ r (by rw [ByteArray.size_append]; omega)
        clear ht ha hb g1 hat2 HE HZ HAT hx m2 m3 h1 hq1 HH HY HR HP hs3
        generalize e1 : p ++ a = pa at *
        generalize e2 : p ++ y1 = pb at *
        generalize e3 : pa ++ r = par at *
        generalize e4 : pb ++ r = pbr at *
        clear e1 e2 e3 e4
        refine wp_region_any (by kernel_rfl) ?_
        try (change wpAny _ _ _ _ _ _ _ (World.drew _))
        refine wpAny_take (i := 0) (v := ?_) rfl (by kernel_rfl) (by kernel_rfl) (by kernel_rfl) (fun _ _ _ h => h) (Or.inl ⟨by kernel_rfl, ?hy⟩) ?rest
        case hy => (intro w; go_simp; try with_reducible rfl)
        case rest =>
        refine wpAny_take (i := 1) (v := ?_) rfl (by kernel_rfl) (by kernel_rfl) (by kernel_rfl) (fun _ _ _ h => h) (Or.inl ⟨by kernel_rfl, ?hy⟩) ?rest
        case hy => (intro w; go_simp; try with_reducible rfl)
        case rest =>
        refine wpAny_take (i := 2) (v := ?_) rfl (by kernel_rfl) (by kernel_rfl) (by kernel_rfl) (fun _ _ _ h => h) (Or.inl ⟨by kernel_rfl, ?hy⟩) ?rest
        case hy => (intro w; go_simp; try with_reducible rfl)
        case rest =>
        refine wpAny_take (i := 3) (v := ?_) rfl (by kernel_rfl) (by kernel_rfl) (by kernel_rfl) (fun _ _ _ h => h) (Or.inl ⟨by kernel_rfl, ?hy⟩) ?rest
        case hy => (intro w; go_simp; try with_reducible rfl)
        case rest =>
        refine wpAny_take (i := 4) (v := ?_) rfl (by kernel_rfl) (by kernel_rfl) (by kernel_rfl) (fun _ _ _ h => h) (Or.inl ⟨by kernel_rfl, ?hy⟩) ?rest
        case hy => (intro w; go_simp; try with_reducible rfl)
        case rest =>
        refine wpAny_take (i := 5) (v := ?_) rfl (by kernel_rfl) (by kernel_rfl) (by kernel_rfl) (fun _ _ _ h => h) (Or.inl ⟨by kernel_rfl, ?hy⟩) ?rest
        case hy => (intro w; go_simp; try with_reducible rfl)
        case rest =>
        refine wpAny_take (i := 6) (v := ?_) rfl (by kernel_rfl) (by kernel_rfl) (by kernel_rfl) (fun _ _ _ h => h) (Or.inl ⟨by kernel_rfl, ?hy⟩) ?rest
        case hy => (intro w; go_simp; try with_reducible rfl)
        case rest =>
        refine wpAny_take (i := 7) (v := ?_) rfl (by kernel_rfl) (by kernel_rfl) (by kernel_rfl) (fun _ _ _ h => h) (Or.inl ⟨by kernel_rfl, ?hy⟩) ?rest
        case hy => (intro w; go_simp; try with_reducible rfl)
        case rest =>
        refine wpAny_take (i := 8) (v := ?_) rfl (by kernel_rfl) (by kernel_rfl) (by kernel_rfl) (fun _ _ _ h => h) (Or.inl ⟨by kernel_rfl, ?hy⟩) ?rest
        case hy => (intro w; go_simp; try with_reducible rfl)
        case rest =>
        refine wpAny_take (i := 10) (v := ?_) rfl (by kernel_rfl) (by kernel_rfl) (by kernel_rfl) (fun _ _ _ h => h) (Or.inl ⟨by kernel_rfl, ?hy⟩) ?rest
        case hy => (intro w; go_simp; try with_reducible rfl)
        case rest =>
        refine wpAny_take (i := 11) (v := ?_) rfl (by kernel_rfl) (by kernel_rfl) (by kernel_rfl) (fun _ _ _ h => h) (Or.inl ⟨by kernel_rfl, ?hy⟩) ?rest
        case hy => (intro w; go_simp; try with_reducible rfl)
        case rest =>
        refine wpAny_take (i := 12) (v := ?_) rfl (by kernel_rfl) (by kernel_rfl) (by kernel_rfl) (fun _ _ _ h => h) (Or.inl ⟨by kernel_rfl, ?hy⟩) ?rest
        case hy => (intro w; go_simp; try with_reducible rfl)
        case rest =>
        refine wpAny_take (i := 13) (v := ?_) rfl (by kernel_rfl) (by kernel_rfl) (by kernel_rfl) (fun _ _ _ h => h) (Or.inl ⟨by kernel_rfl, ?hy⟩) ?rest
        case hy => (intro w; go_simp; try with_reducible rfl)
        case rest =>
        refine wpAny_take (i := 14) (v := ?_) rfl (by kernel_rfl) (by kernel_rfl) (by kernel_rfl) (fun _ _ _ h => h) (Or.inl ⟨by kernel_rfl, ?hy⟩) ?rest
        case hy => (intro w; go_simp; try with_reducible rfl)
        case rest =>
        refine wpAny_take (i := 15) (v := ?_) rfl (by kernel_rfl) (by kernel_rfl) (by kernel_rfl) (fun _ _ _ h => h) (Or.inl ⟨by kernel_rfl, ?hy⟩) ?rest
        case hy => (intro w; go_simp; try with_reducible rfl)
        case rest =>
        refine wpAny_take (i := 16) (v := ?_) rfl (by kernel_rfl) (by kernel_rfl) (by kernel_rfl) (fun _ _ _ h => h) (Or.inl ⟨by kernel_rfl, ?hy⟩) ?rest
        case hy => (intro w; go_simp; try with_reducible rfl)
        case rest =>
        refine wpAny_take (i := 19) (v := ?_) rfl (by kernel_rfl) (by kernel_rfl) (by kernel_rfl) (fun _ _ _ h => h) (Or.inl ⟨by kernel_rfl, ?hy⟩) ?rest
        case hy => (intro w; go_simp; try with_reducible rfl)
        case rest =>
        refine wpAny_take (i := 20) (v := ?_) rfl (by kernel_rfl) (by kernel_rfl) (by kernel_rfl) (fun _ _ _ h => h) (Or.inl ⟨by kernel_rfl, ?hy⟩) ?rest
        case hy => (intro w; go_simp; try with_reducible rfl)
        case rest =>
        refine wpAny_take (i := 21) (v := ?_) rfl (by kernel_rfl) (by kernel_rfl) (by kernel_rfl) (fun _ _ _ h => h) (Or.inl ⟨by kernel_rfl, ?hy⟩) ?rest
        case hy => (intro w; go_simp; try with_reducible rfl)
        case rest =>
        refine wpAny_ready (rs := [9]) (by kernel_rfl) (by simp) ?_
        refine AllReady.cons rfl (fun K hK => ?_) AllReady.nil
        · go_simp
          go_wp2_with (go_at_call 12; refine (HS.out _ _ (by assumption) (by first | assumption | exact HB1.out.drew)).mono ?_; rintro e wq ⟨rfl, hbq⟩)
          refine wpAny_ready (rs := [17]) (by kernel_rfl) (by simp) ?_
          refine AllReady.cons rfl (fun K hK => ?_) AllReady.nil
          go_simp
          go_wp2_with (go_at_call 12; refine (HS.out _ _ (by assumption) (by first | assumption | exact HB1.out.drew)).mono ?_; rintro e wq ⟨rfl, hbq⟩)
          refine wpAny_take (i := 18) (v := ?_) rfl (by kernel_rfl) (by kernel_rfl) (by kernel_rfl) (fun _ _ _ h => h) (Or.inl ⟨by kernel_rfl, ?hy⟩) ?rest
          case hy => (intro w; go_simp; try with_reducible rfl)
          case rest =>
          refine wpAny_take (i := 22) (v := ?_) rfl (by kernel_rfl) (by kernel_rfl) (by kernel_rfl) (fun _ _ _ h => h) (Or.inl ⟨by kernel_rfl, ?hy⟩) ?rest
          case hy => (intro w; go_simp; try with_reducible rfl)
          case rest =>
          refine wpAny_take (i := 23) (v := ?_) rfl (by kernel_rfl) (by kernel_rfl) (by kernel_rfl) (fun _ _ _ h => h) (Or.inl ⟨by kernel_rfl, ?hy⟩) ?rest
          case hy => (intro w; go_simp; try with_reducible rfl)
          case rest =>
          refine wpAny_take (i := 24) (v := ?_) rfl (by kernel_rfl) (by kernel_rfl) (by kernel_rfl) (fun _ _ _ h => h) (Or.inl ⟨by kernel_rfl, ?hy⟩) ?rest
          case hy => (intro w; go_simp; try with_reducible rfl)
          case rest =>
          refine wpAny_done (by kernel_rfl) ?_ _
          go_wp2
          go_ret
          exact ⟨rfl, by assumption⟩
      · go_enter Tryd.func7, Tryd.ntmps7
        go_wp2_with fail
        refine HH.out.mono ?_
        rintro e w1 ⟨rfl, hb1⟩
        have HB1 := Lib.hid hb1
        clear hb1
        go_wp2
        go_ret
        exact ⟨rfl, HB1.out⟩
    · go_enter Tryd.func7, Tryd.ntmps7
      go_wp2_with fail
      refine HH.out.mono ?_
      rintro e w1 ⟨rfl, hb1⟩
      have HB1 := Lib.hid hb1
      clear hb1
      go_wp2
      go_ret
      exact ⟨rfl, HB1.out⟩
  · obtain ⟨x1, hx1⟩ : ∃ x1, a.extract 0 (b.size) = x1 := ⟨_, rfl⟩
    have hy1 : True := trivial
    have hxz : x1.size = b.size := by rw [← hx1, ByteArray.size_extract]; omega
    have hyz : b.size = b.size := rfl
    by_cases h1 : t.size ≤ 2000
    · by_cases h2 : at_ ≤ t.size
      · obtain ⟨q, hq⟩ : ∃ q, min (at_ + b.size) t.size = q := ⟨_, rfl⟩
        have m3 : min ((at_ : Int) + ((b.size : Nat) : Int)) (t.size : Int) = (q : Int) := by omega
        have hq1 : q ≤ t.size := by omega
        obtain ⟨r, hr⟩ : ∃ r, t.extract q t.size = r := ⟨_, rfl⟩
        obtain ⟨p, hp⟩ : ∃ p, t.extract 0 at_ = p := ⟨_, rfl⟩
        have hpz : p.size = at_ := by rw [← hp, ByteArray.size_extract]; omega
        have hrz : r.size ≤ 2000 := by rw [← hr, ByteArray.size_extract]; omega
        have HE := Lib.hid (block_ba p x1 b r m (by rw [hpz, ← HAT.out]) (by omega) (by omega))
        have HZ : Hid (∀ c : ByteArray, c.size ≤ 8 → (t.extract 0 at_ ++ c ++ r).size ≤ 1000000000) := Lib.hid (fun c hc => by rw [ByteArray.size_append, ByteArray.size_append, hp, hpz]; omega)
        have hxz1 : x1.size ≤ 8 := by omega
        have hyz1 : b.size ≤ 8 := by omega
        have ht12 : ((dg (p ++ x1 ++ r)).toList == (dg (p ++ b ++ r)).toList) = (x1.toList == b.toList) := by
          by_cases h : x1 = b
          · rw [h]; simp
          · rw [(bne_of _ _ h).1, (bne_of _ _ (fun e => h (HE.out.1 e))).1]
        obtain ⟨v1, hv1⟩ : ∃ v, (x1.toList == b.toList) = v := ⟨_, rfl⟩
        rw [hv1] at ht12
        have HX := Lib.hid hx1
        have HR := Lib.hid hr
        have HP := Lib.hid hp
        have hs1 : (0 : Int) ≤ (at_ : Int) := by omega
        have hs2 : (at_ : Int) ≤ (t.size : Int) := by omega
        have hs3 : t.size ≤ 2000 := h1
        clear hx1 hy1 hr hq hxz hyz hpz hp
        go_enter Tryd.func7, Tryd.ntmps7
        go_wp2_with fail
        refine HH.out.mono ?_
        rintro e w1 ⟨rfl, hb1⟩
        have HB1 := Lib.hid hb1
        clear hb1
        go_wp2_with fail
        rw [HX.out, HR.out]
        have hpz : p.size ≤ 2048 := by rw [← HP.out, ByteArray.size_extract]; omega
        have hp := HP.out
        have z1 : (p ++ x1 ++ r).size ≤ 1000000000 := by rw [ByteArray.size_append, ByteArray.size_append]; omega
        have z2 : (p ++ b ++ r).size ≤ 1000000000 := by rw [ByteArray.size_append, ByteArray.size_append]; omega
        have k1 : ∀ w, (Op.stringOp .add p x1).run Tryd.prog w = .ok (.string (p ++ x1)) w := fun w => run_string_add_sum w p x1 (by omega)
        have k2 : ∀ w, (Op.stringOp .add p b).run Tryd.prog w = .ok (.string (p ++ b)) w := fun w => run_string_add_sum w p b (by omega)
        have k3 : ∀ w, (Op.stringOp .add (p ++ x1) r).run Tryd.prog w = .ok (.string (p ++ x1 ++ r)) w := fun w => run_string_add_sum w _ r (by rw [ByteArray.size_append]; omega)
        have k4 : ∀ w, (Op.stringOp .add (p ++ b) r).run Tryd.prog w = .ok (.string (p ++ b ++ r)) w := fun w => run_string_add_sum w _ r (by rw [ByteArray.size_append]; omega)
        clear ht ha hb g1 hat2 HE HZ HAT hx m2 m3 h1 hq1 HH HX HR HP hs3
        generalize e1 : p ++ x1 = pa at *
        generalize e2 : p ++ b = pb at *
        generalize e3 : pa ++ r = par at *
        generalize e4 : pb ++ r = pbr at *
        clear e1 e2 e3 e4
        refine wp_region_any (by kernel_rfl) ?_
        try (change wpAny _ _ _ _ _ _ _ (World.drew _))
        refine wpAny_take (i := 0) (v := ?_) rfl (by kernel_rfl) (by kernel_rfl) (by kernel_rfl) (fun _ _ _ h => h) (Or.inl ⟨by kernel_rfl, ?hy⟩) ?rest
        case hy => (intro w; go_simp; try with_reducible rfl)
        case rest =>
        refine wpAny_take (i := 1) (v := ?_) rfl (by kernel_rfl) (by kernel_rfl) (by kernel_rfl) (fun _ _ _ h => h) (Or.inl ⟨by kernel_rfl, ?hy⟩) ?rest
        case hy => (intro w; go_simp; try with_reducible rfl)
        case rest =>
        refine wpAny_take (i := 2) (v := ?_) rfl (by kernel_rfl) (by kernel_rfl) (by kernel_rfl) (fun _ _ _ h => h) (Or.inl ⟨by kernel_rfl, ?hy⟩) ?rest
        case hy => (intro w; go_simp; try with_reducible rfl)
        case rest =>
        refine wpAny_take (i := 3) (v := ?_) rfl (by kernel_rfl) (by kernel_rfl) (by kernel_rfl) (fun _ _ _ h => h) (Or.inl ⟨by kernel_rfl, ?hy⟩) ?rest
        case hy => (intro w; go_simp; try with_reducible rfl)
        case rest =>
        refine wpAny_take (i := 4) (v := ?_) rfl (by kernel_rfl) (by kernel_rfl) (by kernel_rfl) (fun _ _ _ h => h) (Or.inl ⟨by kernel_rfl, ?hy⟩) ?rest
        case hy => (intro w; go_simp; try with_reducible rfl)
        case rest =>
        refine wpAny_take (i := 5) (v := ?_) rfl (by kernel_rfl) (by kernel_rfl) (by kernel_rfl) (fun _ _ _ h => h) (Or.inl ⟨by kernel_rfl, ?hy⟩) ?rest
        case hy => (intro w; go_simp; try with_reducible rfl)
        case rest =>
        refine wpAny_take (i := 6) (v := ?_) rfl (by kernel_rfl) (by kernel_rfl) (by kernel_rfl) (fun _ _ _ h => h) (Or.inl ⟨by kernel_rfl, ?hy⟩) ?rest
        case hy => (intro w; go_simp; try with_reducible rfl)
        case rest =>
        refine wpAny_take (i := 7) (v := ?_) rfl (by kernel_rfl) (by kernel_rfl) (by kernel_rfl) (fun _ _ _ h => h) (Or.inl ⟨by kernel_rfl, ?hy⟩) ?rest
        case hy => (intro w; go_simp; try with_reducible rfl)
        case rest =>
        refine wpAny_take (i := 8) (v := ?_) rfl (by kernel_rfl) (by kernel_rfl) (by kernel_rfl) (fun _ _ _ h => h) (Or.inl ⟨by kernel_rfl, ?hy⟩) ?rest
        case hy => (intro w; go_simp; try with_reducible rfl)
        case rest =>
        refine wpAny_take (i := 10) (v := ?_) rfl (by kernel_rfl) (by kernel_rfl) (by kernel_rfl) (fun _ _ _ h => h) (Or.inl ⟨by kernel_rfl, ?hy⟩) ?rest
        case hy => (intro w; go_simp; try with_reducible rfl)
        case rest =>
        refine wpAny_take (i := 11) (v := ?_) rfl (by kernel_rfl) (by kernel_rfl) (by kernel_rfl) (fun _ _ _ h => h) (Or.inl ⟨by kernel_rfl, ?hy⟩) ?rest
        case hy => (intro w; go_simp; try with_reducible rfl)
        case rest =>
        refine wpAny_take (i := 12) (v := ?_) rfl (by kernel_rfl) (by kernel_rfl) (by kernel_rfl) (fun _ _ _ h => h) (Or.inl ⟨by kernel_rfl, ?hy⟩) ?rest
        case hy => (intro w; go_simp; try with_reducible rfl)
        case rest =>
        refine wpAny_take (i := 13) (v := ?_) rfl (by kernel_rfl) (by kernel_rfl) (by kernel_rfl) (fun _ _ _ h => h) (Or.inl ⟨by kernel_rfl, ?hy⟩) ?rest
        case hy => (intro w; go_simp; try with_reducible rfl)
        case rest =>
        refine wpAny_take (i := 14) (v := ?_) rfl (by kernel_rfl) (by kernel_rfl) (by kernel_rfl) (fun _ _ _ h => h) (Or.inl ⟨by kernel_rfl, ?hy⟩) ?rest
        case hy => (intro w; go_simp; try with_reducible rfl)
        case rest =>
        refine wpAny_take (i := 15) (v := ?_) rfl (by kernel_rfl) (by kernel_rfl) (by kernel_rfl) (fun _ _ _ h => h) (Or.inl ⟨by kernel_rfl, ?hy⟩) ?rest
        case hy => (intro w; go_simp; try with_reducible rfl)
        case rest =>
        refine wpAny_take (i := 16) (v := ?_) rfl (by kernel_rfl) (by kernel_rfl) (by kernel_rfl) (fun _ _ _ h => h) (Or.inl ⟨by kernel_rfl, ?hy⟩) ?rest
        case hy => (intro w; go_simp; try with_reducible rfl)
        case rest =>
        refine wpAny_take (i := 19) (v := ?_) rfl (by kernel_rfl) (by kernel_rfl) (by kernel_rfl) (fun _ _ _ h => h) (Or.inl ⟨by kernel_rfl, ?hy⟩) ?rest
        case hy => (intro w; go_simp; try with_reducible rfl)
        case rest =>
        refine wpAny_take (i := 20) (v := ?_) rfl (by kernel_rfl) (by kernel_rfl) (by kernel_rfl) (fun _ _ _ h => h) (Or.inl ⟨by kernel_rfl, ?hy⟩) ?rest
        case hy => (intro w; go_simp; try with_reducible rfl)
        case rest =>
        refine wpAny_take (i := 21) (v := ?_) rfl (by kernel_rfl) (by kernel_rfl) (by kernel_rfl) (fun _ _ _ h => h) (Or.inl ⟨by kernel_rfl, ?hy⟩) ?rest
        case hy => (intro w; go_simp; try with_reducible rfl)
        case rest =>
        refine wpAny_ready (rs := [9]) (by kernel_rfl) (by simp) ?_
        refine AllReady.cons rfl (fun K hK => ?_) AllReady.nil
        · go_simp
          go_wp2_with (go_at_call 12; refine (HS.out _ _ (by assumption) (by first | assumption | exact HB1.out.drew)).mono ?_; rintro e wq ⟨rfl, hbq⟩)
          refine wpAny_ready (rs := [17]) (by kernel_rfl) (by simp) ?_
          refine AllReady.cons rfl (fun K hK => ?_) AllReady.nil
          go_simp
          go_wp2_with (go_at_call 12; refine (HS.out _ _ (by assumption) (by first | assumption | exact HB1.out.drew)).mono ?_; rintro e wq ⟨rfl, hbq⟩)
          refine wpAny_take (i := 18) (v := ?_) rfl (by kernel_rfl) (by kernel_rfl) (by kernel_rfl) (fun _ _ _ h => h) (Or.inl ⟨by kernel_rfl, ?hy⟩) ?rest
          case hy => (intro w; go_simp; try with_reducible rfl)
          case rest =>
          refine wpAny_take (i := 22) (v := ?_) rfl (by kernel_rfl) (by kernel_rfl) (by kernel_rfl) (fun _ _ _ h => h) (Or.inl ⟨by kernel_rfl, ?hy⟩) ?rest
          case hy => (intro w; go_simp; try with_reducible rfl)
          case rest =>
          refine wpAny_take (i := 23) (v := ?_) rfl (by kernel_rfl) (by kernel_rfl) (by kernel_rfl) (fun _ _ _ h => h) (Or.inl ⟨by kernel_rfl, ?hy⟩) ?rest
          case hy => (intro w; go_simp; try with_reducible rfl)
          case rest =>
          refine wpAny_take (i := 24) (v := ?_) rfl (by kernel_rfl) (by kernel_rfl) (by kernel_rfl) (fun _ _ _ h => h) (Or.inl ⟨by kernel_rfl, ?hy⟩) ?rest
          case hy => (intro w; go_simp; try with_reducible rfl)
          case rest =>
          refine wpAny_done (by kernel_rfl) ?_ _
          go_wp2
          go_ret
          exact ⟨rfl, by assumption⟩
      · go_enter Tryd.func7, Tryd.ntmps7
        go_wp2_with fail
        refine HH.out.mono ?_
        rintro e w1 ⟨rfl, hb1⟩
        have HB1 := Lib.hid hb1
        clear hb1
        go_wp2
        go_ret
        exact ⟨rfl, HB1.out⟩
    · go_enter Tryd.func7, Tryd.ntmps7
      go_wp2_with fail
      refine HH.out.mono ?_
      rintro e w1 ⟨rfl, hb1⟩
      have HB1 := Lib.hid hb1
      clear hb1
      go_wp2
      go_ret
      exact ⟨rfl, HB1.out⟩
  · obtain ⟨x1, hx1⟩ : ∃ x1, a.extract 0 (8) = x1 := ⟨_, rfl⟩
    obtain ⟨y1, hy1⟩ : ∃ y1, b.extract 0 (8) = y1 := ⟨_, rfl⟩
    have hxz : x1.size = 8 := by rw [← hx1, ByteArray.size_extract]; omega
    have hyz : y1.size = 8 := by rw [← hy1, ByteArray.size_extract]; omega
    by_cases h1 : t.size ≤ 2000
    · by_cases h2 : at_ ≤ t.size
      · obtain ⟨q, hq⟩ : ∃ q, min (at_ + 8) t.size = q := ⟨_, rfl⟩
        have m3 : min ((at_ : Int) + (8 : Int)) (t.size : Int) = (q : Int) := by omega
        have hq1 : q ≤ t.size := by omega
        obtain ⟨r, hr⟩ : ∃ r, t.extract q t.size = r := ⟨_, rfl⟩
        obtain ⟨p, hp⟩ : ∃ p, t.extract 0 at_ = p := ⟨_, rfl⟩
        have hpz : p.size = at_ := by rw [← hp, ByteArray.size_extract]; omega
        have hrz : r.size ≤ 2000 := by rw [← hr, ByteArray.size_extract]; omega
        have HE := Lib.hid (block_ba p x1 y1 r m (by rw [hpz, ← HAT.out]) (by omega) (by omega))
        have HZ : Hid (∀ c : ByteArray, c.size ≤ 8 → (t.extract 0 at_ ++ c ++ r).size ≤ 1000000000) := Lib.hid (fun c hc => by rw [ByteArray.size_append, ByteArray.size_append, hp, hpz]; omega)
        have hxz1 : x1.size ≤ 8 := by omega
        have hyz1 : y1.size ≤ 8 := by omega
        have ht12 : ((dg (p ++ x1 ++ r)).toList == (dg (p ++ y1 ++ r)).toList) = (x1.toList == y1.toList) := by
          by_cases h : x1 = y1
          · rw [h]; simp
          · rw [(bne_of _ _ h).1, (bne_of _ _ (fun e => h (HE.out.1 e))).1]
        obtain ⟨v1, hv1⟩ : ∃ v, (x1.toList == y1.toList) = v := ⟨_, rfl⟩
        rw [hv1] at ht12
        have HX := Lib.hid hx1
        have HY := Lib.hid hy1
        have HR := Lib.hid hr
        have HP := Lib.hid hp
        have hs1 : (0 : Int) ≤ (at_ : Int) := by omega
        have hs2 : (at_ : Int) ≤ (t.size : Int) := by omega
        have hs3 : t.size ≤ 2000 := h1
        clear hx1 hy1 hr hq hxz hyz hpz hp
        go_enter Tryd.func7, Tryd.ntmps7
        go_wp2_with fail
        refine HH.out.mono ?_
        rintro e w1 ⟨rfl, hb1⟩
        have HB1 := Lib.hid hb1
        clear hb1
        go_wp2_with fail
        rw [HX.out, HY.out, HR.out]
        have hpz : p.size ≤ 2048 := by rw [← HP.out, ByteArray.size_extract]; omega
        have hp := HP.out
        have z1 : (p ++ x1 ++ r).size ≤ 1000000000 := by rw [ByteArray.size_append, ByteArray.size_append]; omega
        have z2 : (p ++ y1 ++ r).size ≤ 1000000000 := by rw [ByteArray.size_append, ByteArray.size_append]; omega
        have k1 : ∀ w, (Op.stringOp .add p x1).run Tryd.prog w = .ok (.string (p ++ x1)) w := fun w => run_string_add_sum w p x1 (by omega)
        have k2 : ∀ w, (Op.stringOp .add p y1).run Tryd.prog w = .ok (.string (p ++ y1)) w := fun w => run_string_add_sum w p y1 (by omega)
        have k3 : ∀ w, (Op.stringOp .add (p ++ x1) r).run Tryd.prog w = .ok (.string (p ++ x1 ++ r)) w := fun w => run_string_add_sum w _ r (by rw [ByteArray.size_append]; omega)
        have k4 : ∀ w, (Op.stringOp .add (p ++ y1) r).run Tryd.prog w = .ok (.string (p ++ y1 ++ r)) w := fun w => run_string_add_sum w _ r (by rw [ByteArray.size_append]; omega)
        clear ht ha hb g1 hat2 HE HZ HAT hx m2 m3 h1 hq1 HH HX HY HR HP hs3
        generalize e1 : p ++ x1 = pa at *
        generalize e2 : p ++ y1 = pb at *
        generalize e3 : pa ++ r = par at *
        generalize e4 : pb ++ r = pbr at *
        clear e1 e2 e3 e4
        refine wp_region_any (by kernel_rfl) ?_
        try (change wpAny _ _ _ _ _ _ _ (World.drew _))
        refine wpAny_take (i := 0) (v := ?_) rfl (by kernel_rfl) (by kernel_rfl) (by kernel_rfl) (fun _ _ _ h => h) (Or.inl ⟨by kernel_rfl, ?hy⟩) ?rest
        case hy => (intro w; go_simp; try with_reducible rfl)
        case rest =>
        refine wpAny_take (i := 1) (v := ?_) rfl (by kernel_rfl) (by kernel_rfl) (by kernel_rfl) (fun _ _ _ h => h) (Or.inl ⟨by kernel_rfl, ?hy⟩) ?rest
        case hy => (intro w; go_simp; try with_reducible rfl)
        case rest =>
        refine wpAny_take (i := 2) (v := ?_) rfl (by kernel_rfl) (by kernel_rfl) (by kernel_rfl) (fun _ _ _ h => h) (Or.inl ⟨by kernel_rfl, ?hy⟩) ?rest
        case hy => (intro w; go_simp; try with_reducible rfl)
        case rest =>
        refine wpAny_take (i := 3) (v := ?_) rfl (by kernel_rfl) (by kernel_rfl) (by kernel_rfl) (fun _ _ _ h => h) (Or.inl ⟨by kernel_rfl, ?hy⟩) ?rest
        case hy => (intro w; go_simp; try with_reducible rfl)
        case rest =>
        refine wpAny_take (i := 4) (v := ?_) rfl (by kernel_rfl) (by kernel_rfl) (by kernel_rfl) (fun _ _ _ h => h) (Or.inl ⟨by kernel_rfl, ?hy⟩) ?rest
        case hy => (intro w; go_simp; try with_reducible rfl)
        case rest =>
        refine wpAny_take (i := 5) (v := ?_) rfl (by kernel_rfl) (by kernel_rfl) (by kernel_rfl) (fun _ _ _ h => h) (Or.inl ⟨by kernel_rfl, ?hy⟩) ?rest
        case hy => (intro w; go_simp; try with_reducible rfl)
        case rest =>
        refine wpAny_take (i := 6) (v := ?_) rfl (by kernel_rfl) (by kernel_rfl) (by kernel_rfl) (fun _ _ _ h => h) (Or.inl ⟨by kernel_rfl, ?hy⟩) ?rest
        case hy => (intro w; go_simp; try with_reducible rfl)
        case rest =>
        refine wpAny_take (i := 7) (v := ?_) rfl (by kernel_rfl) (by kernel_rfl) (by kernel_rfl) (fun _ _ _ h => h) (Or.inl ⟨by kernel_rfl, ?hy⟩) ?rest
        case hy => (intro w; go_simp; try with_reducible rfl)
        case rest =>
        refine wpAny_take (i := 8) (v := ?_) rfl (by kernel_rfl) (by kernel_rfl) (by kernel_rfl) (fun _ _ _ h => h) (Or.inl ⟨by kernel_rfl, ?hy⟩) ?rest
        case hy => (intro w; go_simp; try with_reducible rfl)
        case rest =>
        refine wpAny_take (i := 10) (v := ?_) rfl (by kernel_rfl) (by kernel_rfl) (by kernel_rfl) (fun _ _ _ h => h) (Or.inl ⟨by kernel_rfl, ?hy⟩) ?rest
        case hy => (intro w; go_simp; try with_reducible rfl)
        case rest =>
        refine wpAny_take (i := 11) (v := ?_) rfl (by kernel_rfl) (by kernel_rfl) (by kernel_rfl) (fun _ _ _ h => h) (Or.inl ⟨by kernel_rfl, ?hy⟩) ?rest
        case hy => (intro w; go_simp; try with_reducible rfl)
        case rest =>
        refine wpAny_take (i := 12) (v := ?_) rfl (by kernel_rfl) (by kernel_rfl) (by kernel_rfl) (fun _ _ _ h => h) (Or.inl ⟨by kernel_rfl, ?hy⟩) ?rest
        case hy => (intro w; go_simp; try with_reducible rfl)
        case rest =>
        refine wpAny_take (i := 13) (v := ?_) rfl (by kernel_rfl) (by kernel_rfl) (by kernel_rfl) (fun _ _ _ h => h) (Or.inl ⟨by kernel_rfl, ?hy⟩) ?rest
        case hy => (intro w; go_simp; try with_reducible rfl)
        case rest =>
        refine wpAny_take (i := 14) (v := ?_) rfl (by kernel_rfl) (by kernel_rfl) (by kernel_rfl) (fun _ _ _ h => h) (Or.inl ⟨by kernel_rfl, ?hy⟩) ?rest
        case hy => (intro w; go_simp; try with_reducible rfl)
        case rest =>
        refine wpAny_take (i := 15) (v := ?_) rfl (by kernel_rfl) (by kernel_rfl) (by kernel_rfl) (fun _ _ _ h => h) (Or.inl ⟨by kernel_rfl, ?hy⟩) ?rest
        case hy => (intro w; go_simp; try with_reducible rfl)
        case rest =>
        refine wpAny_take (i := 16) (v := ?_) rfl (by kernel_rfl) (by kernel_rfl) (by kernel_rfl) (fun _ _ _ h => h) (Or.inl ⟨by kernel_rfl, ?hy⟩) ?rest
        case hy => (intro w; go_simp; try with_reducible rfl)
        case rest =>
        refine wpAny_take (i := 19) (v := ?_) rfl (by kernel_rfl) (by kernel_rfl) (by kernel_rfl) (fun _ _ _ h => h) (Or.inl ⟨by kernel_rfl, ?hy⟩) ?rest
        case hy => (intro w; go_simp; try with_reducible rfl)
        case rest =>
        refine wpAny_take (i := 20) (v := ?_) rfl (by kernel_rfl) (by kernel_rfl) (by kernel_rfl) (fun _ _ _ h => h) (Or.inl ⟨by kernel_rfl, ?hy⟩) ?rest
        case hy => (intro w; go_simp; try with_reducible rfl)
        case rest =>
        refine wpAny_take (i := 21) (v := ?_) rfl (by kernel_rfl) (by kernel_rfl) (by kernel_rfl) (fun _ _ _ h => h) (Or.inl ⟨by kernel_rfl, ?hy⟩) ?rest
        case hy => (intro w; go_simp; try with_reducible rfl)
        case rest =>
        refine wpAny_ready (rs := [9]) (by kernel_rfl) (by simp) ?_
        refine AllReady.cons rfl (fun K hK => ?_) AllReady.nil
        · go_simp
          go_wp2_with (go_at_call 12; refine (HS.out _ _ (by assumption) (by first | assumption | exact HB1.out.drew)).mono ?_; rintro e wq ⟨rfl, hbq⟩)
          refine wpAny_ready (rs := [17]) (by kernel_rfl) (by simp) ?_
          refine AllReady.cons rfl (fun K hK => ?_) AllReady.nil
          go_simp
          go_wp2_with (go_at_call 12; refine (HS.out _ _ (by assumption) (by first | assumption | exact HB1.out.drew)).mono ?_; rintro e wq ⟨rfl, hbq⟩)
          refine wpAny_take (i := 18) (v := ?_) rfl (by kernel_rfl) (by kernel_rfl) (by kernel_rfl) (fun _ _ _ h => h) (Or.inl ⟨by kernel_rfl, ?hy⟩) ?rest
          case hy => (intro w; go_simp; try with_reducible rfl)
          case rest =>
          refine wpAny_take (i := 22) (v := ?_) rfl (by kernel_rfl) (by kernel_rfl) (by kernel_rfl) (fun _ _ _ h => h) (Or.inl ⟨by kernel_rfl, ?hy⟩) ?rest
          case hy => (intro w; go_simp; try with_reducible rfl)
          case rest =>
          refine wpAny_take (i := 23) (v := ?_) rfl (by kernel_rfl) (by kernel_rfl) (by kernel_rfl) (fun _ _ _ h => h) (Or.inl ⟨by kernel_rfl, ?hy⟩) ?rest
          case hy => (intro w; go_simp; try with_reducible rfl)
          case rest =>
          refine wpAny_take (i := 24) (v := ?_) rfl (by kernel_rfl) (by kernel_rfl) (by kernel_rfl) (fun _ _ _ h => h) (Or.inl ⟨by kernel_rfl, ?hy⟩) ?rest
          case hy => (intro w; go_simp; try with_reducible rfl)
          case rest =>
          refine wpAny_done (by kernel_rfl) ?_ _
          go_wp2
          go_ret
          exact ⟨rfl, by assumption⟩
      · go_enter Tryd.func7, Tryd.ntmps7
        go_wp2_with fail
        refine HH.out.mono ?_
        rintro e w1 ⟨rfl, hb1⟩
        have HB1 := Lib.hid hb1
        clear hb1
        go_wp2
        go_ret
        exact ⟨rfl, HB1.out⟩
    · go_enter Tryd.func7, Tryd.ntmps7
      go_wp2_with fail
      refine HH.out.mono ?_
      rintro e w1 ⟨rfl, hb1⟩
      have HB1 := Lib.hid hb1
      clear hb1
      go_wp2
      go_ret
      exact ⟨rfl, HB1.out⟩

end Go.Proofs.YtfgdcajhnbhhkaaDoor
