/- The reference of layer 2: both, LinkTexts. -/
import Derived.Test.YtfmlhlliephlhaaGreatDoorTreeU02
import Derived.Test.YtfmlhlliephlhaaGreatDoorTreeE02
import Derived.Test.YtfmlhlliephlhaaGreatDoorLGrows02
namespace Go.Proofs.YtfmlhlliephlhaaGreatDoor
open Go.RowKit

theorem llen_pos (n m : Nat) (wh : Bool) (h : m < n) (hm : 1 ≤ m) : 1 ≤ llen n m wh := by
  by_cases hi : m ≤ hf n
  · rw [llen_le n m wh h (by omega) hi]; omega
  · rw [llen_gt n m wh h (by omega) hi]; omega
theorem ltx_len (n m : Nat) (wh : Bool) (old : ByteArray) (p : List ByteArray) (h : 1 ≤ n) : (ltx n m wh old p).length ≤ 2 * n := by
  have h1 : (ltx n m wh old p).length ≤ 2 * llen n m wh := by
    clear h
    induction n using Nat.strongRecOn generalizing m wh p with
    | _ n ih =>
      by_cases hc : m < n ∧ 2 ≤ n
      · have k1 := hf_lt n hc.2
        have k2 := hf_pos n
        by_cases hi : m ≤ hf n
        · rw [ltx_le n m wh old p hc.1 hc.2 hi, llen_le n m wh hc.1 hc.2 hi, List.length_append, List.length_singleton]
          have := ih (hf n) k1 m wh p.dropLast; omega
        · rw [ltx_gt n m wh old p hc.1 hc.2 hi, llen_gt n m wh hc.1 hc.2 hi, List.length_append, List.length_append, List.length_singleton, List.length_singleton]
          have := ih (n - hf n) (by omega) (m - hf n) false p.dropLast; omega
      · have e : ltx n m wh old p = [] := by rw [ltx, dif_neg hc]
        rw [e]; exact Nat.zero_le _
  have := llen_le_n n m wh h
  omega

set_option maxRecDepth 100000 in
set_option maxHeartbeats 16000000 in
theorem rboth_any (q : Nat) : ∀ (n m : Nat) (wh : Bool) (s : ByteArray) (A : Option Addr) (c : Nat) (p : List ByteArray) (w : World), n ≤ q → 1 ≤ m → m ≤ n → n ≤ 1000000 → p.length = llen n m wh → p.length ≤ c → Strs w A p → allD p = true → s.size ≤ 200 →
    Calls Tryz.prog 43 #[.int .i64 n, .int .i64 m, .bool wh, .string s, .slice A p.length c] w fun e w' => e = .returned (.tuple #[.string (bothv n m wh s p).1, .string (bothv n m wh s p).2]) ∧ Below w.heap.size w w' := by
  induction q with
  | zero => intro n m wh s A c p w h1 h2 h3; omega
  | succ q ih =>
    intro n m wh s A c p w hn h1 hmn hbig hpl hcap hS hD hs
    by_cases hlt : m < n
    · have h2 : 2 ≤ n := by omega
      have k1 := hf_lt n h2
      have k2 := hf_pos n
      have hpn := llen_le_n n m wh (by omega)
      obtain ⟨y, x, hy, hx, hlast, hdl, hxs⟩ := last_parts p (by have := llen_pos n m wh hlt h1; omega) (allD_sm hD)
      obtain ⟨b, off, rfl, c1⟩ := hS.at_ hx
      have c1l := lt_of_cell c1
      have HC1 : Hid (∀ W, Below w.heap.size w W → W.cell? ⟨b, off + y, none⟩ = some (.string x)) := Lib.hid (fun W hW => kept_cell hW c1)
      have HU : Hid (∀ (n' m' : Nat) (wh' : Bool) (W : World), n' < n → 1 ≤ m' → m' ≤ n' → y = llen n' m' wh' → Below w.heap.size w W → Calls Tryz.prog 43 #[.int .i64 n', .int .i64 m', .bool wh', .string s, .slice (some ⟨b, off, none⟩) y c] W fun e w' => e = .returned (.tuple #[.string (bothv n' m' wh' s p.dropLast).1, .string (bothv n' m' wh' s p.dropLast).2]) ∧ Below W.heap.size W w') := Lib.hid (fun n' m' wh' W g1 g2 g3 g4 hW => by
        have := ih n' m' wh' s (some ⟨b, off, none⟩) c p.dropLast W (by omega) g2 g3 (by omega) (by rw [hdl]; exact g4) (by rw [hdl]; omega) (by rw [List.dropLast_eq_take]; exact (hS.below hW).take _) (by rw [List.dropLast_eq_take]; exact allD_take hD _) hs
        rw [hdl] at this
        exact this)
      have HND : Hid (∀ (a b : ByteArray) (W : World), a.size ≤ 200 → b.size ≤ 200 → Below w.heap.size w W → Calls Tryz.prog 53 #[.string a, .string b] W fun e w' => e = .returned (.string (nd a b)) ∧ Below W.heap.size W w') := Lib.hid (fun a b W ha hb _ => rnode_any a b ha hb W)
      obtain ⟨k, hk⟩ : ∃ k, hf n = k := ⟨_, rfl⟩
      have HH := Lib.hid (rhalf_any n hbig w)
      rw [hk] at HH
      have hwr : IntKind.i64.wrap (((y + 1 : Nat) : Int) - 1) = (y : Int) := by rw [IntWalk.i64_in _ (by omega)]; omega
      have hn1 : ((m : Int) == (n : Int)) = false := by simp; omega
      have hn10 : (m == n) = false := by simp; omega
      have HDL : Hid (allD p.dropLast = true) := Lib.hid (by rw [List.dropLast_eq_take]; exact allD_take hD _)
      by_cases hik : m ≤ hf n
      · have hst := bothv_le n m wh s p hlt h2 hik
        rw [hlast] at hst
        have hpp := llen_le n m wh hlt h2 hik
        rw [hk] at hst hpp hik k1 k2
        rw [hst, hy]
        have hus := bothv_size k m wh s p.dropLast HDL.out hs
        have HUP : Hid (∀ (W : World), Below w.heap.size w W → Calls Tryz.prog 43 #[.int .i64 (k : Nat), .int .i64 (m : Nat), .bool wh, .string s, .slice (some ⟨b, off, none⟩) y c] W fun e w' => e = .returned (.tuple #[.string (bothv k m wh s p.dropLast).1, .string (bothv k m wh s p.dropLast).2]) ∧ Below W.heap.size W w') := Lib.hid (fun W hW => HU.out k m wh W (by omega) (by omega) (by omega) (by omega) hW)
        obtain ⟨hus1, hus2⟩ := hus
        generalize (bothv k m wh s p.dropLast).1 = u at *
        generalize (bothv k m wh s p.dropLast).2 = v at *
        have HUS := Lib.hid (And.intro hus1 (And.intro hus2 hxs))
        clear hst hpp hlast hdl hx hS hD hk h2 HU hus1 hus2 hxs hs hpl ih hpn HDL
        rw [hy] at hcap
        clear hy
        generalize hK : y + 1 = K at *
        have hmK : y < K := by omega
        have hmc : (y : Int) ≤ (c : Int) := by omega
        have hmm : (y : Int) ≤ (K : Int) := by omega
        have hyi : (m : Int) ≤ (k : Int) := by omega
        go_enter Tryz.func43, Tryz.ntmps43
        go_wp2_with fail
        refine HH.out.mono ?_
        rintro e _ ⟨rfl, rfl⟩
        go_wp2_with fail
        refine (HUP.out w (Below.refl _ _)).mono ?_
        rintro e w1 ⟨rfl, hb1⟩
        have HB1 := Lib.hid hb1
        clear hb1
        go_wp2_with fail
        refine (HND.out v x w1 HUS.out.2.1 HUS.out.2.2 HB1.out).mono ?_
        rintro e w2 ⟨rfl, hb2⟩
        have HB2 := Lib.hid (below_trans HB1.out hb2)
        clear hb2
        go_wp2
        go_ret2
        exact ⟨rfl, HB2.out⟩
      · have hst := bothv_gt n m wh s p hlt h2 hik
        rw [hlast] at hst
        have hpp := llen_gt n m wh hlt h2 hik
        rw [hk] at hst hpp hik k1 k2
        rw [hst, hy]
        have hus := bothv_size (n - k) (m - k) false s p.dropLast HDL.out hs
        have HUP : Hid (∀ (W : World), Below w.heap.size w W → Calls Tryz.prog 43 #[.int .i64 ((n - k) : Nat), .int .i64 ((m - k) : Nat), .bool false, .string s, .slice (some ⟨b, off, none⟩) y c] W fun e w' => e = .returned (.tuple #[.string (bothv (n - k) (m - k) false s p.dropLast).1, .string (bothv (n - k) (m - k) false s p.dropLast).2]) ∧ Below W.heap.size W w') := Lib.hid (fun W hW => HU.out (n - k) (m - k) false W (by omega) (by omega) (by omega) (by omega) hW)
        obtain ⟨hus1, hus2⟩ := hus
        generalize (bothv (n - k) (m - k) false s p.dropLast).1 = u at *
        generalize (bothv (n - k) (m - k) false s p.dropLast).2 = v at *
        have HUS := Lib.hid (And.intro hus1 (And.intro hus2 hxs))
        clear hst hpp hlast hdl hx hS hD hk h2 HU hus1 hus2 hxs hs hpl ih hpn HDL
        rw [hy] at hcap
        clear hy
        generalize hK : y + 1 = K at *
        have hmK : y < K := by omega
        have hmc : (y : Int) ≤ (c : Int) := by omega
        have hmm : (y : Int) ≤ (K : Int) := by omega
        have hni : ¬ (m : Int) ≤ (k : Int) := by omega
        have e1 : (n : Int) - (k : Int) = ((n - k : Nat) : Int) := by omega
        have e2 : (m : Int) - (k : Int) = ((m - k : Nat) : Int) := by omega
        have HE1 := Lib.hid e1
        have HE2 := Lib.hid e2
        clear e1 e2
        go_enter Tryz.func43, Tryz.ntmps43
        go_wp2_with fail
        refine HH.out.mono ?_
        rintro e _ ⟨rfl, rfl⟩
        go_wp2_with fail
        rw [HE1.out, HE2.out]
        refine (HUP.out w (Below.refl _ _)).mono ?_
        rintro e w1 ⟨rfl, hb1⟩
        have HB1 := Lib.hid hb1
        clear hb1
        go_wp2_with fail
        refine (HND.out x u w1 HUS.out.2.2 HUS.out.1 HB1.out).mono ?_
        rintro e w2 ⟨rfl, hb2⟩
        have HB2 := Lib.hid (below_trans HB1.out hb2)
        clear hb2
        go_wp2_with fail
        refine (HND.out x v w2 HUS.out.2.2 HUS.out.2.1 HB2.out).mono ?_
        rintro e w3 ⟨rfl, hb3⟩
        have HB3 := Lib.hid (below_trans HB2.out hb3)
        clear hb3
        go_wp2
        go_ret2
        exact ⟨rfl, HB3.out⟩
    · obtain rfl : m = n := by omega
      rw [bothv_end m m wh s p hlt]
      clear ih
      cases wh with
      | true =>
        clear hS hD hpl
        go_enter Tryz.func43, Tryz.ntmps43
        go_wp2
        go_ret2
        exact ⟨rfl, Below.refl _ _⟩
      | false =>
        rw [llen_end m m false hlt] at hpl
        obtain ⟨x, rfl⟩ : ∃ x, p = [x] := List.length_eq_one_iff.1 hpl
        obtain ⟨b, off, rfl, c0⟩ := hS.at_ (k := 0) (x := x) rfl
        have c0l := lt_of_cell c0
        clear hS hD hpl
        simp only [List.length_singleton, Nat.add_zero] at *
        go_enter Tryz.func43, Tryz.ntmps43
        go_wp2_with fail
        refine wp_region_still_lit (by kernel_rfl) (by kernel_rfl) ?_
        repeat still_step
        refine wpStill_nil ?_
        change Exit.then _ _ Exit.normal _ (World.drew w)
        go_wp2
        go_ret2
        exact ⟨rfl, (Below.refl _ _).drew⟩

end Go.Proofs.YtfmlhlliephlhaaGreatDoor
