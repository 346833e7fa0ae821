/- The reference of layer 2: both, LinkTexts. -/
import Derived.Test.YtfmlhlliephlhaaDoorTreeU02
import Derived.Test.YtfmlhlliephlhaaDoorTreeE02
import Derived.Test.YtfmlhlliephlhaaDoorLGrows02
namespace Go.Proofs.YtfmlhlliephlhaaDoor
open Go.RowKit

theorem llen_pos (n m : Nat) (wh : Bool) (h : m < n) (hm : 1 ≤ m) : 1 ≤ llen n m wh := by
  by_cases hi : m ≤ hf n
  · rw [llen_le n m wh h (by omega) hi]; omega
  · rw [llen_gt n m wh h (by omega) hi]; omega
theorem ltx_len (n m : Nat) (wh : Bool) (old : ByteArray) (p : List ByteArray) (h : 1 ≤ n) : (ltx n m wh old p).length ≤ 2 * n := by
  have h1 : (ltx n m wh old p).length ≤ 2 * llen n m wh := by
    clear h
    induction n using Nat.strongRecOn generalizing m wh p with
    | _ n ih =>
      by_cases hc : m < n ∧ 2 ≤ n
      · have k1 := hf_lt n hc.2
        have k2 := hf_pos n
        by_cases hi : m ≤ hf n
        · rw [ltx_le n m wh old p hc.1 hc.2 hi, llen_le n m wh hc.1 hc.2 hi, List.length_append, List.length_singleton]
          have := ih (hf n) k1 m wh p.dropLast; omega
        · rw [ltx_gt n m wh old p hc.1 hc.2 hi, llen_gt n m wh hc.1 hc.2 hi, List.length_append, List.length_append, List.length_singleton, List.length_singleton]
          have := ih (n - hf n) (by omega) (m - hf n) false p.dropLast; omega
      · have e : ltx n m wh old p = [] := by rw [ltx, dif_neg hc]
        rw [e]; exact Nat.zero_le _
  have := llen_le_n n m wh h
  omega

set_option maxRecDepth 100000 in
set_option maxHeartbeats 16000000 in
theorem rboth_any (q : Nat) : ∀ (n m : Nat) (wh : Bool) (s : ByteArray) (A : Option Addr) (c : Nat) (p : List ByteArray) (w : World), n ≤ q → 1 ≤ m → m ≤ n → n ≤ 1000000 → p.length = llen n m wh → p.length ≤ c → Strs w A p → allD p = true → s.size ≤ 200 →
    Calls Tryd.prog 41 #[.int .i64 n, .int .i64 m, .bool wh, .string s, .slice A p.length c] w fun e w' => e = .returned (.tuple #[.string (bothv n m wh s p).1, .string (bothv n m wh s p).2]) ∧ Below w.heap.size w w' := by
  induction q with
  | zero => intro n m wh s A c p w h1 h2 h3; omega
  | succ q ih =>
    intro n m wh s A c p w hn h1 hmn hbig hpl hcap hS hD hs
    by_cases hlt : m < n
    · have h2 : 2 ≤ n := by omega
      have k1 := hf_lt n h2
      have k2 := hf_pos n
      have hpn := llen_le_n n m wh (by omega)
      obtain ⟨y, x, hy, hx, hlast, hdl, hxs⟩ := last_parts p (by have := llen_pos n m wh hlt h1; omega) (allD_sm hD)
      obtain ⟨b, off, rfl, c1⟩ := hS.at_ hx
      have c1l := lt_of_cell c1
      have HC1 : Hid (∀ W, Below w.heap.size w W → W.cell? ⟨b, off + y, none⟩ = some (.string x)) := Lib.hid (fun W hW => kept_cell hW c1)
      have HU : Hid (∀ (n' m' : Nat) (wh' : Bool) (W : World), n' < n → 1 ≤ m' → m' ≤ n' → y = llen n' m' wh' → Below w.heap.size w W → Calls Tryd.prog 41 #[.int .i64 n', .int .i64 m', .bool wh', .string s, .slice (some ⟨b, off, none⟩) y c] W fun e w' => e = .returned (.tuple #[.string (bothv n' m' wh' s p.dropLast).1, .string (bothv n' m' wh' s p.dropLast).2]) ∧ Below W.heap.size W w') := Lib.hid (fun n' m' wh' W g1 g2 g3 g4 hW => by
        have := ih n' m' wh' s (some ⟨b, off, none⟩) c p.dropLast W (by omega) g2 g3 (by omega) (by rw [hdl]; exact g4) (by rw [hdl]; omega) (by rw [List.dropLast_eq_take]; exact (hS.below hW).take _) (by rw [List.dropLast_eq_take]; exact allD_take hD _) hs
        rw [hdl] at this
        exact this)
      have HND : Hid (∀ (a b : ByteArray) (W : World), a.size ≤ 200 → b.size ≤ 200 → Below w.heap.size w W → Calls Tryd.prog 55 #[.string a, .string b] W fun e w' => e = .returned (.string (nd a b)) ∧ Below W.heap.size W w') := Lib.hid (fun a b W ha hb _ => rnode_any a b ha hb W)
      obtain ⟨k, hk⟩ : ∃ k, hf n = k := ⟨_, rfl⟩
      have HH := Lib.hid (rhalf_any n hbig w)
      rw [hk] at HH
      have hwr : IntKind.i64.wrap (((y + 1 : Nat) : Int) - 1) = (y : Int) := by rw [IntWalk.i64_in _ (by omega)]; omega
      have hn1 : ((m : Int) == (n : Int)) = false := by simp; omega
      have hn10 : (m == n) = false := by simp; omega
      have HDL : Hid (allD p.dropLast = true) := Lib.hid (by rw [List.dropLast_eq_take]; exact allD_take hD _)
      by_cases hik : m ≤ hf n
      · have hst := bothv_le n m wh s p hlt h2 hik
        rw [hlast] at hst
        have hpp := llen_le n m wh hlt h2 hik
        rw [hk] at hst hpp hik k1 k2
        rw [hst, hy]
        have hus := bothv_size k m wh s p.dropLast HDL.out hs
        have HUP : Hid (∀ (W : World), Below w.heap.size w W → Calls Tryd.prog 41 #[.int .i64 (k : Nat), .int .i64 (m : Nat), .bool wh, .string s, .slice (some ⟨b, off, none⟩) y c] W fun e w' => e = .returned (.tuple #[.string (bothv k m wh s p.dropLast).1, .string (bothv k m wh s p.dropLast).2]) ∧ Below W.heap.size W w') := Lib.hid (fun W hW => HU.out k m wh W (by omega) (by omega) (by omega) (by omega) hW)
        obtain ⟨hus1, hus2⟩ := hus
        generalize (bothv k m wh s p.dropLast).1 = u at *
        generalize (bothv k m wh s p.dropLast).2 = v at *
        have HUS := Lib.hid (And.intro hus1 (And.intro hus2 hxs))
        clear hst hpp hlast hdl hx hS hD hk h2 HU hus1 hus2 hxs hs hpl ih hpn HDL
        rw [hy] at hcap
        clear hy
        generalize hK : y + 1 = K at *
        have hmK : y < K := by omega
        have hmc : (y : Int) ≤ (c : Int) := by omega
        have hmm : (y : Int) ≤ (K : Int) := by omega
        have hyi : (m : Int) ≤ (k : Int) := by omega
        go_enter Tryd.func41, Tryd.ntmps41
        go_wp2_with fail
        refine HH.out.mono ?_
        rintro e _ ⟨rfl, rfl⟩
        go_wp2_with fail
        refine (HUP.out w (Below.refl _ _)).mono ?_
        rintro e w1 ⟨rfl, hb1⟩
        have HB1 := Lib.hid hb1
        clear hb1
        go_wp2_with fail
        refine (HND.out v x w1 HUS.out.2.1 HUS.out.2.2 HB1.out).mono ?_
        rintro e w2 ⟨rfl, hb2⟩
        have HB2 := Lib.hid (below_trans HB1.out hb2)
        clear hb2
        go_wp2
        go_ret2
        exact ⟨rfl, HB2.out⟩
      · have hst := bothv_gt n m wh s p hlt h2 hik
        rw [hlast] at hst
        have hpp := llen_gt n m wh hlt h2 hik
        rw [hk] at hst hpp hik k1 k2
        rw [hst, hy]
        have hus := bothv_size (n - k) (m - k) false s p.dropLast HDL.out hs
        have HUP : Hid (∀ (W : World), Below w.heap.size w W → Calls Tryd.prog 41 #[.int .i64 ((n - k) : Nat), .int .i64 ((m - k) : Nat), .bool false, .string s, .slice (some ⟨b, off, none⟩) y c] W fun e w' => e = .returned (.tuple #[.string (bothv (n - k) (m - k) false s p.dropLast).1, .string (bothv (n - k) (m - k) false s p.dropLast).2]) ∧ Below W.heap.size W w') := Lib.hid (fun W hW => HU.out (n - k) (m - k) false W (by omega) (by omega) (by omega) (by omega) hW)
        obtain ⟨hus1, hus2⟩ := hus
        generalize (bothv (n - k) (m - k) false s p.dropLast).1 = u at *
        generalize (bothv (n - k) (m - k) false s p.dropLast).2 = v at *
        have HUS := Lib.hid (And.intro hus1 (And.intro hus2 hxs))
        clear hst hpp hlast hdl hx hS hD hk h2 HU hus1 hus2 hxs hs hpl ih hpn HDL
        rw [hy] at hcap
        clear hy
        generalize hK : y + 1 = K at *
        have hmK : y < K := by omega
        have hmc : (y : Int) ≤ (c : Int) := by omega
        have hmm : (y : Int) ≤ (K : Int) := by omega
        have hni : ¬ (m : Int) ≤ (k : Int) := by omega
        have e1 : (n : Int) - (k : Int) = ((n - k : Nat) : Int) := by omega
        have e2 : (m : Int) - (k : Int) = ((m - k : Nat) : Int) := by omega
        have HE1 := Lib.hid e1
        have HE2 := Lib.hid e2
        clear e1 e2
        go_enter Tryd.func41, Tryd.ntmps41
        go_wp2_with fail
        refine HH.out.mono ?_
        rintro e _ ⟨rfl, rfl⟩
        go_wp2_with fail
        rw [HE1.out, HE2.out]
        refine (HUP.out w (Below.refl _ _)).mono ?_
        rintro e w1 ⟨rfl, hb1⟩
        have HB1 := Lib.hid hb1
        clear hb1
        go_wp2_with fail
        refine (HND.out x u w1 HUS.out.2.2 HUS.out.1 HB1.out).mono ?_
        rintro e w2 ⟨rfl, hb2⟩
        have HB2 := Lib.hid (below_trans HB1.out hb2)
        clear hb2
        go_wp2_with fail
        refine (HND.out x v w2 HUS.out.2.2 HUS.out.2.1 HB2.out).mono ?_
        rintro e w3 ⟨rfl, hb3⟩
        have HB3 := Lib.hid (below_trans HB2.out hb3)
        clear hb3
        go_wp2
        go_ret2
        exact ⟨rfl, HB3.out⟩
    · obtain rfl : m = n := by omega
      rw [bothv_end m m wh s p hlt]
      clear ih
      cases wh with
      | true =>
        clear hS hD hpl
        go_enter Tryd.func41, Tryd.ntmps41
        go_wp2
        go_ret2
        exact ⟨rfl, Below.refl _ _⟩
      | false =>
        rw [llen_end m m false hlt] at hpl
        obtain ⟨x, rfl⟩ : ∃ x, p = [x] := List.length_eq_one_iff.1 hpl
        obtain ⟨b, off, rfl, c0⟩ := hS.at_ (k := 0) (x := x) rfl
        have c0l := lt_of_cell c0
        clear hS hD hpl
        simp only [List.length_singleton, Nat.add_zero] at *
        go_enter Tryd.func41, Tryd.ntmps41
        go_wp2_with fail
        refine wp_region_still_lit (by kernel_rfl) (by kernel_rfl) ?_
        repeat still_step
        refine wpStill_nil ?_
        change Exit.then _ _ Exit.normal _ (World.drew w)
        go_wp2
        go_ret2
        exact ⟨rfl, (Below.refl _ _).drew⟩

set_option maxRecDepth 100000 in
set_option maxHeartbeats 16000000 in
theorem rltx_any (q : Nat) : ∀ (n m : Nat) (wh : Bool) (s : ByteArray) (A : Option Addr) (c : Nat) (p : List ByteArray) (w : World), n ≤ q → 1 ≤ m → m ≤ n → n ≤ 1000000 → p.length = llen n m wh → p.length ≤ c → Strs w A p → allD p = true → s.size ≤ 200 →
    Calls Tryd.prog 21 #[.int .i64 n, .int .i64 m, .bool wh, .string s, .slice A p.length c] w fun e w' => ∃ v, e = .returned v ∧ w'.ownsRow w.heap.size 9 1 v (ltx n m wh s p).length ((ltx n m wh s p).map Value.string) ∧ Below w.heap.size w w' := by
  induction q with
  | zero => intro n m wh s A c p w h1 h2 h3; omega
  | succ q ih =>
    intro n m wh s A c p w hn h1 hmn hbig hpl hcap hS hD hs
    by_cases hlt : m < n
    · have h2 : 2 ≤ n := by omega
      have k1 := hf_lt n h2
      have k2 := hf_pos n
      have hpn := llen_le_n n m wh (by omega)
      obtain ⟨y, x, hy, hx, hlast, hdl, hxs⟩ := last_parts p (by have := llen_pos n m wh hlt h1; omega) (allD_sm hD)
      obtain ⟨b, off, rfl, c1⟩ := hS.at_ hx
      have c1l := lt_of_cell c1
      have HC1 : Hid (∀ W, Below w.heap.size w W → W.cell? ⟨b, off + y, none⟩ = some (.string x)) := Lib.hid (fun W hW => kept_cell hW c1)
      have HU : Hid (∀ (n' m' : Nat) (wh' : Bool) (W : World), n' < n → 1 ≤ m' → m' ≤ n' → y = llen n' m' wh' → Below w.heap.size w W → Calls Tryd.prog 41 #[.int .i64 n', .int .i64 m', .bool wh', .string s, .slice (some ⟨b, off, none⟩) y c] W fun e w' => e = .returned (.tuple #[.string (bothv n' m' wh' s p.dropLast).1, .string (bothv n' m' wh' s p.dropLast).2]) ∧ Below W.heap.size W w') := Lib.hid (fun n' m' wh' W g1 g2 g3 g4 hW => by
        have := rboth_any q n' m' wh' s (some ⟨b, off, none⟩) c p.dropLast W (by omega) g2 g3 (by omega) (by rw [hdl]; exact g4) (by rw [hdl]; omega) (by rw [List.dropLast_eq_take]; exact (hS.below hW).take _) (by rw [List.dropLast_eq_take]; exact allD_take hD _) hs
        rw [hdl] at this
        exact this)
      have HP : Hid (∀ (n' m' : Nat) (wh' : Bool) (W : World), n' < n → 1 ≤ m' → m' ≤ n' → y = llen n' m' wh' → Below w.heap.size w W → Calls Tryd.prog 21 #[.int .i64 n', .int .i64 m', .bool wh', .string s, .slice (some ⟨b, off, none⟩) y c] W fun e w' => ∃ v, e = .returned v ∧ w'.ownsRow w.heap.size 9 1 v (ltx n' m' wh' s p.dropLast).length ((ltx n' m' wh' s p.dropLast).map Value.string) ∧ Below W.heap.size W w') := Lib.hid (fun n' m' wh' W g1 g2 g3 g4 hW => by
        have := ih n' m' wh' s (some ⟨b, off, none⟩) c p.dropLast W (by omega) g2 g3 (by omega) (by rw [hdl]; exact g4) (by rw [hdl]; omega) (by rw [List.dropLast_eq_take]; exact (hS.below hW).take _) (by rw [List.dropLast_eq_take]; exact allD_take hD _) hs
        rw [hdl] at this
        exact this.mono fun _ _ ⟨v, he, ho, hb⟩ => ⟨v, he, own_base ho hW.size, hb⟩)
      have HND : Hid (∀ (a b : ByteArray) (W : World), a.size ≤ 200 → b.size ≤ 200 → Below w.heap.size w W → Calls Tryd.prog 55 #[.string a, .string b] W fun e w' => e = .returned (.string (nd a b)) ∧ Below W.heap.size W w') := Lib.hid (fun a b W ha hb _ => rnode_any a b ha hb W)
      obtain ⟨k, hk⟩ : ∃ k, hf n = k := ⟨_, rfl⟩
      have HH := Lib.hid (rhalf_any n hbig w)
      rw [hk] at HH
      have hwr : IntKind.i64.wrap (((y + 1 : Nat) : Int) - 1) = (y : Int) := by rw [IntWalk.i64_in _ (by omega)]; omega
      have hn1 : ((m : Int) == (n : Int)) = false := by simp; omega
      have hn10 : (m == n) = false := by simp; omega
      have HDL : Hid (allD p.dropLast = true) := Lib.hid (by rw [List.dropLast_eq_take]; exact allD_take hD _)
      by_cases hik : m ≤ hf n
      · have hst := ltx_le n m wh s p hlt h2 hik
        rw [hlast] at hst
        have hpp := llen_le n m wh hlt h2 hik
        rw [hk] at hst hpp hik k1 k2
        rw [hst, hy]
        have hus := bothv_size k m wh s p.dropLast HDL.out hs
        have HUP : Hid (∀ (W : World), Below w.heap.size w W → Calls Tryd.prog 41 #[.int .i64 (k : Nat), .int .i64 (m : Nat), .bool wh, .string s, .slice (some ⟨b, off, none⟩) y c] W fun e w' => e = .returned (.tuple #[.string (bothv k m wh s p.dropLast).1, .string (bothv k m wh s p.dropLast).2]) ∧ Below W.heap.size W w') := Lib.hid (fun W hW => HU.out k m wh W (by omega) (by omega) (by omega) (by omega) hW)
        have HPT := Lib.hid (fun W hW => HP.out k m wh W (by omega) (by omega) (by omega) (by omega) hW)
        have htl : (ltx k m wh s p.dropLast).length ≤ 2000000 := by have := ltx_len k m wh s p.dropLast (by omega); omega
        have HTL := Lib.hid htl
        obtain ⟨ip, hj1, hy0, hy1, hy2⟩ := info_parts info_strg
        have HI := Lib.hid (And.intro hj1 (And.intro hy0 (And.intro hy1 hy2)))
        clear hj1 hy0 hy1 hy2 htl
        generalize ltx k m wh s p.dropLast = T at *
        obtain ⟨hus1, hus2⟩ := hus
        generalize (bothv k m wh s p.dropLast).1 = u at *
        generalize (bothv k m wh s p.dropLast).2 = v at *
        have HJ0 : Hid (∀ W : World, Below w.heap.size w W → Calls Tryd.prog 36 #[.slice (some ⟨W.heap.size, 0, none⟩) 3 3] (W.alloc (.cells #[.string ⟨#[110, 111, 100, 101]⟩, .string v, .string x] 9)) fun e w' => e = .returned (.string (jb [bNode, v, x])) ∧ Below W.heap.size W w') := Lib.hid (fun W _ => rjoin3 v x hus2 hxs W)
        generalize jb [bNode, v, x] = y0 at *
        have HUS := Lib.hid (And.intro hus1 (And.intro hus2 hxs))
        clear hst hpp hlast hdl hx hS hD hk h2 HU hus1 hus2 hxs hs hpl ih hpn HDL HP
        rw [hy] at hcap
        clear hy
        generalize hK : y + 1 = K at *
        have hmK : y < K := by omega
        have hmc : (y : Int) ≤ (c : Int) := by omega
        have hmm : (y : Int) ≤ (K : Int) := by omega
        have hyi : (m : Int) ≤ (k : Int) := by omega
        go_enter Tryd.func21, Tryd.ntmps21
        go_wp2_with fail
        refine HH.out.mono ?_
        rintro e _ ⟨rfl, rfl⟩
        go_wp2_with fail
        refine (HUP.out w (Below.refl _ _)).mono ?_
        rintro e w1 ⟨rfl, hb1⟩
        have HB1 := Lib.hid hb1
        clear hb1
        go_wp2_with fail
        refine (HPT.out w1 HB1.out).mono ?_
        rintro e w2 ⟨v1, rfl, ho2, hb2⟩
        have HO2 := Lib.hid ho2
        have HB2 := Lib.hid (below_trans HB1.out hb2)
        clear hb2 ho2
        go_wp2_with fail
        refine (HJ0.out w2 HB2.out).mono ?_
        rintro e w3 ⟨rfl, hb3⟩
        have HB3 := Lib.hid (below_trans HB2.out hb3)
        have HO3 : Hid ((w3.alloc (.cells #[.string y0] 9)).ownsRow w.heap.size 9 1 v1 T.length (T.map Value.string)) := Lib.hid (row_below (row_below HO2.out hb3) (below_alloc (Below.refl _ _) _))
        clear hb3
        go_wp2_with (at_builtin; refine wpList_app _ rfl (.tmp 52) (.tmp 57) 22 22 rfl w.heap.size 9 9 ip _ 1 16 Tryd.underlying22 Tryd.underlying22 HI.out.1 HI.out.2.1 HI.out.2.2.1 HI.out.2.2.2 rfl (by omega) v1 T.length _ rfl HO3.out (some ⟨w3.heap.size, 0, none⟩) 1 1 [.string y0] rfl (Rd_new w3 #[.string y0] _ 1 1 _ rfl rfl) (by simp [Value.oneCell']) (by have := HTL.out; simp only [maxLen]; omega) (by have := HTL.out; omega) (by have := HB3.out.size; simp; omega) ?_)
        intro v4 w4 hown4 hg4
        have HB4 : Hid (Below w.heap.size w w4) := Lib.hid ((below_alloc HB3.out _).grown hg4 (by have := HB3.out.size; simp; omega) (fun j hj => (HO3.out.lt j hj).1))
        have HO4 := Lib.hid hown4
        clear hown4 hg4
        go_wp2
        go_ret
        refine ⟨v4, rfl, ?_, HB4.out⟩
        have := HO4.out
        simpa using this
      · have hst := ltx_gt n m wh s p hlt h2 hik
        rw [hlast] at hst
        have hpp := llen_gt n m wh hlt h2 hik
        rw [hk] at hst hpp hik k1 k2
        rw [hst, hy]
        have hus := bothv_size (n - k) (m - k) false s p.dropLast HDL.out hs
        have HUP : Hid (∀ (W : World), Below w.heap.size w W → Calls Tryd.prog 41 #[.int .i64 ((n - k) : Nat), .int .i64 ((m - k) : Nat), .bool false, .string s, .slice (some ⟨b, off, none⟩) y c] W fun e w' => e = .returned (.tuple #[.string (bothv (n - k) (m - k) false s p.dropLast).1, .string (bothv (n - k) (m - k) false s p.dropLast).2]) ∧ Below W.heap.size W w') := Lib.hid (fun W hW => HU.out (n - k) (m - k) false W (by omega) (by omega) (by omega) (by omega) hW)
        have HPT := Lib.hid (fun W hW => HP.out (n - k) (m - k) false W (by omega) (by omega) (by omega) (by omega) hW)
        have htl : (ltx (n - k) (m - k) false s p.dropLast).length ≤ 2000000 := by have := ltx_len (n - k) (m - k) false s p.dropLast (by omega); omega
        have HTL := Lib.hid htl
        obtain ⟨ip, hj1, hy0, hy1, hy2⟩ := info_parts info_strg
        have HI := Lib.hid (And.intro hj1 (And.intro hy0 (And.intro hy1 hy2)))
        clear hj1 hy0 hy1 hy2 htl
        generalize ltx (n - k) (m - k) false s p.dropLast = T at *
        obtain ⟨hus1, hus2⟩ := hus
        generalize (bothv (n - k) (m - k) false s p.dropLast).1 = u at *
        generalize (bothv (n - k) (m - k) false s p.dropLast).2 = v at *
        have HJ0 : Hid (∀ W : World, Below w.heap.size w W → Calls Tryd.prog 36 #[.slice (some ⟨W.heap.size, 0, none⟩) 3 3] (W.alloc (.cells #[.string ⟨#[110, 111, 100, 101]⟩, .string x, .string u] 9)) fun e w' => e = .returned (.string (jb [bNode, x, u])) ∧ Below W.heap.size W w') := Lib.hid (fun W _ => rjoin3 x u hxs hus1 W)
        generalize jb [bNode, x, u] = y0 at *
        have HJ1 : Hid (∀ W : World, Below w.heap.size w W → Calls Tryd.prog 36 #[.slice (some ⟨W.heap.size, 0, none⟩) 3 3] (W.alloc (.cells #[.string ⟨#[110, 111, 100, 101]⟩, .string x, .string v] 9)) fun e w' => e = .returned (.string (jb [bNode, x, v])) ∧ Below W.heap.size W w') := Lib.hid (fun W _ => rjoin3 x v hxs hus2 W)
        generalize jb [bNode, x, v] = y1 at *
        have HUS := Lib.hid (And.intro hus1 (And.intro hus2 hxs))
        clear hst hpp hlast hdl hx hS hD hk h2 HU hus1 hus2 hxs hs hpl ih hpn HDL HP
        rw [hy] at hcap
        clear hy
        generalize hK : y + 1 = K at *
        have hmK : y < K := by omega
        have hmc : (y : Int) ≤ (c : Int) := by omega
        have hmm : (y : Int) ≤ (K : Int) := by omega
        have hni : ¬ (m : Int) ≤ (k : Int) := by omega
        have e1 : (n : Int) - (k : Int) = ((n - k : Nat) : Int) := by omega
        have e2 : (m : Int) - (k : Int) = ((m - k : Nat) : Int) := by omega
        have HE1 := Lib.hid e1
        have HE2 := Lib.hid e2
        clear e1 e2
        go_enter Tryd.func21, Tryd.ntmps21
        go_wp2_with fail
        refine HH.out.mono ?_
        rintro e _ ⟨rfl, rfl⟩
        go_wp2_with fail
        rw [HE1.out, HE2.out]
        refine (HUP.out w (Below.refl _ _)).mono ?_
        rintro e w1 ⟨rfl, hb1⟩
        have HB1 := Lib.hid hb1
        clear hb1
        go_wp2_with fail
        rw [HE1.out, HE2.out]
        refine (HPT.out w1 HB1.out).mono ?_
        rintro e w2 ⟨v1, rfl, ho2, hb2⟩
        have HO2 := Lib.hid ho2
        have HB2 := Lib.hid (below_trans HB1.out hb2)
        clear hb2 ho2
        go_wp2_with fail
        refine (HJ0.out w2 HB2.out).mono ?_
        rintro e w3 ⟨rfl, hb3⟩
        have HB3 := Lib.hid (below_trans HB2.out hb3)
        have HO3 : Hid ((w3.alloc (.cells #[.string y0] 9)).ownsRow w.heap.size 9 1 v1 T.length (T.map Value.string)) := Lib.hid (row_below (row_below HO2.out hb3) (below_alloc (Below.refl _ _) _))
        clear hb3
        go_wp2_with (at_builtin; refine wpList_app _ rfl (.tmp 79) (.tmp 84) 22 22 rfl w.heap.size 9 9 ip _ 1 16 Tryd.underlying22 Tryd.underlying22 HI.out.1 HI.out.2.1 HI.out.2.2.1 HI.out.2.2.2 rfl (by omega) v1 T.length _ rfl HO3.out (some ⟨w3.heap.size, 0, none⟩) 1 1 [.string y0] rfl (Rd_new w3 #[.string y0] _ 1 1 _ rfl rfl) (by simp [Value.oneCell']) (by have := HTL.out; simp only [maxLen]; omega) (by have := HTL.out; omega) (by have := HB3.out.size; simp; omega) ?_)
        intro v4 w4 hown4 hg4
        have HB4 : Hid (Below w.heap.size w w4) := Lib.hid ((below_alloc HB3.out _).grown hg4 (by have := HB3.out.size; simp; omega) (fun j hj => (HO3.out.lt j hj).1))
        have HO4 := Lib.hid hown4
        clear hown4 hg4
        go_wp2_with fail
        refine (HJ1.out w4 HB4.out).mono ?_
        rintro e w5 ⟨rfl, hb5⟩
        have HB5 := Lib.hid (below_trans HB4.out hb5)
        have HO5 : Hid ((w5.alloc (.cells #[.string y1] 9)).ownsRow w.heap.size 9 1 v4 (T.length + 1) (T.map Value.string ++ [.string y0])) := Lib.hid (row_below (row_below HO4.out hb5) (below_alloc (Below.refl _ _) _))
        clear hb5
        go_wp2_with (at_builtin; refine wpList_app _ rfl (.tmp 86) (.tmp 91) 22 22 rfl w.heap.size 9 9 ip _ 1 16 Tryd.underlying22 Tryd.underlying22 HI.out.1 HI.out.2.1 HI.out.2.2.1 HI.out.2.2.2 rfl (by omega) v4 (T.length + 1) _ rfl HO5.out (some ⟨w5.heap.size, 0, none⟩) 1 1 [.string y1] rfl (Rd_new w5 #[.string y1] _ 1 1 _ rfl rfl) (by simp [Value.oneCell']) (by have := HTL.out; simp only [maxLen]; omega) (by have := HTL.out; omega) (by have := HB5.out.size; simp; omega) ?_)
        intro v6 w6 hown6 hg6
        have HB6 : Hid (Below w.heap.size w w6) := Lib.hid ((below_alloc HB5.out _).grown hg6 (by have := HB5.out.size; simp; omega) (fun j hj => (HO5.out.lt j hj).1))
        have HO6 := Lib.hid hown6
        clear hown6 hg6
        go_wp2
        go_ret
        refine ⟨v6, rfl, ?_, HB6.out⟩
        have := HO6.out
        simpa [Nat.add_assoc] using this
    · obtain rfl : m = n := by omega
      rw [ltx_end m m wh s p hlt]
      clear ih hS hD
      go_enter Tryd.func21, Tryd.ntmps21
      go_wp2
      go_ret
      exact ⟨_, rfl, ⟨rfl, .inl ⟨rfl, rfl⟩⟩, Below.refl _ _⟩

end Go.Proofs.YtfmlhlliephlhaaDoor
