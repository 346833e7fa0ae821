/- The examples of observatorylaw02.head: the walk. -/
import Derived.Test.YtfmlhlliephlhaaGreatDoorTreeHp02
import Derived.Test.YtfmlhlliephlhaaGreatDoorTreeHd02
import Derived.Test.YtfmlhlliephlhaaGreatDoorTreeX02
import Derived.Test.YtfmlhlliephlhaaGreatDoorTreeLk02
import Derived.Test.YtfmlhlliephlhaaGreatDoorRef04
namespace Go.Proofs.YtfmlhlliephlhaaGreatDoor
open Go.RowKit

theorem hxt1 : extB xa 1 (nd (nd xa xb) xc) 3 [xb, xc] = true := by
  unfold extB
  show (decide ((0 : Int) ≤ 1 ∧ (1 : Int) ≤ 3 ∧ (3 : Int) ≤ 1000000) && (allD [xb, xc] && ((isD xa && isD (nd (nd xa xb) xc)) &&
    (if (1 : Int) = 0 then _ else decide ((bothv 3 1 true xa [xb, xc]).1 = xa) && (decide ((bothv 3 1 true xa [xb, xc]).2 = nd (nd xa xb) xc) && decide ([xb, xc].length = llen 3 1 true)))))) = true
  rw [bo31, ll31]
  simp [allD, isD_nd, show isD xa = true from isD_lf _, show isD xb = true from isD_lf _, show isD xc = true from isD_lf _]
theorem hxt2 : extB xb 1 (nd (nd xa xb) xc) 3 [xb, xc] = false := by
  unfold extB
  show (decide ((0 : Int) ≤ 1 ∧ (1 : Int) ≤ 3 ∧ (3 : Int) ≤ 1000000) && (allD [xb, xc] && ((isD xb && isD (nd (nd xa xb) xc)) &&
    (if (1 : Int) = 0 then _ else decide ((bothv 3 1 true xb [xb, xc]).1 = xb) && (decide ((bothv 3 1 true xb [xb, xc]).2 = nd (nd xa xb) xc) && decide ([xb, xc].length = llen 3 1 true)))))) = false
  rw [bo31, decide_eq_false ne2]
  simp

set_option maxHeartbeats 4000000 in
theorem tpath_over (A : Option Addr) (c : Nat) (l : List ByteArray) (i : Int) (w : World) (hbig : l.length ≤ 100000) (hS : Strs w A l) (hsm : sm l) (hD : allD l = true) (hi0 : 0 ≤ i) (hi1 : (l.length : Int) ≤ i) :
    Calls Tryz.prog 8 #[.slice A l.length c, .int .i64 i] w fun e w' => e = .returned (.tuple #[.slice none 0 0, .int .i64 1]) ∧ Below w.heap.size w w' := by
  have HPR := Lib.hid (proper_any A c l w (by omega) hS (fun s hs => by have := hsm s hs; omega))
  rw [hD] at HPR
  clear hS hsm hD
  go_enter Tryz.func8, Tryz.ntmps8
  go_wp2_with fail
  refine HPR.out.mono ?_
  rintro e w1 ⟨rfl, hb1⟩
  have HB1 := Lib.hid hb1
  clear hb1
  go_wp2
  go_ret2
  exact ⟨rfl, HB1.out⟩

theorem x_sz : xa.size = 16 ∧ xb.size = 16 ∧ xc.size = 16 := ⟨dg_size _, dg_size _, dg_size _⟩
theorem x_sm : sm [xa, xb, xc] := by
  obtain ⟨h1, h2, h3⟩ := x_sz
  intro s hs
  simp only [List.mem_cons, List.not_mem_nil, or_false] at hs
  rcases hs with rfl | rfl | rfl <;> omega
theorem x_all : allD [xa, xb, xc] = true := by simp [allD, show isD xa = true from isD_lf _, show isD xb = true from isD_lf _, show isD xc = true from isD_lf _]

set_option maxRecDepth 100000 in
set_option maxHeartbeats 64000000 in
theorem head_any (w : World) (hT : Tabs w) : Calls Tryz.prog 4 #[] w fun e w' => e = .returned (.bool true) ∧ Below w.heap.size w w' := by
  have HT : Hid (∀ W, Below w.heap.size w W → Tabs W) := Lib.hid (fun W hW => hT.below hW)
  have HLF : Hid (∀ (s : ByteArray) (W : World), s.size ≤ 200 → Below w.heap.size w W → Calls Tryz.prog 12 #[.string s] W fun e w' => e = .returned (.string (lf s)) ∧ Below w.heap.size w w') := Lib.hid (fun s W hs hW => (leaf_any s hs W (hT.below hW)).mono fun _ _ ⟨he, hb⟩ => ⟨he, below_trans hW hb⟩)
  have HLI : Hid (∀ (q : Nat) (k : List ByteArray) (W : World) (C : Option Addr), Below w.heap.size w W → Strs W C k → (jn k).length ≤ 1000000 → k.length ≤ 1000000 → Calls Tryz.prog 19 #[.slice C k.length q] W fun e w' => e = .returned (.string (dg ⟨(jn k).toArray⟩)) ∧ Below W.heap.size W w') := Lib.hid (fun q k W C hW hs hj hk => list_any C q k W hs (hT.below hW) hj hk)
  obtain ⟨sza, szb, szc⟩ := x_sz
  clear hT
  go_enter Tryz.func4, Tryz.ntmps4
  go_wp2_with fail
  refine (HLF.out ⟨#[97]⟩ w (by decide) (Below.refl _ _)).mono ?_
  rintro e w1 ⟨rfl, hb⟩
  have HB1 := Lib.hid hb
  clear hb
  go_wp2_with fail
  refine (HLF.out ⟨#[98]⟩ w1 (by decide) HB1.out).mono ?_
  rintro e w2 ⟨rfl, hb⟩
  have HB2 := Lib.hid hb
  clear hb
  go_wp2_with fail
  refine (HLF.out ⟨#[99]⟩ w2 (by decide) HB2.out).mono ?_
  rintro e w3 ⟨rfl, hb⟩
  have HB3 := Lib.hid hb
  clear hb
  rw [show lf ⟨#[97]⟩ = xa from rfl, show lf ⟨#[98]⟩ = xb from rfl, show lf ⟨#[99]⟩ = xc from rfl]
  obtain ⟨wl, hwl⟩ : ∃ wl, w3.alloc (.cells #[.string xa, .string xb, .string xc] 9) = wl := ⟨_, rfl⟩
  have HBL : Hid (Below w.heap.size w wl) := Lib.hid (by rw [← hwl]; exact below_alloc HB3.out _)
  have HSL : Hid (Strs wl (some ⟨w3.heap.size, 0, none⟩) [xa, xb, xc]) := Lib.hid (by rw [← hwl]; exact Strs_new _ _ _ _ _ rfl rfl)
  have HWL := Lib.hid hwl
  clear hwl
  have HPA : Hid (∀ (W : World) (i : Int) (p : List ByteArray), pt [xa, xb, xc] i.toNat = p → 0 ≤ i → i < 3 → Below wl.heap.size wl W → Calls Tryz.prog 8 #[.slice (some ⟨w3.heap.size, 0, none⟩) 3 3, .int .i64 i] W fun e w' => ∃ A' c', e = .returned (.tuple #[.slice A' p.length c', .int .i64 0]) ∧ p.length ≤ c' ∧ Strs w' A' p ∧ Below W.heap.size W w') := Lib.hid (fun W i p hp h0 h1 hW => by
    subst hp
    exact (tpath_any (some ⟨w3.heap.size, 0, none⟩) 3 [xa, xb, xc] i W (by simp) (by simp) (HSL.out.below hW) x_sm (HT.out W (below_trans HBL.out hW)) x_all h0 (by simpa using h1)).mono fun _ _ ⟨A', c', he, h1, h2, _, h4⟩ => ⟨A', c', he, h1, h2, h4⟩)
  have HLK : Hid (∀ (W : World) (i : Int) (p : List ByteArray), lk [xa, xb, xc] i.toNat true = p → 1 ≤ i → i ≤ 3 → Below wl.heap.size wl W → Calls Tryz.prog 10 #[.slice (some ⟨w3.heap.size, 0, none⟩) 3 3, .int .i64 i] W fun e w' => ∃ A' c', e = .returned (.tuple #[.slice A' p.length c', .int .i64 0]) ∧ p.length ≤ c' ∧ Strs w' A' p ∧ Below W.heap.size W w') := Lib.hid (fun W i p hp h0 h1 hW => by
    subst hp
    exact (tlink_any (some ⟨w3.heap.size, 0, none⟩) 3 [xa, xb, xc] i W (by simp) (by simp) (HSL.out.below hW) x_sm (HT.out W (below_trans HBL.out hW)) x_all h0 (by simpa using h1)).mono fun _ _ ⟨A', c', he, h1, h2, _, h4⟩ => ⟨A', c', he, h1, h2, h4⟩)
  have HPO : Hid (∀ (W : World), Below wl.heap.size wl W → Calls Tryz.prog 8 #[.slice (some ⟨w3.heap.size, 0, none⟩) 3 3, .int .i64 3] W fun e w' => e = .returned (.tuple #[.slice none 0 0, .int .i64 1]) ∧ Below W.heap.size W w') := Lib.hid (fun W hW =>
    (tpath_over (some ⟨w3.heap.size, 0, none⟩) 3 [xa, xb, xc] 3 W (by simp) (HSL.out.below hW) x_sm x_all (by decide) (by simp)).mono fun _ _ ⟨he, h4⟩ => ⟨he, h4⟩)
  have HLS : Hid (∀ (q : Nat) (k : List ByteArray) (d : ByteArray) (W : World), dg ⟨(jn k).toArray⟩ = d → Below wl.heap.size wl W → (jn k).length ≤ 1000000 → k.length ≤ 1000000 → Calls Tryz.prog 19 #[.slice (some ⟨W.heap.size, 0, none⟩) k.length q] (W.alloc (.cells (k.map Value.string).toArray 9)) fun e w' => e = .returned (.string d) ∧ Below W.heap.size W w') := Lib.hid (fun q k d W hd hW hj hk => by
    subst hd
    exact (HLI.out q k _ (some ⟨W.heap.size, 0, none⟩) (below_alloc (below_trans HBL.out hW) _) (Strs_new _ _ _ _ _ rfl rfl) hj hk).mono fun _ _ ⟨he, hb⟩ => ⟨he, below_trans (below_alloc (Below.refl _ _) _) hb⟩)
  have HRT : Hid (∀ (W : World) (A : Option Addr) (c : Nat) (k : List ByteArray) (d : ByteArray), (if allD k then rt k else ByteArray.empty) = d → Below wl.heap.size wl W → k.length ≤ 100 → k.length ≤ c → Strs W A k → sm k → Calls Tryz.prog 20 #[.slice A k.length c] W fun e w' => e = .returned (.string d) ∧ Below W.heap.size W w') := Lib.hid (fun W A c k d hd hW h1 h2 h3 h4 => by
    subst hd
    exact (rooted_any A c k W (by omega) h2 h3 h4 (HT.out W (below_trans HBL.out hW))).mono fun _ _ ⟨he, hb⟩ => ⟨he, hb⟩)
  have HSM : Hid (∀ (W : World) (A B : Option Addr) (c d : Nat) (k m : List ByteArray), Below wl.heap.size wl W → Strs W A k → Strs W B m → k.length ≤ 100 → m.length ≤ 100 → k = m → Calls Tryz.prog 14 #[.slice A k.length c, .slice B m.length d] W fun e w' => e = .returned (.bool true) ∧ Below W.heap.size W w') := Lib.hid (fun W A B c d k m hW h1 h2 h3 h4 h5 => by
    have := rsame A B c d k m W h1 h2 (by omega) (by omega)
    rw [decide_eq_true h5] at this
    exact this.mono fun _ _ ⟨he, hb⟩ => ⟨he, hb⟩)
  have HCK : Hid (∀ (W : World) (A : Option Addr) (c : Nat) (p : List ByteArray) (r s : ByteArray) (n i : Int) (v : Bool), chkB r n i s p = v → Below wl.heap.size wl W → Strs W A p → p.length ≤ 100 → s.size ≤ 200 → sm p → Calls Tryz.prog 15 #[.string r, .int .i64 n, .int .i64 i, .string s, .slice A p.length c] W fun e w' => e = .returned (.bool v) ∧ Below W.heap.size W w') := Lib.hid (fun W A c p r s n i v hv hW h1 h2 h3 h4 => by
    subst hv
    exact (tcheck_any r n i s A c p W (HT.out W (below_trans HBL.out hW)) h1 (by omega) (by omega) (fun s hs => by have := h4 s hs; omega)).mono fun _ _ ⟨he, hb⟩ => ⟨he, hb⟩)
  have HEX : Hid (∀ (W : World) (A : Option Addr) (c : Nat) (p : List ByteArray) (r s : ByteArray) (n m : Int) (v : Bool), extB s m r n p = v → Below wl.heap.size wl W → Strs W A p → p.length ≤ 100 → s.size ≤ 200 → r.size ≤ 200 → sm p → Calls Tryz.prog 17 #[.string s, .int .i64 m, .string r, .int .i64 n, .slice A p.length c] W fun e w' => e = .returned (.bool v) ∧ Below W.heap.size W w') := Lib.hid (fun W A c p r s n m v hv hW h1 h2 h3 h4 h5 => by
    subst hv
    exact (ext_any s m r n A c p W (HT.out W (below_trans HBL.out hW)) h1 (by omega) (by omega) (by omega) (fun s hs => by have := h5 s hs; omega)).mono fun _ _ ⟨he, hb⟩ => ⟨he, hb⟩)
  have HROOT : Hid (∀ (W : World), Below wl.heap.size wl W → Calls Tryz.prog 6 #[.slice (some ⟨W.heap.size, 0, none⟩) 1 1] (W.alloc (.cells #[.string ⟨#[120]⟩] 9)) fun e w' => e = .returned (.tuple #[.string ByteArray.empty, .int .i64 1]) ∧ Below W.heap.size W w') := Lib.hid (fun W hW => by
    have := root_any (some ⟨W.heap.size, 0, none⟩) 1 [⟨#[120]⟩] (W.alloc (.cells #[.string ⟨#[120]⟩] 9)) (by simp) (by simp) (Strs_new _ _ _ _ _ rfl rfl) (by intro s hs; rw [List.mem_singleton.1 hs]; decide) (HT.out _ (below_alloc (below_trans HBL.out hW) _))
    exact this.mono fun _ _ ⟨he, hb⟩ => ⟨he, below_trans (below_alloc (Below.refl _ _) _) hb⟩)
  have hnd := nd_size xa xb
  have j3 : ∀ x y : ByteArray, x.size ≤ 200 → y.size ≤ 200 → (jn [bNode, x, y]).length ≤ 1000000 := fun x y hx hy => by have := jb3 bNode x y (by decide) hx hy; omega
  have J3 := Lib.hid j3
  clear j3
  go_wp2_with fail
  rw [HWL.out]
  refine (HPA.out wl 2 [nd xa xb] (pt32 xa xb xc) (by decide) (by decide) (Below.refl _ _)).mono ?_
  rintro e w4 ⟨A4, c4, rfl, hc4, hs4, hb⟩
  have HX4 := Lib.hid (hb)
  have HB4 := Lib.hid (below_trans (Below.refl _ _) HX4.out)
  have HS4 := Lib.hid hs4
  clear hb hs4
  go_wp2_with fail
  refine (HPA.out w4 0 [xb, xc] (pt30 xa xb xc) (by decide) (by decide) HB4.out).mono ?_
  rintro e w5 ⟨A5, c5, rfl, hc5, hs5, hb⟩
  have HX5 := Lib.hid (hb)
  have HB5 := Lib.hid (below_trans HB4.out HX5.out)
  have HS5 := Lib.hid hs5
  clear hb hs5
  go_wp2_with fail
  refine (HLK.out w5 2 [xc] (lk32 xa xb xc) (by decide) (by decide) HB5.out).mono ?_
  rintro e w6 ⟨A6, c6, rfl, hc6, hs6, hb⟩
  have HX6 := Lib.hid (hb)
  have HB6 := Lib.hid (below_trans HB5.out HX6.out)
  have HS6 := Lib.hid hs6
  clear hb hs6
  go_wp2_with fail
  refine (HLK.out w6 1 [xb, xc] (lk31 xa xb xc) (by decide) (by decide) HB6.out).mono ?_
  rintro e w7 ⟨A7, c7, rfl, hc7, hs7, hb⟩
  have HX7 := Lib.hid (hb)
  have HB7 := Lib.hid (below_trans HB6.out HX7.out)
  have HS7 := Lib.hid hs7
  clear hb hs7
  go_wp2_with fail
  refine (HPO.out w7 HB7.out).mono ?_
  rintro e w8 ⟨rfl, hb⟩
  have HX8 := Lib.hid (hb)
  have HB8 := Lib.hid (below_trans HB7.out HX8.out)
  clear hb
  go_wp2_with fail
  refine (HROOT.out w8 HB8.out).mono ?_
  rintro e w9 ⟨rfl, hb⟩
  have HX9 := Lib.hid (hb)
  have HB9 := Lib.hid (below_trans HB8.out HX9.out)
  clear hb
  go_wp2_with fail
  refine (HLS.out 3 [bNode, xa, xb] (nd xa xb) w9 rfl HB9.out (J3.out xa xb (by omega) (by omega)) (by simp)).mono ?_
  rintro e w10 ⟨rfl, hb⟩
  have HX10 := Lib.hid (hb)
  have HB10 := Lib.hid (below_trans HB9.out HX10.out)
  clear hb
  go_wp2_with fail
  refine (HRT.out w10 (some ⟨w3.heap.size, 0, none⟩) 3 [xa, xb, xc] (nd (nd xa xb) xc) (by rw [x_all, if_pos rfl, rt3]) HB10.out (by simp) (by simp) (HSL.out.below HB10.out) x_sm).mono ?_
  rintro e w11 ⟨rfl, hb⟩
  have HX11 := Lib.hid (hb)
  have HB11 := Lib.hid (below_trans HB10.out HX11.out)
  clear hb
  go_wp2_with fail
  refine (HRT.out w11 none 0 [] em (by rw [show allD [] = true from rfl, if_pos rfl, rt_nil]) HB11.out (by simp) (by simp) ⟨rfl, fun h => by simp at h⟩ (fun s hs => by cases hs)).mono ?_
  rintro e w12 ⟨rfl, hb⟩
  have HX12 := Lib.hid (hb)
  have HB12 := Lib.hid (below_trans HB11.out HX12.out)
  clear hb
  have t1 := beq_true em
  have t2 := beq_true xa
  have t3 := beq_true (nd (nd xa xb) xc)
  go_wp2_with fail
  refine (HLS.out 1 [bEmpty] em w12 rfl HB12.out (by have := jn_few [bEmpty] (by intro s hs; rw [List.mem_singleton.1 hs]; decide); simp only [List.length_singleton] at this; omega) (by simp)).mono ?_
  rintro e w13 ⟨rfl, hb⟩
  have HX13 := Lib.hid (hb)
  have HB13 := Lib.hid (below_trans HB12.out HX13.out)
  clear hb
  go_wp2_with fail
  refine (HLS.out 2 [bLeaf, ⟨#[97]⟩] xa w13 rfl HB13.out (by have := jb2 bLeaf ⟨#[97]⟩ (by decide) (by decide); omega) (by simp)).mono ?_
  rintro e w14 ⟨rfl, hb⟩
  have HX14 := Lib.hid (hb)
  have HB14 := Lib.hid (below_trans HB13.out HX14.out)
  clear hb
  go_wp2_with fail
  refine (HRT.out (w14.alloc (.cells #[.string xa] 9)) (some ⟨w14.heap.size, 0, none⟩) 1 [xa] xa (by rw [show allD [xa] = true from by simp [allD, show isD xa = true from isD_lf _], if_pos rfl, rt_one]) (below_alloc HB14.out _) (by simp) (by simp) (Strs_new _ _ _ _ _ rfl rfl) (by intro s hs; rw [List.mem_singleton.1 hs]; omega)).mono ?_
  rintro e w15 ⟨rfl, hb⟩
  have HX15 := Lib.hid (below_trans (below_alloc (Below.refl _ _) _) hb)
  have HB15 := Lib.hid (below_trans HB14.out HX15.out)
  clear hb
  go_wp2_with fail
  refine (HLS.out 3 [bNode, nd xa xb, xc] (nd (nd xa xb) xc) w15 rfl HB15.out (J3.out (nd xa xb) xc (by omega) (by omega)) (by simp)).mono ?_
  rintro e w16 ⟨rfl, hb⟩
  have HX16 := Lib.hid (hb)
  have HB16 := Lib.hid (below_trans HB15.out HX16.out)
  clear hb
  go_wp2_with fail
  refine (HSM.out (w16.alloc (.cells #[.string (nd xa xb)] 9)) A4 (some ⟨w16.heap.size, 0, none⟩) c4 1 [nd xa xb] [nd xa xb] (below_alloc HB16.out _) (HS4.out.below (below_alloc (below_trans (below_trans (below_trans (below_trans (below_trans (below_trans (below_trans (below_trans (below_trans (below_trans (below_trans HX5.out HX6.out) HX7.out) HX8.out) HX9.out) HX10.out) HX11.out) HX12.out) HX13.out) HX14.out) HX15.out) HX16.out) _)) (Strs_new _ _ _ _ _ rfl rfl) (by simp) (by simp) rfl).mono ?_
  rintro e w17 ⟨rfl, hb⟩
  have HX17 := Lib.hid (below_trans (below_alloc (Below.refl _ _) _) hb)
  have HB17 := Lib.hid (below_trans HB16.out HX17.out)
  clear hb
  go_wp2_with fail
  refine (HSM.out (w17.alloc (.cells #[.string xb, .string xc] 9)) A5 (some ⟨w17.heap.size, 0, none⟩) c5 2 [xb, xc] [xb, xc] (below_alloc HB17.out _) (HS5.out.below (below_alloc (below_trans (below_trans (below_trans (below_trans (below_trans (below_trans (below_trans (below_trans (below_trans (below_trans (below_trans HX6.out HX7.out) HX8.out) HX9.out) HX10.out) HX11.out) HX12.out) HX13.out) HX14.out) HX15.out) HX16.out) HX17.out) _)) (Strs_new _ _ _ _ _ rfl rfl) (by simp) (by simp) rfl).mono ?_
  rintro e w18 ⟨rfl, hb⟩
  have HX18 := Lib.hid (below_trans (below_alloc (Below.refl _ _) _) hb)
  have HB18 := Lib.hid (below_trans HB17.out HX18.out)
  clear hb
  go_wp2_with fail
  refine (HSM.out (w18.alloc (.cells #[.string xc] 9)) A6 (some ⟨w18.heap.size, 0, none⟩) c6 1 [xc] [xc] (below_alloc HB18.out _) (HS6.out.below (below_alloc (below_trans (below_trans (below_trans (below_trans (below_trans (below_trans (below_trans (below_trans (below_trans (below_trans (below_trans HX7.out HX8.out) HX9.out) HX10.out) HX11.out) HX12.out) HX13.out) HX14.out) HX15.out) HX16.out) HX17.out) HX18.out) _)) (Strs_new _ _ _ _ _ rfl rfl) (by simp) (by simp) rfl).mono ?_
  rintro e w19 ⟨rfl, hb⟩
  have HX19 := Lib.hid (below_trans (below_alloc (Below.refl _ _) _) hb)
  have HB19 := Lib.hid (below_trans HB18.out HX19.out)
  clear hb
  go_wp2_with fail
  refine (HSM.out (w19.alloc (.cells #[.string xb, .string xc] 9)) A7 (some ⟨w19.heap.size, 0, none⟩) c7 2 [xb, xc] [xb, xc] (below_alloc HB19.out _) (HS7.out.below (below_alloc (below_trans (below_trans (below_trans (below_trans (below_trans (below_trans (below_trans (below_trans (below_trans (below_trans (below_trans HX8.out HX9.out) HX10.out) HX11.out) HX12.out) HX13.out) HX14.out) HX15.out) HX16.out) HX17.out) HX18.out) HX19.out) _)) (Strs_new _ _ _ _ _ rfl rfl) (by simp) (by simp) rfl).mono ?_
  rintro e w20 ⟨rfl, hb⟩
  have HX20 := Lib.hid (below_trans (below_alloc (Below.refl _ _) _) hb)
  have HB20 := Lib.hid (below_trans HB19.out HX20.out)
  clear hb
  have hs7 := HS7.out.below (below_trans (below_trans (below_trans (below_trans (below_trans (below_trans (below_trans (below_trans (below_trans (below_trans (below_trans (below_trans HX8.out HX9.out) HX10.out) HX11.out) HX12.out) HX13.out) HX14.out) HX15.out) HX16.out) HX17.out) HX18.out) HX19.out) HX20.out)
  have hs4 := HS4.out.below (below_trans (below_trans (below_trans (below_trans (below_trans (below_trans (below_trans (below_trans (below_trans (below_trans (below_trans (below_trans (below_trans (below_trans (below_trans HX5.out HX6.out) HX7.out) HX8.out) HX9.out) HX10.out) HX11.out) HX12.out) HX13.out) HX14.out) HX15.out) HX16.out) HX17.out) HX18.out) HX19.out) HX20.out)
  have HS47 := Lib.hid (And.intro hs4 hs7)
  clear hs4 hs7
  have hsm7 : sm [xb, xc] := fun s hs => by
    simp only [List.mem_cons, List.not_mem_nil, or_false] at hs
    rcases hs with rfl | rfl <;> omega
  have hsm4 : sm [nd xa xb] := fun s hs => by rw [List.mem_singleton.1 hs]; omega
  have HSM7 := Lib.hid hsm7
  have HSM4 := Lib.hid hsm4
  clear hsm7 hsm4
  have hn2 := nd_size (nd xa xb) xc
  go_wp2_with fail
  refine (HCK.out w20 A4 c4 [nd xa xb] (nd (nd xa xb) xc) xc 3 2 true chk1 HB20.out HS47.out.1 (by simp) (by omega) HSM4.out).mono ?_
  rintro e w21 ⟨rfl, hb⟩
  have HX21 := Lib.hid (hb)
  have HB21 := Lib.hid (below_trans HB20.out HX21.out)
  clear hb
  go_wp2_with fail
  refine (HCK.out w21 A4 c4 [nd xa xb] (nd (nd xa xb) xc) xb 3 2 false chk2 HB21.out (HS4.out.below (below_trans (below_trans (below_trans (below_trans (below_trans (below_trans (below_trans (below_trans (below_trans (below_trans (below_trans (below_trans (below_trans (below_trans (below_trans (below_trans HX5.out HX6.out) HX7.out) HX8.out) HX9.out) HX10.out) HX11.out) HX12.out) HX13.out) HX14.out) HX15.out) HX16.out) HX17.out) HX18.out) HX19.out) HX20.out) HX21.out)) (by simp) (by omega) HSM4.out).mono ?_
  rintro e w22 ⟨rfl, hb⟩
  have HX22 := Lib.hid (hb)
  have HB22 := Lib.hid (below_trans HB21.out HX22.out)
  clear hb
  go_wp2_with fail
  refine (HEX.out w22 A7 c7 [xb, xc] (nd (nd xa xb) xc) xa 3 1 true hxt1 HB22.out (HS7.out.below (below_trans (below_trans (below_trans (below_trans (below_trans (below_trans (below_trans (below_trans (below_trans (below_trans (below_trans (below_trans (below_trans (below_trans HX8.out HX9.out) HX10.out) HX11.out) HX12.out) HX13.out) HX14.out) HX15.out) HX16.out) HX17.out) HX18.out) HX19.out) HX20.out) HX21.out) HX22.out)) (by simp) (by omega) (by omega) HSM7.out).mono ?_
  rintro e w23 ⟨rfl, hb⟩
  have HX23 := Lib.hid (hb)
  have HB23 := Lib.hid (below_trans HB22.out HX23.out)
  clear hb
  go_wp2_with fail
  refine (HEX.out w23 A7 c7 [xb, xc] (nd (nd xa xb) xc) xb 3 1 false hxt2 HB23.out (HS7.out.below (below_trans (below_trans (below_trans (below_trans (below_trans (below_trans (below_trans (below_trans (below_trans (below_trans (below_trans (below_trans (below_trans (below_trans (below_trans HX8.out HX9.out) HX10.out) HX11.out) HX12.out) HX13.out) HX14.out) HX15.out) HX16.out) HX17.out) HX18.out) HX19.out) HX20.out) HX21.out) HX22.out) HX23.out)) (by simp) (by omega) (by omega) HSM7.out).mono ?_
  rintro e w24 ⟨rfl, hb⟩
  have HB24 := Lib.hid (below_trans HBL.out (below_trans HB23.out hb))
  clear hb
  go_wp2
  go_ret
  exact ⟨rfl, HB24.out⟩

end Go.Proofs.YtfmlhlliephlhaaGreatDoor
