/- The reference of layer 2: up, PathTexts. -/
import Derived.Test.YtbefcipeojahfaaGreatDoorTreePt02
import Derived.Test.YtbefcipeojahfaaGreatDoorTreeR02
namespace Go.Proofs.YtbefcipeojahfaaGreatDoor
open Go.RowKit

theorem own_base {w : World} {B B' e size n : Nat} {v : Value} {xs : List Value} (h : w.ownsRow B e size v n xs) (hb : B' ≤ B) : w.ownsRow B' e size v n xs := by
  refine ⟨h.1, ?_⟩
  rcases h.2 with h1 | ⟨g, cap, cur, e1, e2, e3⟩
  · exact .inl h1
  · exact .inr ⟨g, cap, cur, e1, Nat.le_trans hb e2, e3⟩

theorem ptx_len (n i : Nat) (s : ByteArray) (p : List ByteArray) : (ptx n i s p).length = plen n i := by
  induction n using Nat.strongRecOn generalizing i p with
  | _ n ih =>
    by_cases h2 : 2 ≤ n
    · have k1 := hf_lt n h2
      have k2 := hf_pos n
      by_cases hi : i < hf n
      · rw [ptx_lt n i s p h2 hi, plen_lt n i h2 hi, List.length_append, List.length_singleton, ih (hf n) k1]; omega
      · rw [ptx_ge n i s p h2 hi, plen_ge n i h2 hi, List.length_append, List.length_singleton, ih (n - hf n) (by omega)]; omega
    · rw [ptx_one n i s p h2, plen_one n i h2]; rfl

theorem rjoin3 (a b : ByteArray) (ha : a.size ≤ 200) (hb : b.size ≤ 200) (W : World) :
    Calls Tryz.prog 20 #[.slice (some ⟨W.heap.size, 0, none⟩) 3 3] (W.alloc (.cells #[.string ⟨#[110, 111, 100, 101]⟩, .string a, .string b] 9)) fun e w' => e = .returned (.string (jb [bNode, a, b])) ∧ Below W.heap.size W w' := by
  have := rjoined (some ⟨W.heap.size, 0, none⟩) 3 [bNode, a, b] (W.alloc (.cells #[.string ⟨#[110, 111, 100, 101]⟩, .string a, .string b] 9)) (Strs_new _ _ _ _ _ rfl rfl) (by simp) (by
    intro s hs
    simp only [List.mem_cons, List.not_mem_nil, or_false] at hs
    rcases hs with rfl | rfl | rfl
    · decide
    · exact ha
    · exact hb)
  exact this.mono fun _ _ ⟨he, hb⟩ => ⟨he, below_trans (below_alloc (Below.refl _ _) _) hb⟩

theorem last_parts (p : List ByteArray) (h : 1 ≤ p.length) (hsm : sm p) : ∃ m x, p.length = m + 1 ∧ p[m]? = some x ∧ p.getLastD ByteArray.empty = x ∧ p.dropLast.length = m ∧ x.size ≤ 200 := by
  obtain ⟨m, hm⟩ : ∃ m, p.length = m + 1 := ⟨p.length - 1, by omega⟩
  obtain ⟨x, hx⟩ := get_some p m (by omega)
  refine ⟨m, x, hm, hx, ?_, by rw [List.length_dropLast, hm]; rfl, hsm x (List.mem_of_getElem? hx)⟩
  rw [List.getLastD_eq_getLast?, List.getLast?_eq_getElem?, hm]
  simp only [Nat.add_sub_cancel, hx, Option.getD_some]

set_option maxRecDepth 100000 in
set_option maxHeartbeats 16000000 in
theorem rup_any (q : Nat) : ∀ (n i : Nat) (s : ByteArray) (A : Option Addr) (c : Nat) (p : List ByteArray) (w : World), n ≤ q → 1 ≤ n → n ≤ 1000000 → i < n → p.length = plen n i → p.length ≤ c → Strs w A p → sm p → s.size ≤ 200 →
    Calls Tryz.prog 47 #[.int .i64 n, .int .i64 i, .string s, .slice A p.length c] w fun e w' => e = .returned (.string (upv n i s p)) ∧ Below w.heap.size w w' := by
  induction q with
  | zero => intro n i s A c p w h1 h2; omega
  | succ q ih =>
    intro n i s A c p w hn h1 hbig hi hpl hcap hS hsm hs
    by_cases h2 : 2 ≤ n
    · have k1 := hf_lt n h2
      have k2 := hf_pos n
      have hpn := plen_lt_n n i h1
      obtain ⟨m, x, hm, hx, hlast, hdl, hxs⟩ := last_parts p (by have := plen_zero n i; omega) hsm
      obtain ⟨b, off, rfl, c1⟩ := hS.at_ hx
      have c1l := lt_of_cell c1
      have HC1 : Hid (∀ W, Below w.heap.size w W → W.cell? ⟨b, off + m, none⟩ = some (.string x)) := Lib.hid (fun W hW => kept_cell hW c1)
      have HU : Hid (∀ (n' i' : Nat) (W : World), n' < n → 1 ≤ n' → i' < n' → m = plen n' i' → Below w.heap.size w W → Calls Tryz.prog 47 #[.int .i64 n', .int .i64 i', .string s, .slice (some ⟨b, off, none⟩) m c] W fun e w' => e = .returned (.string (upv n' i' s p.dropLast)) ∧ Below W.heap.size W w') := Lib.hid (fun n' i' W g1 g2 g4 g5 hW => by
        have := ih n' i' s (some ⟨b, off, none⟩) c p.dropLast W (by omega) g2 (by omega) g4 (by rw [hdl]; exact g5) (by rw [hdl]; omega) (by rw [List.dropLast_eq_take]; exact (hS.below hW).take _) (by rw [List.dropLast_eq_take]; exact hsm.take _) hs
        rw [hdl] at this
        exact this)
      have HND : Hid (∀ (a b : ByteArray) (W : World), a.size ≤ 200 → b.size ≤ 200 → Below w.heap.size w W → Calls Tryz.prog 73 #[.string a, .string b] W fun e w' => e = .returned (.string (nd a b)) ∧ Below W.heap.size W w') := Lib.hid (fun a b W ha hb _ => rnode_any a b ha hb W)
      obtain ⟨k, hk⟩ : ∃ k, hf n = k := ⟨_, rfl⟩
      have HH := Lib.hid (rhalf_any n hbig w)
      rw [hk] at HH
      have hwr : IntKind.i64.wrap (((m + 1 : Nat) : Int) - 1) = (m : Int) := by rw [IntWalk.i64_in _ (by omega)]; omega
      have hn1 : ((n : Int) == 1) = false := by simp; omega
      have hn10 : (n == 1) = false := by simp; omega
      by_cases hik : i < hf n
      · have hst := upv_lt n i s p h2 hik
        rw [hlast] at hst
        have hpp := plen_lt n i h2 hik
        rw [hk] at hst hpp hik k1 k2
        rw [hst, hm]
        have hus := upv_size k i s p.dropLast hs
        have HUP : Hid (∀ (W : World), Below w.heap.size w W → Calls Tryz.prog 47 #[.int .i64 (k : Nat), .int .i64 (i : Nat), .string s, .slice (some ⟨b, off, none⟩) m c] W fun e w' => e = .returned (.string (upv k i s p.dropLast)) ∧ Below W.heap.size W w') := Lib.hid (fun W hW => HU.out k i W (by omega) (by omega) (by omega) (by omega) hW)
        have c1' := c1
        have HUS := Lib.hid hus
        have HXS := Lib.hid hxs
        generalize upv k i s p.dropLast = u at *
        clear hst hpp hlast hdl hx hS hsm hk h2 HU hus hxs hs hpl ih hpn c1
        rw [hm] at hcap
        clear hm
        generalize hK : m + 1 = K at *
        have hmK : m < K := by omega
        have hmc : (m : Int) ≤ (c : Int) := by omega
        have hmm : (m : Int) ≤ (K : Int) := by omega
        have hyi : (i : Int) < (k : Int) := by omega
        go_enter Tryz.func47, Tryz.ntmps47
        go_wp2_with fail
        refine HH.out.mono ?_
        rintro e _ ⟨rfl, rfl⟩
        go_wp2_with fail
        refine (HUP.out w (Below.refl _ _)).mono ?_
        rintro e w1 ⟨rfl, hb1⟩
        have HB1 := Lib.hid hb1
        clear hb1
        go_wp2_with fail
        refine (HND.out u x w1 HUS.out HXS.out HB1.out).mono ?_
        rintro e w2 ⟨rfl, hb2⟩
        have HB2 := Lib.hid (below_trans HB1.out hb2)
        clear hb2
        go_wp2
        go_ret
        exact ⟨rfl, HB2.out⟩
      · have hst := upv_ge n i s p h2 hik
        rw [hlast] at hst
        have hpp := plen_ge n i h2 hik
        rw [hk] at hst hpp hik k1 k2
        rw [hst, hm]
        have hus := upv_size (n - k) (i - k) s p.dropLast hs
        have HUP : Hid (∀ (W : World), Below w.heap.size w W → Calls Tryz.prog 47 #[.int .i64 ((n - k) : Nat), .int .i64 ((i - k) : Nat), .string s, .slice (some ⟨b, off, none⟩) m c] W fun e w' => e = .returned (.string (upv (n - k) (i - k) s p.dropLast)) ∧ Below W.heap.size W w') := Lib.hid (fun W hW => HU.out (n - k) (i - k) W (by omega) (by omega) (by omega) (by omega) hW)
        have c1' := c1
        have HUS := Lib.hid hus
        have HXS := Lib.hid hxs
        generalize upv (n - k) (i - k) s p.dropLast = u at *
        clear hst hpp hlast hdl hx hS hsm hk h2 HU hus hxs hs hpl ih hpn c1
        rw [hm] at hcap
        clear hm
        generalize hK : m + 1 = K at *
        have hmK : m < K := by omega
        have hmc : (m : Int) ≤ (c : Int) := by omega
        have hmm : (m : Int) ≤ (K : Int) := by omega
        have hni : ¬ (i : Int) < (k : Int) := by omega
        have e1 : (n : Int) - (k : Int) = ((n - k : Nat) : Int) := by omega
        have e2 : (i : Int) - (k : Int) = ((i - k : Nat) : Int) := by omega
        have HE1 := Lib.hid e1
        have HE2 := Lib.hid e2
        clear e1 e2
        go_enter Tryz.func47, Tryz.ntmps47
        go_wp2_with fail
        refine HH.out.mono ?_
        rintro e _ ⟨rfl, rfl⟩
        go_wp2_with fail
        rw [HE1.out, HE2.out]
        refine (HUP.out w (Below.refl _ _)).mono ?_
        rintro e w1 ⟨rfl, hb1⟩
        have HB1 := Lib.hid hb1
        clear hb1
        go_wp2_with fail
        refine (HND.out x u w1 HXS.out HUS.out HB1.out).mono ?_
        rintro e w2 ⟨rfl, hb2⟩
        have HB2 := Lib.hid (below_trans HB1.out hb2)
        clear hb2
        go_wp2
        go_ret
        exact ⟨rfl, HB2.out⟩
    · obtain rfl : n = 1 := by omega
      rw [upv_one 1 i s p (by omega)]
      clear ih hS hsm
      go_enter Tryz.func47, Tryz.ntmps47
      go_wp2
      go_ret
      exact ⟨rfl, Below.refl _ _⟩

set_option maxRecDepth 100000 in
set_option maxHeartbeats 16000000 in
theorem rptx_any (q : Nat) : ∀ (n i : Nat) (s : ByteArray) (A : Option Addr) (c : Nat) (p : List ByteArray) (w : World), n ≤ q → 1 ≤ n → n ≤ 1000000 → i < n → p.length = plen n i → p.length ≤ c → Strs w A p → sm p → s.size ≤ 200 →
    Calls Tryz.prog 23 #[.int .i64 n, .int .i64 i, .string s, .slice A p.length c] w fun e w' => ∃ v, e = .returned v ∧ w'.ownsRow w.heap.size 9 1 v (ptx n i s p).length ((ptx n i s p).map Value.string) ∧ Below w.heap.size w w' := by
  induction q with
  | zero => intro n i s A c p w h1 h2; omega
  | succ q ih =>
    intro n i s A c p w hn h1 hbig hi hpl hcap hS hsm hs
    by_cases h2 : 2 ≤ n
    · have k1 := hf_lt n h2
      have k2 := hf_pos n
      have hpn := plen_lt_n n i h1
      obtain ⟨m, x, hm, hx, hlast, hdl, hxs⟩ := last_parts p (by have := plen_zero n i; omega) hsm
      obtain ⟨b, off, rfl, c1⟩ := hS.at_ hx
      have c1l := lt_of_cell c1
      have HC1 : Hid (∀ W, Below w.heap.size w W → W.cell? ⟨b, off + m, none⟩ = some (.string x)) := Lib.hid (fun W hW => kept_cell hW c1)
      have HU : Hid (∀ (n' i' : Nat) (W : World), n' < n → 1 ≤ n' → i' < n' → m = plen n' i' → Below w.heap.size w W → Calls Tryz.prog 47 #[.int .i64 n', .int .i64 i', .string s, .slice (some ⟨b, off, none⟩) m c] W fun e w' => e = .returned (.string (upv n' i' s p.dropLast)) ∧ Below W.heap.size W w') := Lib.hid (fun n' i' W g1 g2 g4 g5 hW => by
        have := rup_any q n' i' s (some ⟨b, off, none⟩) c p.dropLast W (by omega) g2 (by omega) g4 (by rw [hdl]; exact g5) (by rw [hdl]; omega) (by rw [List.dropLast_eq_take]; exact (hS.below hW).take _) (by rw [List.dropLast_eq_take]; exact hsm.take _) hs
        rw [hdl] at this
        exact this)
      have HP : Hid (∀ (n' i' : Nat), n' < n → 1 ≤ n' → i' < n' → m = plen n' i' → Calls Tryz.prog 23 #[.int .i64 n', .int .i64 i', .string s, .slice (some ⟨b, off, none⟩) m c] w fun e w' => ∃ v, e = .returned v ∧ w'.ownsRow w.heap.size 9 1 v (ptx n' i' s p.dropLast).length ((ptx n' i' s p.dropLast).map Value.string) ∧ Below w.heap.size w w') := Lib.hid (fun n' i' g1 g2 g4 g5 => by
        have := ih n' i' s (some ⟨b, off, none⟩) c p.dropLast w (by omega) g2 (by omega) g4 (by rw [hdl]; exact g5) (by rw [hdl]; omega) (by rw [List.dropLast_eq_take]; exact hS.take _) (by rw [List.dropLast_eq_take]; exact hsm.take _) hs
        rw [hdl] at this
        exact this)
      have HND : Hid (∀ (a b : ByteArray) (W : World), a.size ≤ 200 → b.size ≤ 200 → Below w.heap.size w W → Calls Tryz.prog 73 #[.string a, .string b] W fun e w' => e = .returned (.string (nd a b)) ∧ Below W.heap.size W w') := Lib.hid (fun a b W ha hb _ => rnode_any a b ha hb W)
      obtain ⟨k, hk⟩ : ∃ k, hf n = k := ⟨_, rfl⟩
      have HH := Lib.hid (rhalf_any n hbig w)
      rw [hk] at HH
      have hwr : IntKind.i64.wrap (((m + 1 : Nat) : Int) - 1) = (m : Int) := by rw [IntWalk.i64_in _ (by omega)]; omega
      have hn1 : ((n : Int) == 1) = false := by simp; omega
      have hn10 : (n == 1) = false := by simp; omega
      by_cases hik : i < hf n
      · have hst := ptx_lt n i s p h2 hik
        rw [hlast] at hst
        have hpp := plen_lt n i h2 hik
        rw [hk] at hst hpp hik k1 k2
        rw [hst, hm]
        have hus := upv_size k i s p.dropLast hs
        have HUP : Hid (∀ (W : World), Below w.heap.size w W → Calls Tryz.prog 47 #[.int .i64 (k : Nat), .int .i64 (i : Nat), .string s, .slice (some ⟨b, off, none⟩) m c] W fun e w' => e = .returned (.string (upv k i s p.dropLast)) ∧ Below W.heap.size W w') := Lib.hid (fun W hW => HU.out k i W (by omega) (by omega) (by omega) (by omega) hW)
        have HPT := Lib.hid (HP.out k i (by omega) (by omega) (by omega) (by omega))
        have htl : (ptx k i s p.dropLast).length ≤ 1000000 := by rw [ptx_len]; omega
        have HTL := Lib.hid htl
        obtain ⟨ip, hj1, hy0, hy1, hy2⟩ := info_parts info_strg
        have HI := Lib.hid (And.intro hj1 (And.intro hy0 (And.intro hy1 hy2)))
        clear hj1 hy0 hy1 hy2 htl
        generalize ptx k i s p.dropLast = T at *
        have HJ : Hid (∀ W : World, Below w.heap.size w W → Calls Tryz.prog 20 #[.slice (some ⟨W.heap.size, 0, none⟩) 3 3] (W.alloc (.cells #[.string ⟨#[110, 111, 100, 101]⟩, .string (upv k i s p.dropLast), .string x] 9)) fun e w' => e = .returned (.string (jb [bNode, (upv k i s p.dropLast), x])) ∧ Below W.heap.size W w') := Lib.hid (fun W _ => rjoin3 _ x hus hxs W)
        have c1' := c1
        have HUS := Lib.hid hus
        have HXS := Lib.hid hxs
        generalize upv k i s p.dropLast = u at *
        generalize jb [bNode, u, x] = y at *
        clear hst hpp hlast hdl hx hS hsm hk h2 HU hus hxs hs hpl ih hpn c1 HP
        rw [hm] at hcap
        clear hm
        generalize hK : m + 1 = K at *
        have hmK : m < K := by omega
        have hmc : (m : Int) ≤ (c : Int) := by omega
        have hmm : (m : Int) ≤ (K : Int) := by omega
        have hyi : (i : Int) < (k : Int) := by omega
        go_enter Tryz.func23, Tryz.ntmps23
        go_wp2_with fail
        refine HH.out.mono ?_
        rintro e _ ⟨rfl, rfl⟩
        go_wp2_with fail
        refine HPT.out.mono ?_
        rintro e w1 ⟨v1, rfl, ho1, hb1⟩
        have HO1 := Lib.hid ho1
        have HB1 := Lib.hid hb1
        clear ho1
        go_wp2_with fail
        refine (HUP.out w1 HB1.out).mono ?_
        rintro e w2 ⟨rfl, hb2⟩
        have HB2 := Lib.hid (below_trans HB1.out hb2)
        have HO2 := Lib.hid (row_below HO1.out hb2)
        clear hb2
        go_wp2_with fail
        refine (HJ.out w2 HB2.out).mono ?_
        rintro e w3 ⟨rfl, hb3⟩
        have HB3 := Lib.hid (below_trans HB2.out hb3)
        have HO3 : Hid ((w3.alloc (.cells #[.string y] 9)).ownsRow w.heap.size 9 1 v1 T.length (T.map Value.string)) := Lib.hid (row_below (row_below HO2.out hb3) (below_alloc (Below.refl _ _) _))
        clear hb3
        go_wp2_with (at_builtin; refine wpList_app _ rfl (.tmp 34) (.tmp 43) 26 26 rfl w.heap.size 9 9 ip _ 1 16 Tryz.underlying26 Tryz.underlying26 HI.out.1 HI.out.2.1 HI.out.2.2.1 HI.out.2.2.2 rfl (by omega) v1 T.length _ rfl HO3.out (some ⟨w3.heap.size, 0, none⟩) 1 1 [.string y] rfl (Rd_new w3 #[.string y] _ 1 1 _ rfl rfl) (by simp [Value.oneCell']) (by have := HTL.out; simp only [maxLen]; omega) (by have := HTL.out; omega) (by have := HB3.out.size; simp; omega) ?_)
        intro v4 w4 hown4 hg4
        have HB4 : Hid (Below w.heap.size w w4) := Lib.hid ((below_alloc HB3.out _).grown hg4 (by have := HB3.out.size; simp; omega) (fun j hj => (HO3.out.lt j hj).1))
        have HO4 := Lib.hid hown4
        clear hown4 hg4
        go_wp2
        go_ret
        refine ⟨v4, rfl, ?_, HB4.out⟩
        have := HO4.out
        simpa using this
      · have hst := ptx_ge n i s p h2 hik
        rw [hlast] at hst
        have hpp := plen_ge n i h2 hik
        rw [hk] at hst hpp hik k1 k2
        rw [hst, hm]
        have hus := upv_size (n - k) (i - k) s p.dropLast hs
        have HUP : Hid (∀ (W : World), Below w.heap.size w W → Calls Tryz.prog 47 #[.int .i64 ((n - k) : Nat), .int .i64 ((i - k) : Nat), .string s, .slice (some ⟨b, off, none⟩) m c] W fun e w' => e = .returned (.string (upv (n - k) (i - k) s p.dropLast)) ∧ Below W.heap.size W w') := Lib.hid (fun W hW => HU.out (n - k) (i - k) W (by omega) (by omega) (by omega) (by omega) hW)
        have HPT := Lib.hid (HP.out (n - k) (i - k) (by omega) (by omega) (by omega) (by omega))
        have htl : (ptx (n - k) (i - k) s p.dropLast).length ≤ 1000000 := by rw [ptx_len]; omega
        have HTL := Lib.hid htl
        obtain ⟨ip, hj1, hy0, hy1, hy2⟩ := info_parts info_strg
        have HI := Lib.hid (And.intro hj1 (And.intro hy0 (And.intro hy1 hy2)))
        clear hj1 hy0 hy1 hy2 htl
        generalize ptx (n - k) (i - k) s p.dropLast = T at *
        have HJ : Hid (∀ W : World, Below w.heap.size w W → Calls Tryz.prog 20 #[.slice (some ⟨W.heap.size, 0, none⟩) 3 3] (W.alloc (.cells #[.string ⟨#[110, 111, 100, 101]⟩, .string x, .string (upv (n - k) (i - k) s p.dropLast)] 9)) fun e w' => e = .returned (.string (jb [bNode, x, (upv (n - k) (i - k) s p.dropLast)])) ∧ Below W.heap.size W w') := Lib.hid (fun W _ => rjoin3 x _ hxs hus W)
        have c1' := c1
        have HUS := Lib.hid hus
        have HXS := Lib.hid hxs
        generalize upv (n - k) (i - k) s p.dropLast = u at *
        generalize jb [bNode, x, u] = y at *
        clear hst hpp hlast hdl hx hS hsm hk h2 HU hus hxs hs hpl ih hpn c1 HP
        rw [hm] at hcap
        clear hm
        generalize hK : m + 1 = K at *
        have hmK : m < K := by omega
        have hmc : (m : Int) ≤ (c : Int) := by omega
        have hmm : (m : Int) ≤ (K : Int) := by omega
        have hni : ¬ (i : Int) < (k : Int) := by omega
        have e1 : (n : Int) - (k : Int) = ((n - k : Nat) : Int) := by omega
        have e2 : (i : Int) - (k : Int) = ((i - k : Nat) : Int) := by omega
        have HE1 := Lib.hid e1
        have HE2 := Lib.hid e2
        clear e1 e2
        go_enter Tryz.func23, Tryz.ntmps23
        go_wp2_with fail
        refine HH.out.mono ?_
        rintro e _ ⟨rfl, rfl⟩
        go_wp2_with fail
        rw [HE1.out, HE2.out]
        refine HPT.out.mono ?_
        rintro e w1 ⟨v1, rfl, ho1, hb1⟩
        have HO1 := Lib.hid ho1
        have HB1 := Lib.hid hb1
        clear ho1
        go_wp2_with fail
        rw [HE1.out, HE2.out]
        refine (HUP.out w1 HB1.out).mono ?_
        rintro e w2 ⟨rfl, hb2⟩
        have HB2 := Lib.hid (below_trans HB1.out hb2)
        have HO2 := Lib.hid (row_below HO1.out hb2)
        clear hb2
        go_wp2_with fail
        refine (HJ.out w2 HB2.out).mono ?_
        rintro e w3 ⟨rfl, hb3⟩
        have HB3 := Lib.hid (below_trans HB2.out hb3)
        have HO3 : Hid ((w3.alloc (.cells #[.string y] 9)).ownsRow w.heap.size 9 1 v1 T.length (T.map Value.string)) := Lib.hid (row_below (row_below HO2.out hb3) (below_alloc (Below.refl _ _) _))
        clear hb3
        go_wp2_with (at_builtin; refine wpList_app _ rfl (.tmp 53) (.tmp 66) 26 26 rfl w.heap.size 9 9 ip _ 1 16 Tryz.underlying26 Tryz.underlying26 HI.out.1 HI.out.2.1 HI.out.2.2.1 HI.out.2.2.2 rfl (by omega) v1 T.length _ rfl HO3.out (some ⟨w3.heap.size, 0, none⟩) 1 1 [.string y] rfl (Rd_new w3 #[.string y] _ 1 1 _ rfl rfl) (by simp [Value.oneCell']) (by have := HTL.out; simp only [maxLen]; omega) (by have := HTL.out; omega) (by have := HB3.out.size; simp; omega) ?_)
        intro v4 w4 hown4 hg4
        have HB4 : Hid (Below w.heap.size w w4) := Lib.hid ((below_alloc HB3.out _).grown hg4 (by have := HB3.out.size; simp; omega) (fun j hj => (HO3.out.lt j hj).1))
        have HO4 := Lib.hid hown4
        clear hown4 hg4
        go_wp2
        go_ret
        refine ⟨v4, rfl, ?_, HB4.out⟩
        have := HO4.out
        simpa using this
    · obtain rfl : n = 1 := by omega
      rw [ptx_one 1 i s p (by omega)]
      clear ih hS hsm
      go_enter Tryz.func23, Tryz.ntmps23
      go_wp2
      go_ret
      exact ⟨_, rfl, ⟨rfl, .inl ⟨rfl, rfl⟩⟩, Below.refl _ _⟩

end Go.Proofs.YtbefcipeojahfaaGreatDoor
