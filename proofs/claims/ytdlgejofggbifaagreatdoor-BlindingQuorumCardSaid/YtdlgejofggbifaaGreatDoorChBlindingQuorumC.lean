/- The reference of layer 2: up, PathTexts. The reference of the digest: Digit, Is. The reference of layer 2: digests, length, Leaf, Root, Check. Plain words of layer 2 that the laws share; an append that is guarded. Root, Check of the program; Leaves, Check of the reference. Plain: what a vault does. observatoryref07.Same and the examples of observatorylaw07.head. The examples of observatorylaw02.head: plain facts. The law SharesRecover: its walk. A share of a list is accepted at its place; what an accepted share says. The examples of observatorylaw52.head: plain facts; blinding and back. blinding: the vault. blinding: the vault's Open. Contracts of the helpers of observatorylaw07: element, made, chosen. Helpers of chapter 52's laws: same, path, made. observatorylaw52.head: the chapter's examples. A block of bools that the call made; a slice of bytes as an argument. The law BlindingQuorum: the walk. Arguments of chapter 7's laws: a share, a list of shares, a list of numbers. -/
import Derived.Test.YtdlgejofggbifaaGreatDoorChBlindingQuorumB
import Derived.StillTailTactics
import Derived.Deep.RegionHeld3
namespace Go.Proofs.YtdlgejofggbifaaGreatDoor

section
open Go.RowKit

theorem own_base {w : World} {B B' e size n : Nat} {v : Value} {xs : List Value} (h : w.ownsRow B e size v n xs) (hb : B' ≤ B) : w.ownsRow B' e size v n xs := by
  refine ⟨h.1, ?_⟩
  rcases h.2 with h1 | ⟨g, cap, cur, e1, e2, e3⟩
  · exact .inl h1
  · exact .inr ⟨g, cap, cur, e1, Nat.le_trans hb e2, e3⟩

theorem ptx_len (n i : Nat) (s : ByteArray) (p : List ByteArray) : (ptx n i s p).length = plen n i := by
  induction n using Nat.strongRecOn generalizing i p with
  | _ n ih =>
    by_cases h2 : 2 ≤ n
    · have k1 := hf_lt n h2
      have k2 := hf_pos n
      by_cases hi : i < hf n
      · rw [ptx_lt n i s p h2 hi, plen_lt n i h2 hi, List.length_append, List.length_singleton, ih (hf n) k1]; omega
      · rw [ptx_ge n i s p h2 hi, plen_ge n i h2 hi, List.length_append, List.length_singleton, ih (n - hf n) (by omega)]; omega
    · rw [ptx_one n i s p h2, plen_one n i h2]; rfl

theorem rjoin3 (a b : ByteArray) (ha : a.size ≤ 200) (hb : b.size ≤ 200) (W : World) :
    Calls Tryz.prog 32 #[.slice (some ⟨W.heap.size, 0, none⟩) 3 3] (W.alloc (.cells #[.string ⟨#[110, 111, 100, 101]⟩, .string a, .string b] 9)) fun e w' => e = .returned (.string (jb [bNode, a, b])) ∧ Below W.heap.size W w' := by
  have := rjoined (some ⟨W.heap.size, 0, none⟩) 3 [bNode, a, b] (W.alloc (.cells #[.string ⟨#[110, 111, 100, 101]⟩, .string a, .string b] 9)) (Strs_new _ _ _ _ _ rfl rfl) (by simp) (by
    intro s hs
    simp only [List.mem_cons, List.not_mem_nil, or_false] at hs
    rcases hs with rfl | rfl | rfl
    · decide
    · exact ha
    · exact hb)
  exact this.mono fun _ _ ⟨he, hb⟩ => ⟨he, below_trans (below_alloc (Below.refl _ _) _) hb⟩

theorem last_parts (p : List ByteArray) (h : 1 ≤ p.length) (hsm : sm p) : ∃ m x, p.length = m + 1 ∧ p[m]? = some x ∧ p.getLastD ByteArray.empty = x ∧ p.dropLast.length = m ∧ x.size ≤ 200 := by
  obtain ⟨m, hm⟩ : ∃ m, p.length = m + 1 := ⟨p.length - 1, by omega⟩
  obtain ⟨x, hx⟩ := get_some p m (by omega)
  refine ⟨m, x, hm, hx, ?_, by rw [List.length_dropLast, hm]; rfl, hsm x (List.mem_of_getElem? hx)⟩
  rw [List.getLastD_eq_getLast?, List.getLast?_eq_getElem?, hm]
  simp only [Nat.add_sub_cancel, hx, Option.getD_some]

set_option maxRecDepth 100000 in
set_option maxHeartbeats 16000000 in
theorem rup_any (q : Nat) : ∀ (n i : Nat) (s : ByteArray) (A : Option Addr) (c : Nat) (p : List ByteArray) (w : World), n ≤ q → 1 ≤ n → n ≤ 1000000 → i < n → p.length = plen n i → p.length ≤ c → Strs w A p → sm p → s.size ≤ 200 →
    Calls Tryz.prog 60 #[.int .i64 n, .int .i64 i, .string s, .slice A p.length c] w fun e w' => e = .returned (.string (upv n i s p)) ∧ Below w.heap.size w w' := by
  induction q with
  | zero => intro n i s A c p w h1 h2; omega
  | succ q ih =>
    intro n i s A c p w hn h1 hbig hi hpl hcap hS hsm hs
    by_cases h2 : 2 ≤ n
    · have k1 := hf_lt n h2
      have k2 := hf_pos n
      have hpn := plen_lt_n n i h1
      obtain ⟨m, x, hm, hx, hlast, hdl, hxs⟩ := last_parts p (by have := plen_zero n i; omega) hsm
      obtain ⟨b, off, rfl, c1⟩ := hS.at_ hx
      have c1l := lt_of_cell c1
      have HC1 : Hid (∀ W, Below w.heap.size w W → W.cell? ⟨b, off + m, none⟩ = some (.string x)) := Lib.hid (fun W hW => kept_cell hW c1)
      have HU : Hid (∀ (n' i' : Nat) (W : World), n' < n → 1 ≤ n' → i' < n' → m = plen n' i' → Below w.heap.size w W → Calls Tryz.prog 60 #[.int .i64 n', .int .i64 i', .string s, .slice (some ⟨b, off, none⟩) m c] W fun e w' => e = .returned (.string (upv n' i' s p.dropLast)) ∧ Below W.heap.size W w') := Lib.hid (fun n' i' W g1 g2 g4 g5 hW => by
        have := ih n' i' s (some ⟨b, off, none⟩) c p.dropLast W (by omega) g2 (by omega) g4 (by rw [hdl]; exact g5) (by rw [hdl]; omega) (by rw [List.dropLast_eq_take]; exact (hS.below hW).take _) (by rw [List.dropLast_eq_take]; exact hsm.take _) hs
        rw [hdl] at this
        exact this)
      have HND : Hid (∀ (a b : ByteArray) (W : World), a.size ≤ 200 → b.size ≤ 200 → Below w.heap.size w W → Calls Tryz.prog 85 #[.string a, .string b] W fun e w' => e = .returned (.string (nd a b)) ∧ Below W.heap.size W w') := Lib.hid (fun a b W ha hb _ => rnode_any a b ha hb W)
      obtain ⟨k, hk⟩ : ∃ k, hf n = k := ⟨_, rfl⟩
      have HH := Lib.hid (rhalf_any n hbig w)
      rw [hk] at HH
      have hwr : IntKind.i64.wrap (((m + 1 : Nat) : Int) - 1) = (m : Int) := by rw [IntWalk.i64_in _ (by omega)]; omega
      have hn1 : ((n : Int) == 1) = false := by simp; omega
      have hn10 : (n == 1) = false := by simp; omega
      by_cases hik : i < hf n
      · have hst := upv_lt n i s p h2 hik
        rw [hlast] at hst
        have hpp := plen_lt n i h2 hik
        rw [hk] at hst hpp hik k1 k2
        rw [hst, hm]
        have hus := upv_size k i s p.dropLast hs
        have HUP : Hid (∀ (W : World), Below w.heap.size w W → Calls Tryz.prog 60 #[.int .i64 (k : Nat), .int .i64 (i : Nat), .string s, .slice (some ⟨b, off, none⟩) m c] W fun e w' => e = .returned (.string (upv k i s p.dropLast)) ∧ Below W.heap.size W w') := Lib.hid (fun W hW => HU.out k i W (by omega) (by omega) (by omega) (by omega) hW)
        have c1' := c1
        have HUS := Lib.hid hus
        have HXS := Lib.hid hxs
        generalize upv k i s p.dropLast = u at *
        clear hst hpp hlast hdl hx hS hsm hk h2 HU hus hxs hs hpl ih hpn c1
        rw [hm] at hcap
        clear hm
        generalize hK : m + 1 = K at *
        have hmK : m < K := by omega
        have hmc : (m : Int) ≤ (c : Int) := by omega
        have hmm : (m : Int) ≤ (K : Int) := by omega
        have hyi : (i : Int) < (k : Int) := by omega
        go_enter Tryz.func60, Tryz.ntmps60
        go_wp2_with fail
        refine HH.out.mono ?_
        rintro e _ ⟨rfl, rfl⟩
        go_wp2_with fail
        refine (HUP.out w (Below.refl _ _)).mono ?_
        rintro e w1 ⟨rfl, hb1⟩
        have HB1 := Lib.hid hb1
        clear hb1
        go_wp2_with fail
        refine (HND.out u x w1 HUS.out HXS.out HB1.out).mono ?_
        rintro e w2 ⟨rfl, hb2⟩
        have HB2 := Lib.hid (below_trans HB1.out hb2)
        clear hb2
        go_wp2
        go_ret
        exact ⟨rfl, HB2.out⟩
      · have hst := upv_ge n i s p h2 hik
        rw [hlast] at hst
        have hpp := plen_ge n i h2 hik
        rw [hk] at hst hpp hik k1 k2
        rw [hst, hm]
        have hus := upv_size (n - k) (i - k) s p.dropLast hs
        have HUP : Hid (∀ (W : World), Below w.heap.size w W → Calls Tryz.prog 60 #[.int .i64 ((n - k) : Nat), .int .i64 ((i - k) : Nat), .string s, .slice (some ⟨b, off, none⟩) m c] W fun e w' => e = .returned (.string (upv (n - k) (i - k) s p.dropLast)) ∧ Below W.heap.size W w') := Lib.hid (fun W hW => HU.out (n - k) (i - k) W (by omega) (by omega) (by omega) (by omega) hW)
        have c1' := c1
        have HUS := Lib.hid hus
        have HXS := Lib.hid hxs
        generalize upv (n - k) (i - k) s p.dropLast = u at *
        clear hst hpp hlast hdl hx hS hsm hk h2 HU hus hxs hs hpl ih hpn c1
        rw [hm] at hcap
        clear hm
        generalize hK : m + 1 = K at *
        have hmK : m < K := by omega
        have hmc : (m : Int) ≤ (c : Int) := by omega
        have hmm : (m : Int) ≤ (K : Int) := by omega
        have hni : ¬ (i : Int) < (k : Int) := by omega
        have e1 : (n : Int) - (k : Int) = ((n - k : Nat) : Int) := by omega
        have e2 : (i : Int) - (k : Int) = ((i - k : Nat) : Int) := by omega
        have HE1 := Lib.hid e1
        have HE2 := Lib.hid e2
        clear e1 e2
        go_enter Tryz.func60, Tryz.ntmps60
        go_wp2_with fail
        refine HH.out.mono ?_
        rintro e _ ⟨rfl, rfl⟩
        go_wp2_with fail
        rw [HE1.out, HE2.out]
        refine (HUP.out w (Below.refl _ _)).mono ?_
        rintro e w1 ⟨rfl, hb1⟩
        have HB1 := Lib.hid hb1
        clear hb1
        go_wp2_with fail
        refine (HND.out x u w1 HXS.out HUS.out HB1.out).mono ?_
        rintro e w2 ⟨rfl, hb2⟩
        have HB2 := Lib.hid (below_trans HB1.out hb2)
        clear hb2
        go_wp2
        go_ret
        exact ⟨rfl, HB2.out⟩
    · obtain rfl : n = 1 := by omega
      rw [upv_one 1 i s p (by omega)]
      clear ih hS hsm
      go_enter Tryz.func60, Tryz.ntmps60
      go_wp2
      go_ret
      exact ⟨rfl, Below.refl _ _⟩

set_option maxRecDepth 100000 in
set_option maxHeartbeats 16000000 in
theorem rptx_any (q : Nat) : ∀ (n i : Nat) (s : ByteArray) (A : Option Addr) (c : Nat) (p : List ByteArray) (w : World), n ≤ q → 1 ≤ n → n ≤ 1000000 → i < n → p.length = plen n i → p.length ≤ c → Strs w A p → sm p → s.size ≤ 200 →
    Calls Tryz.prog 37 #[.int .i64 n, .int .i64 i, .string s, .slice A p.length c] w fun e w' => ∃ v, e = .returned v ∧ w'.ownsRow w.heap.size 9 1 v (ptx n i s p).length ((ptx n i s p).map Value.string) ∧ Below w.heap.size w w' := by
  induction q with
  | zero => intro n i s A c p w h1 h2; omega
  | succ q ih =>
    intro n i s A c p w hn h1 hbig hi hpl hcap hS hsm hs
    by_cases h2 : 2 ≤ n
    · have k1 := hf_lt n h2
      have k2 := hf_pos n
      have hpn := plen_lt_n n i h1
      obtain ⟨m, x, hm, hx, hlast, hdl, hxs⟩ := last_parts p (by have := plen_zero n i; omega) hsm
      obtain ⟨b, off, rfl, c1⟩ := hS.at_ hx
      have c1l := lt_of_cell c1
      have HC1 : Hid (∀ W, Below w.heap.size w W → W.cell? ⟨b, off + m, none⟩ = some (.string x)) := Lib.hid (fun W hW => kept_cell hW c1)
      have HU : Hid (∀ (n' i' : Nat) (W : World), n' < n → 1 ≤ n' → i' < n' → m = plen n' i' → Below w.heap.size w W → Calls Tryz.prog 60 #[.int .i64 n', .int .i64 i', .string s, .slice (some ⟨b, off, none⟩) m c] W fun e w' => e = .returned (.string (upv n' i' s p.dropLast)) ∧ Below W.heap.size W w') := Lib.hid (fun n' i' W g1 g2 g4 g5 hW => by
        have := rup_any q n' i' s (some ⟨b, off, none⟩) c p.dropLast W (by omega) g2 (by omega) g4 (by rw [hdl]; exact g5) (by rw [hdl]; omega) (by rw [List.dropLast_eq_take]; exact (hS.below hW).take _) (by rw [List.dropLast_eq_take]; exact hsm.take _) hs
        rw [hdl] at this
        exact this)
      have HP : Hid (∀ (n' i' : Nat), n' < n → 1 ≤ n' → i' < n' → m = plen n' i' → Calls Tryz.prog 37 #[.int .i64 n', .int .i64 i', .string s, .slice (some ⟨b, off, none⟩) m c] w fun e w' => ∃ v, e = .returned v ∧ w'.ownsRow w.heap.size 9 1 v (ptx n' i' s p.dropLast).length ((ptx n' i' s p.dropLast).map Value.string) ∧ Below w.heap.size w w') := Lib.hid (fun n' i' g1 g2 g4 g5 => by
        have := ih n' i' s (some ⟨b, off, none⟩) c p.dropLast w (by omega) g2 (by omega) g4 (by rw [hdl]; exact g5) (by rw [hdl]; omega) (by rw [List.dropLast_eq_take]; exact hS.take _) (by rw [List.dropLast_eq_take]; exact hsm.take _) hs
        rw [hdl] at this
        exact this)
      have HND : Hid (∀ (a b : ByteArray) (W : World), a.size ≤ 200 → b.size ≤ 200 → Below w.heap.size w W → Calls Tryz.prog 85 #[.string a, .string b] W fun e w' => e = .returned (.string (nd a b)) ∧ Below W.heap.size W w') := Lib.hid (fun a b W ha hb _ => rnode_any a b ha hb W)
      obtain ⟨k, hk⟩ : ∃ k, hf n = k := ⟨_, rfl⟩
      have HH := Lib.hid (rhalf_any n hbig w)
      rw [hk] at HH
      have hwr : IntKind.i64.wrap (((m + 1 : Nat) : Int) - 1) = (m : Int) := by rw [IntWalk.i64_in _ (by omega)]; omega
      have hn1 : ((n : Int) == 1) = false := by simp; omega
      have hn10 : (n == 1) = false := by simp; omega
      by_cases hik : i < hf n
      · have hst := ptx_lt n i s p h2 hik
        rw [hlast] at hst
        have hpp := plen_lt n i h2 hik
        rw [hk] at hst hpp hik k1 k2
        rw [hst, hm]
        have hus := upv_size k i s p.dropLast hs
        have HUP : Hid (∀ (W : World), Below w.heap.size w W → Calls Tryz.prog 60 #[.int .i64 (k : Nat), .int .i64 (i : Nat), .string s, .slice (some ⟨b, off, none⟩) m c] W fun e w' => e = .returned (.string (upv k i s p.dropLast)) ∧ Below W.heap.size W w') := Lib.hid (fun W hW => HU.out k i W (by omega) (by omega) (by omega) (by omega) hW)
        have HPT := Lib.hid (HP.out k i (by omega) (by omega) (by omega) (by omega))
        have htl : (ptx k i s p.dropLast).length ≤ 1000000 := by rw [ptx_len]; omega
        have HTL := Lib.hid htl
        obtain ⟨ip, hj1, hy0, hy1, hy2⟩ := info_parts info_strg
        have HI := Lib.hid (And.intro hj1 (And.intro hy0 (And.intro hy1 hy2)))
        clear hj1 hy0 hy1 hy2 htl
        generalize ptx k i s p.dropLast = T at *
        have HJ : Hid (∀ W : World, Below w.heap.size w W → Calls Tryz.prog 32 #[.slice (some ⟨W.heap.size, 0, none⟩) 3 3] (W.alloc (.cells #[.string ⟨#[110, 111, 100, 101]⟩, .string (upv k i s p.dropLast), .string x] 9)) fun e w' => e = .returned (.string (jb [bNode, (upv k i s p.dropLast), x])) ∧ Below W.heap.size W w') := Lib.hid (fun W _ => rjoin3 _ x hus hxs W)
        have c1' := c1
        have HUS := Lib.hid hus
        have HXS := Lib.hid hxs
        generalize upv k i s p.dropLast = u at *
        generalize jb [bNode, u, x] = y at *
        clear hst hpp hlast hdl hx hS hsm hk h2 HU hus hxs hs hpl ih hpn c1 HP
        rw [hm] at hcap
        clear hm
        generalize hK : m + 1 = K at *
        have hmK : m < K := by omega
        have hmc : (m : Int) ≤ (c : Int) := by omega
        have hmm : (m : Int) ≤ (K : Int) := by omega
        have hyi : (i : Int) < (k : Int) := by omega
        go_enter Tryz.func37, Tryz.ntmps37
        go_wp2_with fail
        refine HH.out.mono ?_
        rintro e _ ⟨rfl, rfl⟩
        go_wp2_with fail
        refine HPT.out.mono ?_
        rintro e w1 ⟨v1, rfl, ho1, hb1⟩
        have HO1 := Lib.hid ho1
        have HB1 := Lib.hid hb1
        clear ho1
        go_wp2_with fail
        refine (HUP.out w1 HB1.out).mono ?_
        rintro e w2 ⟨rfl, hb2⟩
        have HB2 := Lib.hid (below_trans HB1.out hb2)
        have HO2 := Lib.hid (row_below HO1.out hb2)
        clear hb2
        go_wp2_with fail
        refine (HJ.out w2 HB2.out).mono ?_
        rintro e w3 ⟨rfl, hb3⟩
        have HB3 := Lib.hid (below_trans HB2.out hb3)
        have HO3 : Hid ((w3.alloc (.cells #[.string y] 9)).ownsRow w.heap.size 9 1 v1 T.length (T.map Value.string)) := Lib.hid (row_below (row_below HO2.out hb3) (below_alloc (Below.refl _ _) _))
        clear hb3
        go_wp2_with (at_builtin; refine wpList_app _ rfl (.tmp 34) (.tmp 43) 46 46 rfl w.heap.size 9 9 ip _ 1 16 Tryz.underlying46 Tryz.underlying46 HI.out.1 HI.out.2.1 HI.out.2.2.1 HI.out.2.2.2 rfl (by omega) v1 T.length _ rfl HO3.out (some ⟨w3.heap.size, 0, none⟩) 1 1 [.string y] rfl (Rd_new w3 #[.string y] _ 1 1 _ rfl rfl) (by simp [Value.oneCell']) (by have := HTL.out; simp only [maxLen]; omega) (by have := HTL.out; omega) (by have := HB3.out.size; simp; omega) ?_)
        intro v4 w4 hown4 hg4
        have HB4 : Hid (Below w.heap.size w w4) := Lib.hid ((below_alloc HB3.out _).grown hg4 (by have := HB3.out.size; simp; omega) (fun j hj => (HO3.out.lt j hj).1))
        have HO4 := Lib.hid hown4
        clear hown4 hg4
        go_wp2
        go_ret
        refine ⟨v4, rfl, ?_, HB4.out⟩
        have := HO4.out
        simpa using this
      · have hst := ptx_ge n i s p h2 hik
        rw [hlast] at hst
        have hpp := plen_ge n i h2 hik
        rw [hk] at hst hpp hik k1 k2
        rw [hst, hm]
        have hus := upv_size (n - k) (i - k) s p.dropLast hs
        have HUP : Hid (∀ (W : World), Below w.heap.size w W → Calls Tryz.prog 60 #[.int .i64 ((n - k) : Nat), .int .i64 ((i - k) : Nat), .string s, .slice (some ⟨b, off, none⟩) m c] W fun e w' => e = .returned (.string (upv (n - k) (i - k) s p.dropLast)) ∧ Below W.heap.size W w') := Lib.hid (fun W hW => HU.out (n - k) (i - k) W (by omega) (by omega) (by omega) (by omega) hW)
        have HPT := Lib.hid (HP.out (n - k) (i - k) (by omega) (by omega) (by omega) (by omega))
        have htl : (ptx (n - k) (i - k) s p.dropLast).length ≤ 1000000 := by rw [ptx_len]; omega
        have HTL := Lib.hid htl
        obtain ⟨ip, hj1, hy0, hy1, hy2⟩ := info_parts info_strg
        have HI := Lib.hid (And.intro hj1 (And.intro hy0 (And.intro hy1 hy2)))
        clear hj1 hy0 hy1 hy2 htl
        generalize ptx (n - k) (i - k) s p.dropLast = T at *
        have HJ : Hid (∀ W : World, Below w.heap.size w W → Calls Tryz.prog 32 #[.slice (some ⟨W.heap.size, 0, none⟩) 3 3] (W.alloc (.cells #[.string ⟨#[110, 111, 100, 101]⟩, .string x, .string (upv (n - k) (i - k) s p.dropLast)] 9)) fun e w' => e = .returned (.string (jb [bNode, x, (upv (n - k) (i - k) s p.dropLast)])) ∧ Below W.heap.size W w') := Lib.hid (fun W _ => rjoin3 x _ hxs hus W)
        have c1' := c1
        have HUS := Lib.hid hus
        have HXS := Lib.hid hxs
        generalize upv (n - k) (i - k) s p.dropLast = u at *
        generalize jb [bNode, x, u] = y at *
        clear hst hpp hlast hdl hx hS hsm hk h2 HU hus hxs hs hpl ih hpn c1 HP
        rw [hm] at hcap
        clear hm
        generalize hK : m + 1 = K at *
        have hmK : m < K := by omega
        have hmc : (m : Int) ≤ (c : Int) := by omega
        have hmm : (m : Int) ≤ (K : Int) := by omega
        have hni : ¬ (i : Int) < (k : Int) := by omega
        have e1 : (n : Int) - (k : Int) = ((n - k : Nat) : Int) := by omega
        have e2 : (i : Int) - (k : Int) = ((i - k : Nat) : Int) := by omega
        have HE1 := Lib.hid e1
        have HE2 := Lib.hid e2
        clear e1 e2
        go_enter Tryz.func37, Tryz.ntmps37
        go_wp2_with fail
        refine HH.out.mono ?_
        rintro e _ ⟨rfl, rfl⟩
        go_wp2_with fail
        rw [HE1.out, HE2.out]
        refine HPT.out.mono ?_
        rintro e w1 ⟨v1, rfl, ho1, hb1⟩
        have HO1 := Lib.hid ho1
        have HB1 := Lib.hid hb1
        clear ho1
        go_wp2_with fail
        rw [HE1.out, HE2.out]
        refine (HUP.out w1 HB1.out).mono ?_
        rintro e w2 ⟨rfl, hb2⟩
        have HB2 := Lib.hid (below_trans HB1.out hb2)
        have HO2 := Lib.hid (row_below HO1.out hb2)
        clear hb2
        go_wp2_with fail
        refine (HJ.out w2 HB2.out).mono ?_
        rintro e w3 ⟨rfl, hb3⟩
        have HB3 := Lib.hid (below_trans HB2.out hb3)
        have HO3 : Hid ((w3.alloc (.cells #[.string y] 9)).ownsRow w.heap.size 9 1 v1 T.length (T.map Value.string)) := Lib.hid (row_below (row_below HO2.out hb3) (below_alloc (Below.refl _ _) _))
        clear hb3
        go_wp2_with (at_builtin; refine wpList_app _ rfl (.tmp 53) (.tmp 66) 46 46 rfl w.heap.size 9 9 ip _ 1 16 Tryz.underlying46 Tryz.underlying46 HI.out.1 HI.out.2.1 HI.out.2.2.1 HI.out.2.2.2 rfl (by omega) v1 T.length _ rfl HO3.out (some ⟨w3.heap.size, 0, none⟩) 1 1 [.string y] rfl (Rd_new w3 #[.string y] _ 1 1 _ rfl rfl) (by simp [Value.oneCell']) (by have := HTL.out; simp only [maxLen]; omega) (by have := HTL.out; omega) (by have := HB3.out.size; simp; omega) ?_)
        intro v4 w4 hown4 hg4
        have HB4 : Hid (Below w.heap.size w w4) := Lib.hid ((below_alloc HB3.out _).grown hg4 (by have := HB3.out.size; simp; omega) (fun j hj => (HO3.out.lt j hj).1))
        have HO4 := Lib.hid hown4
        clear hown4 hg4
        go_wp2
        go_ret
        refine ⟨v4, rfl, ?_, HB4.out⟩
        have := HO4.out
        simpa using this
    · obtain rfl : n = 1 := by omega
      rw [ptx_one 1 i s p (by omega)]
      clear ih hS hsm
      go_enter Tryz.func37, Tryz.ntmps37
      go_wp2
      go_ret
      exact ⟨_, rfl, ⟨rfl, .inl ⟨rfl, rfl⟩⟩, Below.refl _ _⟩
end

section
open Go.RowKit

def digv (c : UInt8) : Int := if 48 ≤ c.toNat ∧ c.toNat ≤ 57 then c.toNat - 48 else if 97 ≤ c.toNat ∧ c.toNat ≤ 102 then c.toNat - 87 else -1
theorem rdigit (c : UInt8) (w : World) : Calls Tryz.prog 74 #[.int .u8 c.toNat] w fun e w' => e = .returned (.int .i64 (digv c)) ∧ w = w' := by
  have hc := c.toNat_lt
  unfold digv
  obtain ⟨x, hx⟩ : ∃ x, c.toNat = x := ⟨_, rfl⟩
  rw [hx] at hc ⊢
  clear hx
  by_cases h1 : 48 ≤ x
  · by_cases h2 : x ≤ 57
    · go_enter Tryz.func74, Tryz.ntmps74
      go_wp2
      go_ret
      exact ⟨ret_int (by omega), rfl⟩
    · by_cases h3 : 97 ≤ x
      · by_cases h4 : x ≤ 102
        · go_enter Tryz.func74, Tryz.ntmps74
          go_wp2
          go_ret
          exact ⟨ret_int (by omega), rfl⟩
        · go_enter Tryz.func74, Tryz.ntmps74
          go_wp2
          go_ret
          exact ⟨ret_int (by omega), rfl⟩
      · go_enter Tryz.func74, Tryz.ntmps74
        go_wp2
        go_ret
        exact ⟨ret_int (by omega), rfl⟩
  · have h3 : ¬ 97 ≤ x := by omega
    go_enter Tryz.func74, Tryz.ntmps74
    go_wp2
    go_ret
    exact ⟨ret_int (by omega), rfl⟩

/-! ### Is -/
set_option maxRecDepth 100000 in
theorem digv_hex (c : UInt8) : decide (digv c < 0) = !hexs.data.toList.contains c := by
  have key : ((List.range 256).all fun n => decide (digv (UInt8.ofNat n) < 0) == !hexs.data.toList.contains (UInt8.ofNat n)) = true := by decide
  have h := List.all_eq_true.1 key c.toNat (List.mem_range.2 c.toNat_lt)
  rw [UInt8.ofNat_toNat] at h
  exact beq_iff_eq.1 h
theorem isD_size {t : ByteArray} (h : t.size ≠ 16) : isD t = false := by
  rw [isD, decide_eq_false h]; rfl
theorem isD_bad {t : ByteArray} {k : Nat} (h : k < t.size) (hd : hexs.data.toList.contains t[k] = false) : isD t = false := by
  have hm : t[k] ∈ t.data.toList := by
    show t.data[k] ∈ t.data.toList
    simp
  have : t.data.toList.all (hexs.data.toList.contains ·) = false := by
    rw [List.all_eq_false]
    exact ⟨_, hm, by rw [hd]; exact Bool.false_ne_true⟩
  rw [isD, this, Bool.and_false]

set_option maxRecDepth 100000 in
set_option maxHeartbeats 2000000 in
theorem ris (t : ByteArray) (ht : t.size ≤ 1000000000) (w : World) :
    Calls Tryz.prog 46 #[.string t] w fun e w' => e = .returned (.bool (isD t)) ∧ w = w' := by
  go_enter Tryz.func46, Tryz.ntmps46
  go_wp2_with fail
  go_loop [3] (fun u => ∃ k : Nat, k ≤ t.size ∧ k ≤ 16 ∧ u = .int .i64 k ∧ (t.data.toList.take k).all (hexs.data.toList.contains ·) = true) (fun u => t.size - (intOf u).toNat)
  case atStart => exact ⟨0, Nat.zero_le _, Nat.zero_le _, rfl, rfl⟩
  case round =>
  obtain ⟨k, hk, hk16, rfl, hall⟩ := hrel
  have HALL := Lib.hid hall
  clear hall
  by_cases hlt : k < t.size
  · by_cases h16 : k < 16
    · obtain ⟨c, hc⟩ : ∃ c, t[k] = c := ⟨_, rfl⟩
      have HR := Lib.hid (rdigit c w)
      obtain ⟨v, hv⟩ : ∃ v, digv c = v := ⟨_, rfl⟩
      have HX := Lib.hid (digv_hex c)
      rw [hv] at HR HX
      have HC := Lib.hid hc
      have hck : t.data.toList[k]? = some c := by
        rw [List.getElem?_eq_getElem (by simpa using hlt)]
        exact congrArg some hc
      have HCK := Lib.hid hck
      clear hv hc hck
      go_wp2_with fail
      rw [HC.out]
      refine HR.out.mono ?_
      rintro e w1 ⟨rfl, rfl⟩
      by_cases hneg : v < 0
      · have HB : Hid (isD t = false) := Lib.hid (isD_bad hlt (by have := HX.out; rw [decide_eq_true hneg] at this; rw [HC.out]; simpa using this.symm))
        go_wp2
        go_ret
        exact ⟨ret_bool HB.out.symm, rfl⟩
      · have HG : Hid (hexs.data.toList.contains c = true) := Lib.hid (by have := HX.out; rw [decide_eq_false hneg] at this; simpa using this.symm)
        go_wp2_with fail
        go_round
        case rel => exact ⟨k + 1, by omega, by omega, by go_num, by rw [take_snoc _ _ _ HCK.out, List.all_append, HALL.out, List.all_cons, HG.out]; rfl⟩
        case measure => simp [intOf]; omega
    · obtain rfl : k = 16 := by omega
      by_cases hz : t.size = 16
      · exact absurd hz (by omega)
      · have HB := Lib.hid (isD_size hz)
        go_wp2
        go_ret
        exact ⟨ret_bool (by rw [HB.out]; simp; omega), rfl⟩
  · obtain rfl : k = t.size := by omega
    rw [List.take_of_length_le (show t.data.toList.length ≤ t.size from Nat.le_refl _)] at HALL
    by_cases hz : t.size = 16
    · have HB : Hid (isD t = true) := Lib.hid (by rw [isD, decide_eq_true hz, HALL.out]; rfl)
      go_wp2
      go_ret
      exact ⟨ret_bool (by rw [HB.out]), rfl⟩
    · have HB := Lib.hid (isD_size hz)
      go_wp2
      go_ret
      exact ⟨ret_bool (by rw [HB.out]; simp; omega), rfl⟩
end

section
open Go.RowKit

set_option maxHeartbeats 4000000 in
theorem rdig_any (A : Option Addr) (c : Nat) (l : List ByteArray) (w : World) (h : Strs w A l) (hl : l.length ≤ 9223372036854775807) (hs : ∀ s ∈ l, s.size ≤ 1000000000) :
    Calls Tryz.prog 82 #[.slice A l.length c] w fun e w' => e = .returned (.bool (allD l)) ∧ w = w' := by
  have H := Lib.hid h
  have HSZ := Lib.hid hs
  have HIS := Lib.hid (fun (t : ByteArray) (ht : t.size ≤ 1000000000) => ris t ht w)
  clear h hs
  go_enter Tryz.func82, Tryz.ntmps82
  go_wp2_with fail
  go_loop [3] (fun u => ∃ k : Nat, k ≤ l.length ∧ u = .int .i64 k ∧ allD (l.take k) = true) (fun u => l.length - (intOf u).toNat)
  case atStart => exact ⟨0, Nat.zero_le _, rfl, rfl⟩
  case round =>
    obtain ⟨k, hk, rfl, hall⟩ := hrel
    have HALL := Lib.hid hall
    clear hall
    by_cases hlt : k < l.length
    · obtain ⟨s, hs⟩ := get_some l k hlt
      obtain ⟨b, off, rfl, c0⟩ := H.out.at_ hs
      have c0l := lt_of_cell c0
      have hmem : s ∈ l := List.mem_of_getElem? hs
      have HC := Lib.hid (HIS.out s (HSZ.out s hmem))
      have hall2 : allD (l.take (k + 1)) = isD s := by
        have := all_take_succ isD l k s hs
        have h2 := HALL.out
        unfold allD at h2 ⊢
        rw [this, h2, Bool.true_and]
      have HA2 := Lib.hid hall2
      have hbad : isD s = false → allD l = false := fun h => by
        unfold allD
        rw [List.all_eq_false]
        exact ⟨s, hmem, by simp [h]⟩
      have HBAD := Lib.hid hbad
      clear hs hall2 hbad hmem
      obtain ⟨v, hv⟩ : ∃ v, isD s = v := ⟨_, rfl⟩
      rw [hv] at HC HA2 HBAD
      clear hv
      cases v with
      | true =>
        go_wp2_with fail
        refine HC.out.mono ?_
        rintro e _ ⟨rfl, rfl⟩
        go_wp2
        go_round
        case rel => exact ⟨k + 1, by omega, by go_num, HA2.out⟩
        case measure => simp [intOf]; omega
      | false =>
        have HBD := Lib.hid (HBAD.out rfl)
        clear HBAD HA2
        go_wp2_with fail
        refine HC.out.mono ?_
        rintro e _ ⟨rfl, rfl⟩
        go_wp2
        go_ret
        exact ⟨ret_bool HBD.out.symm, rfl⟩
    · obtain rfl : k = l.length := by omega
      rw [List.take_length] at HALL
      go_wp2
      go_ret
      exact ⟨ret_bool HALL.out.symm, rfl⟩

set_option maxHeartbeats 4000000 in
theorem rlen_any (q : Nat) : ∀ (n i : Nat) (w : World), n ≤ q → 1 ≤ n → n ≤ 1000000 → i < n →
    Calls Tryz.prog 81 #[.int .i64 n, .int .i64 i] w fun e w' => e = .returned (.int .i64 (plen n i)) ∧ w = w' := by
  induction q with
  | zero => intro n i w h1 h2; omega
  | succ q ih =>
    intro n i w hn h1 hbig hi
    by_cases h2 : 2 ≤ n
    · have k1 := hf_lt n h2
      have k2 := hf_pos n
      have hpn := plen_lt_n n i h1
      obtain ⟨k, hk⟩ : ∃ k, hf n = k := ⟨_, rfl⟩
      have HH := Lib.hid (rhalf_any n hbig w)
      have h3 := plen_lt n i h2
      have h4 := plen_ge n i h2
      rw [hk] at HH k1 k2 h3 h4
      have hn1 : ((n : Int) == 1) = false := by simp; omega
      by_cases hik : i < k
      · have HI := Lib.hid (ih k i w (by omega) k2 (by omega) hik)
        rw [h3 hik] at hpn ⊢
        have hyi : (i : Int) < (k : Int) := by omega
        clear ih h3 h4 hk
        generalize plen k i = z at *
        go_enter Tryz.func81, Tryz.ntmps81
        go_wp2_with fail
        refine HH.out.mono ?_
        rintro e _ ⟨rfl, rfl⟩
        go_wp2_with fail
        refine HI.out.mono ?_
        rintro e _ ⟨rfl, rfl⟩
        go_wp2
        go_ret
        exact ⟨ret_int (by go_num), rfl⟩
      · have HI := Lib.hid (ih (n - k) (i - k) w (by omega) (by omega) (by omega) (by omega))
        rw [h4 hik] at hpn ⊢
        have hni : ¬ (i : Int) < (k : Int) := by omega
        have e1 : (n : Int) - (k : Int) = ((n - k : Nat) : Int) := by omega
        have e2 : (i : Int) - (k : Int) = ((i - k : Nat) : Int) := by omega
        have HE1 := Lib.hid e1
        have HE2 := Lib.hid e2
        clear ih h3 h4 hk e1 e2
        generalize plen (n - k) (i - k) = z at *
        go_enter Tryz.func81, Tryz.ntmps81
        go_wp2_with fail
        refine HH.out.mono ?_
        rintro e _ ⟨rfl, rfl⟩
        go_wp2_with fail
        rw [HE1.out, HE2.out]
        refine HI.out.mono ?_
        rintro e _ ⟨rfl, rfl⟩
        go_wp2
        go_ret
        exact ⟨ret_int (by go_num), rfl⟩
    · obtain rfl : n = 1 := by omega
      rw [plen_one 1 i (by omega)]
      clear ih
      go_enter Tryz.func81, Tryz.ntmps81
      go_wp2
      go_ret
      exact ⟨rfl, rfl⟩

theorem rleaf_any (a : ByteArray) (ha : a.size ≤ 200) (w : World) :
    Calls Tryz.prog 38 #[.string a] w fun e w' => e = .returned (.string (lf a)) ∧ Below w.heap.size w w' := by
  have HL := Lib.hid (rlist (some ⟨w.heap.size, 0, none⟩) 2 [bLeaf, a] (w.alloc (.cells #[.string bLeaf, .string a] 9)) (Strs_new _ _ _ _ _ rfl rfl) (by simp) (by
    intro s hs
    simp only [List.mem_cons, List.not_mem_nil, or_false] at hs
    rcases hs with rfl | rfl
    · decide
    · exact ha))
  unfold bLeaf at HL
  go_enter Tryz.func38, Tryz.ntmps38
  go_wp2_with fail
  refine HL.out.mono ?_
  rintro e w1 ⟨rfl, hb1⟩
  have HB1 := Lib.hid (below_trans (below_alloc (Below.refl _ _) _) hb1)
  clear hb1
  go_wp2
  go_ret
  exact ⟨rfl, HB1.out⟩



set_option maxHeartbeats 8000000 in
theorem rcheck_any (root : ByteArray) (n i : Int) (leaf : ByteArray) (A : Option Addr) (c : Nat) (p : List ByteArray) (w : World) (hS : Strs w A p) (hbig : p.length ≤ 1000000) (hcap : p.length ≤ c) (hleaf : leaf.size ≤ 200) (hsm : sm p) :
    Calls Tryz.prog 55 #[.string root, .int .i64 n, .int .i64 i, .string leaf, .slice A p.length c] w fun e w' => e = .returned (.bool (chkB root n i leaf p)) ∧ Below w.heap.size w w' := by
  have hno : ¬ (n ≤ 1000000 ∧ 0 ≤ i ∧ i < n) → chkB root n i leaf p = false := fun h => by unfold chkB; rw [decide_eq_false h]; simp
  have HNO := Lib.hid hno
  clear hno
  by_cases h1 : 1000000 < n
  · have hres := HNO.out (by omega)
    have hd1 : decide (1000000 < n) = true := decide_eq_true h1
    have HRES := Lib.hid hres
    clear hS hsm hres
    go_enter Tryz.func55, Tryz.ntmps55
    go_wp2
    go_ret
    exact ⟨ret_bool (HRES.out).symm, Below.refl _ _⟩
  have hd1 : decide (1000000 < n) = false := decide_eq_false h1
  by_cases h2 : i < 0
  · have HRES := Lib.hid (HNO.out (by omega))
    have hd2 : decide (i < 0) = true := decide_eq_true h2
    clear hS hsm
    go_enter Tryz.func55, Tryz.ntmps55
    go_wp2
    go_ret
    exact ⟨ret_bool (HRES.out).symm, Below.refl _ _⟩
  have hd2 : decide (i < 0) = false := decide_eq_false h2
  by_cases h3 : n ≤ i
  · have HRES := Lib.hid (HNO.out (by omega))
    have hd3 : decide (n ≤ i) = true := decide_eq_true h3
    clear hS hsm
    go_enter Tryz.func55, Tryz.ntmps55
    go_wp2
    go_ret
    exact ⟨ret_bool (HRES.out).symm, Below.refl _ _⟩
  obtain ⟨N, rfl⟩ : ∃ N : Nat, n = N := ⟨n.toNat, by omega⟩
  obtain ⟨I, rfl⟩ : ∃ I : Nat, i = I := ⟨i.toNat, by omega⟩
  have hd3 : decide (N ≤ I) = false := decide_eq_false (by omega)
  have hd4 : decide ((N : Int) ≤ (I : Int)) = false := decide_eq_false (by omega)
  have hd5 : decide (1000000 < N) = false := decide_eq_false (by omega)
  have HLEN := Lib.hid (rlen_any N N I w (Nat.le_refl _) (by omega) (by omega) (by omega))
  have HDG := Lib.hid (rdig_any A c p w hS (by omega) (fun s hs => by have := hsm s hs; omega))
  have HIS := Lib.hid (ris leaf (by omega) w)
  have hval : chkB root (N : Int) (I : Int) leaf p = (allD p && isD leaf && (decide (upv N I leaf p = root) && decide (p.length = plen N I))) := by
    unfold chkB
    rw [decide_eq_true (⟨by omega, by omega, by omega⟩ : (N : Int) ≤ 1000000 ∧ (0 : Int) ≤ I ∧ (I : Int) < N), Bool.true_and, Int.toNat_natCast, Int.toNat_natCast]
  have HUP : Hid (p.length = plen N I → Calls Tryz.prog 60 #[.int .i64 N, .int .i64 I, .string leaf, .slice A p.length c] w fun e w' => e = .returned (.string (upv N I leaf p)) ∧ Below w.heap.size w w') := Lib.hid (fun h => rup_any N N I leaf A c p w (Nat.le_refl _) (by omega) (by omega) (by omega) h hcap hS hsm hleaf)
  rw [hval]
  clear hS hsm HNO hval
  generalize upv N I leaf p = u at *
  generalize allD p = dp at *
  generalize isD leaf = dl at *
  obtain ⟨z, hz⟩ : ∃ z, plen N I = z := ⟨_, rfl⟩
  rw [hz] at HLEN HUP ⊢
  clear hz
  generalize p.length = m at *
  by_cases hlen : m = z
  case neg =>
    have hne : ((m : Int) == (z : Int)) = false := by simp; omega
    have hne0 : (m == z) = false := by simp; omega
    have hbn : ((m : Int) != (z : Int)) = true := by rw [bne, hne]; rfl
    have hres : (dp && dl && (decide (u = root) && decide (m = z))) = false := by rw [decide_eq_false hlen]; simp
    have HRES := Lib.hid hres
    clear hres
    go_enter Tryz.func55, Tryz.ntmps55
    go_wp2_with fail
    refine HLEN.out.mono ?_
    rintro e _ ⟨rfl, rfl⟩
    go_wp2
    go_ret
    exact ⟨ret_bool (HRES.out).symm, Below.refl _ _⟩
  case pos =>
  subst hlen
  have HUP1 := Lib.hid (HUP.out rfl)
  clear HUP
  rw [decide_eq_true (rfl : m = m), Bool.and_true]
  cases dp
  case false =>
    rw [Bool.false_and, Bool.false_and]
    go_enter Tryz.func55, Tryz.ntmps55
    go_wp2_with fail
    refine HLEN.out.mono ?_
    rintro e _ ⟨rfl, rfl⟩
    go_wp2_with fail
    refine HDG.out.mono ?_
    rintro e _ ⟨rfl, rfl⟩
    go_wp2
    go_ret
    exact ⟨rfl, Below.refl _ _⟩
  case true =>
  cases dl
  case false =>
    rw [Bool.true_and, Bool.false_and]
    go_enter Tryz.func55, Tryz.ntmps55
    go_wp2_with fail
    refine HLEN.out.mono ?_
    rintro e _ ⟨rfl, rfl⟩
    go_wp2_with fail
    refine HDG.out.mono ?_
    rintro e _ ⟨rfl, rfl⟩
    go_wp2_with fail
    refine HIS.out.mono ?_
    rintro e _ ⟨rfl, rfl⟩
    go_wp2
    go_ret
    exact ⟨rfl, Below.refl _ _⟩
  case true =>
  rw [Bool.true_and, Bool.true_and]
  by_cases hu : u = root
  case pos =>
    subst hu
    have t1 := beq_true u
    rw [decide_eq_true rfl]
    go_enter Tryz.func55, Tryz.ntmps55
    go_wp2_with fail
    refine HLEN.out.mono ?_
    rintro e _ ⟨rfl, rfl⟩
    go_wp2_with fail
    refine HDG.out.mono ?_
    rintro e _ ⟨rfl, rfl⟩
    go_wp2_with fail
    refine HIS.out.mono ?_
    rintro e _ ⟨rfl, rfl⟩
    go_wp2_with fail
    refine HUP1.out.mono ?_
    rintro e w1 ⟨rfl, hb1⟩
    have HB1 := Lib.hid hb1
    clear hb1
    go_wp2
    go_ret
    exact ⟨rfl, HB1.out⟩
  case neg =>
  obtain ⟨t1, t2⟩ := bne_of u root hu
  rw [decide_eq_false hu]
  go_enter Tryz.func55, Tryz.ntmps55
  go_wp2_with fail
  refine HLEN.out.mono ?_
  rintro e _ ⟨rfl, rfl⟩
  go_wp2_with fail
  refine HDG.out.mono ?_
  rintro e _ ⟨rfl, rfl⟩
  go_wp2_with fail
  refine HIS.out.mono ?_
  rintro e _ ⟨rfl, rfl⟩
  go_wp2_with fail
  refine HUP1.out.mono ?_
  rintro e w1 ⟨rfl, hb1⟩
  have HB1 := Lib.hid hb1
  clear hb1
  go_wp2
  go_ret
  exact ⟨rfl, HB1.out⟩
end

section
open Go.RowKit

theorem wpList_appG {P : Program} (w : World) {ops : Array Oper} {rest : List Oper} {o : Oper} {a : Act} {Q : Exit → Act → World → Prop} (hw : Region.wanted o (yielded ops a.tmps) = true) (s x : Operand) (t t2 : TypeId)
    (ho : o.op = .call { callee := .builtin .append, args := #[s, x], argTypes := #[t, t2] })
    (base : Nat) (e e2 : TypeId) (i : TypeInfo) (z : Value) (size bytes : Nat) (ht : P.underlying t = some (.slice e)) (ht2 : P.underlying t2 = some (.slice e2)) (hi : P.info? e = some i) (hz : i.zero = some z)
    (hsize : i.size = size) (hby : i.bytes = bytes) (hzs : z.cells.size = size) (hsz : 0 < size)
    (v : Value) (n : Nat) (xs : List Value) (hs : a.eval s = v) (hown : w.ownsRow base e size v n xs)
    (A : Option Addr) (m c : Nat) (news : List Value) (hx : a.eval x = .slice A m c) (hr : Rd w size A m news) (h1 : ∀ u ∈ news, u.oneCell' = true)
    (h63 : n + m ≤ maxLen) (hbytes : (n + m) * bytes ≤ 140737488355328) (hbase : base ≤ w.heap.size)
    (h : ∀ v' w', w'.ownsRow base e size v' (n + m) (xs ++ news) → w.grownBy w' v.ownBlock → wpList P ops Q rest (a.put o.dst v') w') : wpList P ops Q (o :: rest) a w := by
  refine wpList_step fun K hK => ?_
  rw [if_pos hw]
  obtain ⟨v', w', hrun, h2, h3⟩ := run_app (P := P) w base t t2 o.type e e2 i z size bytes ht ht2 hi hz hsize hby hzs hsz v n xs hown A m c news hr h1 h63 hbytes hbase
  unfold Oper.wp execOp
  simp only [ho, resolve, invoke, builtin, Sem.run_bind, Sem.run_pure, Result.andThen_ok, List.map_toArray, List.map_cons, List.map_nil, hs, hx, hrun]
  exact hK _ _ (h v' w' h2 h3)

theorem jb_small (a b : ByteArray) (ha : a.size ≤ 200) (hb : b.size ≤ 200) : (jb [bNode, a, b]).size ≤ 1000000000 := by
  have := jb3 bNode a b (by decide) ha hb
  show ((jn [bNode, a, b]).toArray).size ≤ 1000000000
  simp; omega

theorem txt_small (l : List ByteArray) (h : sm l) : ∀ s ∈ txt l, s.size ≤ 1000000000 := by
  obtain ⟨n, hn⟩ : ∃ n, l.length = n := ⟨_, rfl⟩
  induction n using Nat.strongRecOn generalizing l with
  | _ n ih =>
    by_cases h2 : 2 ≤ l.length
    · have k1 := hf_lt l.length h2
      have k2 := hf_pos l.length
      rw [txt_two l h2]
      intro s hs
      rcases List.mem_append.1 hs with h3 | h3
      · rcases List.mem_append.1 h3 with h4 | h4
        · exact ih (hf l.length) (by omega) _ (h.take _) (by rw [List.length_take]; omega) s h4
        · exact ih (l.length - hf l.length) (by omega) _ (h.drop _) (by rw [List.length_drop]) s h4
      · rw [List.mem_singleton.1 h3]
        exact jb_small _ _ (rt_size _ (h.take _)) (rt_size _ (h.drop _))
    · match l, h2 with
      | [], _ =>
        rw [txt_nil]
        intro s hs
        rw [List.mem_singleton.1 hs]
        have := jn_few [bEmpty] (by intro s hs; rw [List.mem_singleton.1 hs]; decide)
        show ((jn [bEmpty]).toArray).size ≤ 1000000000
        simp at this ⊢; omega
      | [x], _ => rw [txt_one]; intro s hs; cases hs
      | x :: y :: l, h2 => simp at h2

theorem ptx_small (n i : Nat) (s : ByteArray) (p : List ByteArray) (hp : allD p = true) (hs : s.size ≤ 200) : ∀ t ∈ ptx n i s p, t.size ≤ 1000000000 := by
  induction n using Nat.strongRecOn generalizing i p with
  | _ n ih =>
    by_cases h2 : 2 ≤ n
    · have k1 := hf_lt n h2
      have k2 := hf_pos n
      have hd : allD p.dropLast = true := by rw [List.dropLast_eq_take]; exact allD_take hp _
      intro t ht
      by_cases hi : i < hf n
      · rw [ptx_lt n i s p h2 hi] at ht
        rcases List.mem_append.1 ht with h3 | h3
        · exact ih (hf n) k1 i p.dropLast hd t h3
        · rw [List.mem_singleton.1 h3]; exact jb_small _ _ (upv_size _ _ _ _ hs) (getLastD_size p hp)
      · rw [ptx_ge n i s p h2 hi] at ht
        rcases List.mem_append.1 ht with h3 | h3
        · exact ih (n - hf n) (by omega) (i - hf n) p.dropLast hd t h3
        · rw [List.mem_singleton.1 h3]; exact jb_small _ _ (getLastD_size p hp) (upv_size _ _ _ _ hs)
    · rw [ptx_one n i s p h2]; intro t ht; cases ht

theorem chk_parts {root : ByteArray} {n i : Nat} {s : ByteArray} {p : List ByteArray} (h : chkB root (n : Int) (i : Int) s p = true) : allD p = true ∧ upv n i s p = root ∧ p.length = plen n i := by
  unfold chkB at h
  simp only [Bool.and_eq_true, decide_eq_true_eq, Int.toNat_natCast] at h
  exact ⟨h.1.1.2, h.2.1, h.2.2⟩

theorem allD_pt (l : List ByteArray) (i : Nat) (h : allD l = true) : allD (pt l i) = true := by
  obtain ⟨n, hn⟩ : ∃ n, l.length = n := ⟨_, rfl⟩
  induction n using Nat.strongRecOn generalizing l i with
  | _ n ih =>
    by_cases h2 : 2 ≤ l.length
    · have k1 := hf_lt l.length h2
      have k2 := hf_pos l.length
      by_cases hi : i < hf l.length
      · rw [pt_lt l i h2 hi]
        have h1 := ih _ (by rw [List.length_take]; omega) (l.take (hf l.length)) i (allD_take h _) rfl
        have h3 := isD_rt _ (allD_drop h (hf l.length))
        simp only [allD, List.all_append, Bool.and_eq_true] at h1 ⊢
        exact ⟨h1, by simp [h3]⟩
      · rw [pt_ge l i h2 hi]
        have h1 := ih _ (by rw [List.length_drop]; omega) (l.drop (hf l.length)) (i - hf l.length) (allD_drop h _) rfl
        have h3 := isD_rt _ (allD_take h (hf l.length))
        simp only [allD, List.all_append, Bool.and_eq_true] at h1 ⊢
        exact ⟨h1, by simp [h3]⟩
    · rw [pt_one l i h2]; rfl

theorem incl_yes (l : List ByteArray) (i : Nat) (s : ByteArray) (hD : allD l = true) (hs : l[i]? = some s) (hn : l.length ≤ 1000000) : chkB (rt l) (l.length : Int) (i : Int) s (pt l i) = true := by
  have hi : i < l.length := (List.getElem?_eq_some_iff.1 hs).1
  have hm : s ∈ l := List.mem_of_getElem? hs
  have hds : isD s = true := by simp only [allD, List.all_eq_true] at hD; exact hD s hm
  unfold chkB
  have h1 : ((l.length : Int) ≤ 1000000 ∧ (0 : Int) ≤ (i : Int) ∧ (i : Int) < (l.length : Int)) := by omega
  rw [decide_eq_true h1, allD_pt l i hD, hds, Int.toNat_natCast, Int.toNat_natCast, pt_up l i s hs, pt_len]
  simp
end

section
open Go.RowKit

theorem valid_nat {s : Int × Int} (h : validB s = true) : (1 ≤ s.1 ∧ s.1 ≤ 16) ∧ 0 ≤ s.2 ∧ s.2 < 2147483647 := by
  obtain ⟨h1, h2, h3⟩ := (validB_iff s).1 h
  have := (elemB_iff _).1 h3
  exact ⟨⟨h1, h2⟩, this⟩
theorem shT_sm {s : Int × Int} (h : validB s = true) : (shT s).size ≤ 200 := by
  obtain ⟨h1, h2⟩ := valid_nat h
  have := shT_size s h1.2 h2.2
  omega
theorem shLf_eq (s : Int × Int) : shLf s = dg (jb [bLeaf, shT s]) := by unfold shLf lf; rfl
theorem shLf_isD (s : Int × Int) : isD (shLf s) = true := by rw [shLf_eq]; exact isD_dg _
theorem shLf_D (l : List (Int × Int)) : allD (l.map shLf) = true := by
  unfold allD
  rw [List.all_eq_true]
  intro t ht
  obtain ⟨s, _, rfl⟩ := List.mem_map.1 ht
  exact shLf_isD s
theorem shLf_sm (l : List (Int × Int)) : sm (l.map shLf) := by
  intro s hs
  obtain ⟨t, _, rfl⟩ := List.mem_map.1 hs
  rw [shLf_eq, dg_size]; omega
set_option maxHeartbeats 8000000 in
theorem rleaves_any (A : Option Addr) (c : Nat) (l : List (Int × Int)) (w : World) (hA : Prs w A l) (hl : l.length ≤ 1000) (hv : l.all validB = true) :
    Calls Tryz.prog 35 #[.slice A l.length c] w fun e w' => ∃ v, e = .returned v ∧ w'.ownsRow w.heap.size 9 1 v l.length ((l.map shLf).map Value.string) ∧ Below w.heap.size w w' := by
  have HA := Lib.hid hA
  have HVA : Hid (∀ k s, l[k]? = some s → validB s = true) := Lib.hid (fun k s h => List.all_eq_true.1 hv s (List.mem_of_getElem? h))
  obtain ⟨ip, hj1, hy0, hy1, hy2⟩ := info_parts info_strg
  have HI := Lib.hid (And.intro hj1 (And.intro hy0 (And.intro hy1 hy2)))
  clear hj1 hy0 hy1 hy2 hA hv
  have HO : Hid (w.ownsRow w.heap.size 9 1 (.slice none 0 0) 0 []) := ⟨rfl, .inl ⟨rfl, rfl⟩⟩
  go_enter Tryz.func35, Tryz.ntmps35
  go_wp2_with fail
  go_loopw [3, 4] (fun u3 u4 wr => ∃ k : Nat, k ≤ l.length ∧ u4 = .int .i64 k ∧ Below w.heap.size w wr ∧ wr.ownsRow w.heap.size 9 1 u3 k (((l.take k).map shLf).map Value.string)) (fun _ u4 _ => l.length - (intOf u4).toNat)
  case atStart => exact ⟨0, Nat.zero_le _, rfl, Below.refl _ _, HO.out⟩
  case round =>
  obtain ⟨k, hk, rfl, hbw, how⟩ := hrel
  have HBW := Lib.hid hbw
  have HOW := Lib.hid how
  clear hbw how
  by_cases hlt : k < l.length
  · obtain ⟨s, hs⟩ := get_some l k hlt
    obtain ⟨b, off, rfl, hc1, hc2⟩ := (HA.out.below HBW.out).at_ hs
    have hcl := lt_of_cell hc1
    have hvs := HVA.out k s hs
    obtain ⟨g1, g2⟩ := valid_nat hvs
    have HTX := Lib.hid (rtext_any s wr ⟨by omega, by omega⟩ ⟨by omega, by omega⟩)
    have HLF := Lib.hid (fun W => rleaf_any (shT s) (shT_sm hvs) W)
    have HS := Lib.hid hs
    clear hs hvs
    obtain ⟨y, hy⟩ : ∃ y, shLf s = y := ⟨_, rfl⟩
    have HY := Lib.hid hy
    unfold shLf at hy
    rw [hy] at HLF
    clear hy
    generalize shT s = ts at *
    go_wp2_with fail
    refine HTX.out.mono ?_
    rintro e w1 ⟨rfl, hb1⟩
    have HB1 := Lib.hid (below_trans HBW.out hb1)
    have HO1 := Lib.hid (row_below HOW.out hb1)
    clear hb1
    go_wp2_with fail
    refine (HLF.out w1).mono ?_
    rintro e w2 ⟨rfl, hb2⟩
    have HB2 := Lib.hid (below_trans HB1.out hb2)
    have HO2 : Hid ((w2.alloc (.cells #[.string y] 9)).ownsRow w.heap.size 9 1 u3 k (((l.take k).map shLf).map Value.string)) := Lib.hid (row_below (row_below HO1.out hb2) (below_alloc (Below.refl _ _) _))
    clear hb2
    go_wp2_with (at_builtin; refine wpList_app _ rfl (.tmp 11) (.tmp 18) 46 46 rfl w.heap.size 9 9 ip _ 1 16 Tryz.underlying46 Tryz.underlying46 HI.out.1 HI.out.2.1 HI.out.2.2.1 HI.out.2.2.2 rfl (by omega) u3 k _ rfl HO2.out (some ⟨w2.heap.size, 0, none⟩) 1 1 [.string y] rfl (Rd_new w2 #[.string y] _ 1 1 _ rfl rfl) (by simp [Value.oneCell']) (by simp only [maxLen]; omega) (by omega) (by have := HB2.out.size; simp; omega) ?_)
    intro v4 w4 hown4 hg4
    have HB4 : Hid (Below w.heap.size w w4) := Lib.hid ((below_alloc HB2.out _).grown hg4 (by have := HB2.out.size; simp; omega) (fun j hj => (HO2.out.lt j hj).1))
    have HO4 := Lib.hid hown4
    clear hown4 hg4
    go_wp2
    go_roundw
    case rel => exact ⟨k + 1, by omega, by go_num, HB4.out, by rw [take_snoc _ _ _ HS.out]; simpa [HY.out] using HO4.out⟩
    case measure => simp [intOf]; omega
  · obtain rfl : k = l.length := by omega
    rw [List.take_of_length_le (Nat.le_refl _)] at HOW
    go_wp2
    go_ret
    exact ⟨_, rfl, HOW.out, HBW.out⟩
set_option maxHeartbeats 8000000 in
theorem sroot_any (A : Option Addr) (c : Nat) (l : List (Int × Int)) (w : World) (hA : Prs w A l) (h1 : 1 ≤ l.length) (h16 : l.length ≤ 16) (hv : l.all validB = true) (hT : Tabs w) :
    Calls Tryz.prog 29 #[.slice A l.length c] w fun e w' => e = .returned (.tuple #[.string (rt (l.map shLf)), .int .i64 0]) ∧ Below w.heap.size w w' := by
  have HA := Lib.hid hA
  have HT : Hid (∀ W, Below w.heap.size w W → Tabs W) := Lib.hid (fun W hW => hT.below hW)
  have HVA : Hid (∀ k s, l[k]? = some s → validB s = true) := Lib.hid (fun k s h => List.all_eq_true.1 hv s (List.mem_of_getElem? h))
  obtain ⟨ip, hj1, hy0, hy1, hy2⟩ := info_parts info_strg
  have HI := Lib.hid (And.intro hj1 (And.intro hy0 (And.intro hy1 hy2)))
  clear hj1 hy0 hy1 hy2 hA hv hT
  have HO : Hid (w.ownsRow w.heap.size 9 1 (.slice none 0 0) 0 []) := ⟨rfl, .inl ⟨rfl, rfl⟩⟩
  have hd1 : decide (l.length < 1) = false := decide_eq_false (by omega)
  have hd2 : decide (16 < l.length) = false := decide_eq_false (by omega)
  go_enter Tryz.func29, Tryz.ntmps29
  go_wp2_with fail
  go_loopw [4, 6, 17] (fun u4 _ u17 wr => ∃ k : Nat, k ≤ l.length ∧ u17 = .int .i64 k ∧ Below w.heap.size w wr ∧ wr.ownsRow w.heap.size 9 1 u4 k (((l.take k).map shLf).map Value.string)) (fun _ _ u17 _ => l.length - (intOf u17).toNat)
  case atStart => exact ⟨0, Nat.zero_le _, rfl, Below.refl _ _, HO.out⟩
  case round =>
  obtain ⟨k, hk, rfl, hbw, how⟩ := hrel
  have HBW := Lib.hid hbw
  have HOW := Lib.hid how
  clear hbw how
  by_cases hlt : k < l.length
  · obtain ⟨s, hs⟩ := get_some l k hlt
    obtain ⟨b, off, rfl, hc1, hc2⟩ := (HA.out.below HBW.out).at_ hs
    have hcl := lt_of_cell hc1
    have hvs := HVA.out k s hs
    obtain ⟨g1, g2⟩ := valid_nat hvs
    have HV := Lib.hid hvs
    have HTX : Hid (∀ W, Below w.heap.size w W → Calls Tryz.prog 52 #[.agg #[.int .i64 s.1, .int .i64 s.2]] W fun e w' => e = .returned (.string (shT s)) ∧ Below W.heap.size W w') := Lib.hid (fun W hW => stext_any s W ⟨by omega, by omega⟩ ⟨by omega, by omega⟩ (HT.out W hW))
    have HLF : Hid (∀ W, Below w.heap.size w W → Calls Tryz.prog 51 #[.string (shT s)] W fun e w' => e = .returned (.string (lf (shT s))) ∧ Below W.heap.size W w') := Lib.hid (fun W hW => leaf_any (shT s) (shT_sm hvs) W (HT.out W hW))
    have HS := Lib.hid hs
    clear hs hvs
    obtain ⟨y, hy⟩ : ∃ y, shLf s = y := ⟨_, rfl⟩
    have HY := Lib.hid hy
    unfold shLf at hy
    rw [hy] at HLF
    clear hy
    generalize shT s = ts at *
    go_wp2_with fail
    refine (valid_any s.1 s.2 _).mono ?_
    rintro e w' ⟨rfl, rfl⟩
    rw [HV.out]
    go_wp2_with fail
    refine (HTX.out _ (below_alloc (below_alloc HBW.out _) _)).mono ?_
    rintro e w1 ⟨rfl, hb1⟩
    have HB1 := Lib.hid (below_trans (below_alloc (below_alloc HBW.out _) _) hb1)
    have HO1 := Lib.hid (row_below (row_below (row_below HOW.out (below_alloc (Below.refl _ _) (.cells #[.int .i64 s.1, .int .i64 s.2] 37))) (below_alloc (Below.refl _ _) (.cells #[.int .i64 s.1, .int .i64 s.2] 37))) hb1)
    clear hb1
    go_wp2_with fail
    refine (HLF.out w1 HB1.out).mono ?_
    rintro e w2 ⟨rfl, hb2⟩
    have HB2 := Lib.hid (below_trans HB1.out hb2)
    have HO2 : Hid ((w2.alloc (.cells #[.string y] 9)).ownsRow w.heap.size 9 1 u4 k (((l.take k).map shLf).map Value.string)) := Lib.hid (row_below (row_below HO1.out hb2) (below_alloc (Below.refl _ _) _))
    clear hb2
    go_wp2_with (at_builtin; refine wpList_app _ rfl (.tmp 24) (.tmp 28) 46 46 rfl w.heap.size 9 9 ip _ 1 16 Tryz.underlying46 Tryz.underlying46 HI.out.1 HI.out.2.1 HI.out.2.2.1 HI.out.2.2.2 rfl (by omega) u4 k _ rfl HO2.out (some ⟨w2.heap.size, 0, none⟩) 1 1 [.string y] rfl (Rd_new w2 #[.string y] _ 1 1 _ rfl rfl) (by simp [Value.oneCell']) (by simp only [maxLen]; omega) (by omega) (by have := HB2.out.size; simp; omega) ?_)
    intro v4 w4 hown4 hg4
    have HB4 : Hid (Below w.heap.size w w4) := Lib.hid ((below_alloc HB2.out _).grown hg4 (by have := HB2.out.size; simp; omega) (fun j hj => (HO2.out.lt j hj).1))
    have HO4 := Lib.hid hown4
    clear hown4 hg4
    go_wp2
    go_roundw
    case rel => exact ⟨k + 1, by omega, by go_num, HB4.out, by rw [take_snoc _ _ _ HS.out]; simpa [HY.out] using HO4.out⟩
    case measure => simp [intOf]; omega
  · obtain rfl : k = l.length := by omega
    rw [List.take_of_length_le (Nat.le_refl _)] at HOW
    obtain ⟨A2, c2, rfl, hc2, -, hr2⟩ := Rd.of_own HOW.out
    have hroot := root_any A2 c2 (l.map shLf) wr (by rw [List.length_map]; omega) (by rw [List.length_map]; exact hc2) (by unfold Strs; rw [List.length_map]; exact hr2) (shLf_sm l) (HT.out wr HBW.out)
    rw [shLf_D, if_pos rfl, if_pos rfl, List.length_map] at hroot
    have HR := Lib.hid hroot
    clear hr2 hroot
    go_wp2_with fail
    refine HR.out.mono ?_
    rintro e w1 ⟨rfl, hb1⟩
    have HB1 := Lib.hid (below_trans HBW.out hb1)
    clear hb1
    go_wp2
    go_ret2
    exact ⟨rfl, HB1.out⟩
def shChk (root : ByteArray) (m : Int) (s : Int × Int) (p : List ByteArray) : Bool := decide (1 ≤ m ∧ m ≤ 16 ∧ s.1 ≤ m) && validB s && chkB root m (s.1 - 1) (shLf s) p
set_option maxHeartbeats 8000000 in
theorem scheck_any (root : ByteArray) (m : Int) (s : Int × Int) (A : Option Addr) (c : Nat) (p : List ByteArray) (w : World) (hS : Strs w A p) (hbig : p.length ≤ 1000000) (hcap : p.length ≤ c) (hsm : sm p) (hT : Tabs w) :
    Calls Tryz.prog 78 #[.string root, .int .i64 m, .agg #[.int .i64 s.1, .int .i64 s.2], .slice A p.length c] w fun e w' => e = .returned (.bool (shChk root m s p)) ∧ Below w.heap.size w w' := by
  have HVF := Lib.hid (fun W => valid_any s.1 s.2 W)
  obtain ⟨w0, hw0⟩ : ∃ w0, w.alloc (.cells #[.int .i64 s.1, .int .i64 s.2] 37) = w0 := ⟨_, rfl⟩
  have HB0 : Hid (Below w.heap.size w w0) := Lib.hid (by rw [← hw0]; exact below_alloc (Below.refl _ _) _)
  have HK : Hid (∀ W, Below w0.heap.size w0 W → W.cell? ⟨w.heap.size, 0, none⟩ = some (.int .i64 s.1) ∧ W.cell? ⟨w.heap.size, 1, none⟩ = some (.int .i64 s.2)) := Lib.hid (fun W hW => by
    have hb : Blk w0 w.heap.size 37 #[.int .i64 s.1, .int .i64 s.2] := by rw [← hw0]; exact Blk.new w _ _ _ rfl
    exact ⟨kept_cell hW (hb.of_cell rfl), kept_cell hW (hb.of_cell rfl)⟩)
  have HW0 := Lib.hid hw0
  clear hw0
  have hno : ¬ (1 ≤ m ∧ m ≤ 16 ∧ s.1 ≤ m) → shChk root m s p = false := fun h => by unfold shChk; rw [decide_eq_false h]; simp
  by_cases h1 : m < 1
  · have HRES := Lib.hid (hno (by omega))
    have hd1 : decide (m < 1) = true := decide_eq_true h1
    clear hS hsm hno hT
    go_enter Tryz.func78, Tryz.ntmps78
    go_wp2
    go_ret
    exact ⟨ret_bool HRES.out.symm, below_alloc (Below.refl _ _) _⟩
  by_cases h2 : 16 < m
  · have HRES := Lib.hid (hno (by omega))
    have hd1 : decide (m < 1) = false := decide_eq_false h1
    have hd2 : decide (16 < m) = true := decide_eq_true h2
    clear hS hsm hno hT
    go_enter Tryz.func78, Tryz.ntmps78
    go_wp2
    go_ret
    exact ⟨ret_bool HRES.out.symm, below_alloc (Below.refl _ _) _⟩
  have hd1 : decide (m < 1) = false := decide_eq_false h1
  have hd2 : decide (16 < m) = false := decide_eq_false h2
  cases hv : validB s
  · have hres : shChk root m s p = false := by unfold shChk; rw [hv]; simp
    have HRES := Lib.hid hres
    have HV := Lib.hid hv
    clear hS hsm hno hres hv hT
    go_enter Tryz.func78, Tryz.ntmps78
    go_wp2_with fail
    refine (HVF.out _).mono ?_
    rintro e _ ⟨rfl, rfl⟩
    rw [HV.out]
    go_wp2
    go_ret
    exact ⟨ret_bool HRES.out.symm, below_alloc (below_alloc (Below.refl _ _) _) _⟩
  obtain ⟨g1, g2⟩ := valid_nat hv
  by_cases h3 : m < s.1
  · have HRES := Lib.hid (hno (by omega))
    have HV := Lib.hid hv
    have hd3 : decide (m < s.1) = true := decide_eq_true h3
    clear hS hsm hno hv hT
    go_enter Tryz.func78, Tryz.ntmps78
    go_wp2_with fail
    refine (HVF.out _).mono ?_
    rintro e _ ⟨rfl, rfl⟩
    rw [HV.out]
    go_wp2
    go_ret
    exact ⟨ret_bool HRES.out.symm, below_alloc (below_alloc (Below.refl _ _) _) _⟩
  have hd3 : decide (m < s.1) = false := decide_eq_false h3
  have hlfz : (lf (shT s)).size ≤ 1000000000 := by show (dg _).size ≤ _; rw [dg_size]; omega
  have hlfz2 : (lf (shT s)).size ≤ 200 := by show (dg _).size ≤ _; rw [dg_size]; omega
  have hval : shChk root m s p = chkB root m (s.1 - 1) (lf (shT s)) p := by
    unfold shChk shLf
    rw [decide_eq_true (⟨by omega, by omega, by omega⟩ : 1 ≤ m ∧ m ≤ 16 ∧ s.1 ≤ m), hv, Bool.true_and, Bool.true_and]
  have HT : Hid (∀ W, Below w.heap.size w W → Tabs W) := Lib.hid (fun W hW => hT.below hW)
  obtain ⟨w2, hw2⟩ : ∃ w2, w0.alloc (.cells #[.int .i64 s.1, .int .i64 s.2] 37) = w2 := ⟨_, rfl⟩
  have HB2 : Hid (Below w0.heap.size w0 w2) := Lib.hid (by rw [← hw2]; exact below_alloc (Below.refl _ _) _)
  have HTX : Hid (∀ W, Below w.heap.size w W → Calls Tryz.prog 52 #[.agg #[.int .i64 s.1, .int .i64 s.2]] W fun e w' => e = .returned (.string (shT s)) ∧ Below W.heap.size W w') := Lib.hid (fun W hW => stext_any s W ⟨by omega, by omega⟩ ⟨by omega, by omega⟩ (HT.out W hW))
  have HLF : Hid (∀ W, Below w.heap.size w W → Calls Tryz.prog 51 #[.string (shT s)] W fun e w' => e = .returned (.string (lf (shT s))) ∧ Below W.heap.size W w') := Lib.hid (fun W hW => leaf_any (shT s) (shT_sm hv) W (HT.out W hW))
  have HCK : Hid (∀ W, Below w.heap.size w W → Calls Tryz.prog 105 #[.string root, .int .i64 m, .int .i64 (s.1 - 1), .string (lf (shT s)), .slice A p.length c] W fun e w' => e = .returned (.bool (chkB root m (s.1 - 1) (lf (shT s)) p)) ∧ Below W.heap.size W w') := Lib.hid (fun W hW => tcheck_any root m (s.1 - 1) (lf (shT s)) A c p W (HT.out W hW) (hS.below hW) hbig hlfz (fun t ht => by have := hsm t ht; omega))
  have HV := Lib.hid hv
  have HW2 := Lib.hid hw2
  have HBA : Hid (∀ W, Below w2.heap.size w2 W → Below w.heap.size w W ∧ Below w0.heap.size w0 W) := Lib.hid (fun W hW => ⟨below_trans (below_trans HB0.out HB2.out) hW, below_trans HB2.out hW⟩)
  rw [hval]
  clear hS hsm hno hval hv hw2 hlfz hlfz2 HB2 hT
  generalize lf (shT s) = y at *
  generalize shT s = ts at *
  generalize chkB root m (s.1 - 1) y p = cv at *
  have hsub : IntKind.i64.wrap (s.1 - 1) = s.1 - 1 := by rw [IntWalk.i64_in _ (by omega)]
  go_enter Tryz.func78, Tryz.ntmps78
  go_wp2_with fail
  have hw0 := HW0.out
  rw [hw0]
  refine (HVF.out _).mono ?_
  rintro e _ ⟨rfl, rfl⟩
  rw [HV.out, HW2.out]
  obtain ⟨q1, q2⟩ := HK.out w2 (HBA.out w2 (Below.refl _ _)).2
  have ql := lt_of_cell q1
  clear hw0
  go_wp2_with fail
  clear q1 q2 ql
  refine wp_region_belowC (by kernel_rfl) (by kernel_rfl) (fun WQ HQS HQN => ?_)
  refine HQS.go (fun K hK => ?_)
  go_simp
  apply Exists.intro
  refine ⟨fun W hW => ?_, hK _ ?_⟩
  · (try go_simp)
    exact rfl
  clear hK K
  refine HQS.go (fun K hK => ?_)
  go_simp
  apply Exists.intro
  refine ⟨fun W hW => ?_, hK _ ?_⟩
  · (try go_simp)
    exact rfl
  clear hK K
  refine HQS.go (fun K hK => ?_)
  go_simp
  apply Exists.intro
  refine ⟨fun W hW => ?_, hK _ ?_⟩
  · (try go_simp)
    exact rfl
  clear hK K
  refine HQS.go (fun K hK => ?_)
  go_simp
  apply Exists.intro
  refine ⟨fun W hW => ?_, hK _ ?_⟩
  · obtain ⟨q1, q2⟩ := HK.out W (HBA.out W hW).2
    have ql := lt_of_cell q1
    go_simp
    exact rfl
  clear hK K
  refine HQS.go (fun K hK => ?_)
  go_simp
  apply Exists.intro
  refine ⟨fun W hW => ?_, hK _ ?_⟩
  · (try go_simp)
    exact rfl
  clear hK K
  refine HQS.go (fun K hK => ?_)
  go_simp
  apply Exists.intro
  refine ⟨fun W hW => ?_, hK _ ?_⟩
  · obtain ⟨q1, q2⟩ := HK.out W (HBA.out W hW).2
    have ql := lt_of_cell q1
    go_simp
    exact rfl
  clear hK K
  refine HQS.go (fun K hK => ?_)
  go_simp
  apply Exists.intro
  refine ⟨fun W hW => ?_, hK _ ?_⟩
  · exact (HTX.out W (HBA.out W hW).1).mono fun _ _ ⟨he, hb⟩ => ⟨he, below_trans hW hb⟩
  clear hK K
  refine HQS.go (fun K hK => ?_)
  go_simp
  apply Exists.intro
  refine ⟨fun W hW => ?_, hK _ ?_⟩
  · exact (HLF.out W (HBA.out W hW).1).mono fun _ _ ⟨he, hb⟩ => ⟨he, below_trans hW hb⟩
  clear hK K
  refine HQS.go (fun K hK => ?_)
  go_simp
  apply Exists.intro
  refine ⟨fun W hW => ?_, hK _ ?_⟩
  · (try go_simp)
    exact rfl
  clear hK K
  refine HQS.go (fun K hK => ?_)
  go_simp
  apply Exists.intro
  refine ⟨fun W hW => ?_, hK _ ?_⟩
  · exact (HCK.out W (HBA.out W hW).1).mono fun _ _ ⟨he, hb⟩ => ⟨he, below_trans hW hb⟩
  clear hK K
  refine HQS.go (fun K hK => ?_)
  go_simp
  apply Exists.intro
  refine ⟨fun W hW => ?_, hK _ ?_⟩
  · (try go_simp)
    exact rfl
  clear hK K
  refine HQN.go ?_
  intro W hW
  go_wp2
  go_ret
  exact ⟨rfl, (HBA.out W hW).1⟩
set_option maxHeartbeats 8000000 in
theorem r7check_any (root : ByteArray) (m : Int) (s : Int × Int) (A : Option Addr) (c : Nat) (p : List ByteArray) (w : World) (hS : Strs w A p) (hbig : p.length ≤ 1000000) (hcap : p.length ≤ c) (hsm : sm p) :
    Calls Tryz.prog 31 #[.string root, .int .i64 m, .agg #[.int .i64 s.1, .int .i64 s.2], .slice A p.length c] w fun e w' => e = .returned (.bool (shChk root m s p)) ∧ Below w.heap.size w w' := by
  have HVF := Lib.hid (fun W => rvalid_any s.1 s.2 W)
  obtain ⟨w0, hw0⟩ : ∃ w0, w.alloc (.cells #[.int .i64 s.1, .int .i64 s.2] 37) = w0 := ⟨_, rfl⟩
  have HB0 : Hid (Below w.heap.size w w0) := Lib.hid (by rw [← hw0]; exact below_alloc (Below.refl _ _) _)
  have HK : Hid (∀ W, Below w0.heap.size w0 W → W.cell? ⟨w.heap.size, 0, none⟩ = some (.int .i64 s.1) ∧ W.cell? ⟨w.heap.size, 1, none⟩ = some (.int .i64 s.2)) := Lib.hid (fun W hW => by
    have hb : Blk w0 w.heap.size 37 #[.int .i64 s.1, .int .i64 s.2] := by rw [← hw0]; exact Blk.new w _ _ _ rfl
    exact ⟨kept_cell hW (hb.of_cell rfl), kept_cell hW (hb.of_cell rfl)⟩)
  have HW0 := Lib.hid hw0
  clear hw0
  have hno : ¬ (1 ≤ m ∧ m ≤ 16 ∧ s.1 ≤ m) → shChk root m s p = false := fun h => by unfold shChk; rw [decide_eq_false h]; simp
  by_cases h1 : m < 1
  · have HRES := Lib.hid (hno (by omega))
    have hd1 : decide (m < 1) = true := decide_eq_true h1
    clear hS hsm hno
    go_enter Tryz.func31, Tryz.ntmps31
    go_wp2
    go_ret
    exact ⟨ret_bool HRES.out.symm, below_alloc (Below.refl _ _) _⟩
  by_cases h2 : 16 < m
  · have HRES := Lib.hid (hno (by omega))
    have hd1 : decide (m < 1) = false := decide_eq_false h1
    have hd2 : decide (16 < m) = true := decide_eq_true h2
    clear hS hsm hno
    go_enter Tryz.func31, Tryz.ntmps31
    go_wp2
    go_ret
    exact ⟨ret_bool HRES.out.symm, below_alloc (Below.refl _ _) _⟩
  have hd1 : decide (m < 1) = false := decide_eq_false h1
  have hd2 : decide (16 < m) = false := decide_eq_false h2
  cases hv : validB s
  · have hres : shChk root m s p = false := by unfold shChk; rw [hv]; simp
    have HRES := Lib.hid hres
    have HV := Lib.hid hv
    clear hS hsm hno hres hv
    go_enter Tryz.func31, Tryz.ntmps31
    go_wp2_with fail
    refine (HVF.out _).mono ?_
    rintro e _ ⟨rfl, rfl⟩
    rw [HV.out]
    go_wp2
    go_ret
    exact ⟨ret_bool HRES.out.symm, below_alloc (below_alloc (Below.refl _ _) _) _⟩
  obtain ⟨g1, g2⟩ := valid_nat hv
  by_cases h3 : m < s.1
  · have HRES := Lib.hid (hno (by omega))
    have HV := Lib.hid hv
    have hd3 : decide (m < s.1) = true := decide_eq_true h3
    clear hS hsm hno hv
    go_enter Tryz.func31, Tryz.ntmps31
    go_wp2_with fail
    refine (HVF.out _).mono ?_
    rintro e _ ⟨rfl, rfl⟩
    rw [HV.out]
    go_wp2
    go_ret
    exact ⟨ret_bool HRES.out.symm, below_alloc (below_alloc (Below.refl _ _) _) _⟩
  have hd3 : decide (m < s.1) = false := decide_eq_false h3
  have hlfz : (lf (shT s)).size ≤ 1000000000 := by show (dg _).size ≤ _; rw [dg_size]; omega
  have hlfz2 : (lf (shT s)).size ≤ 200 := by show (dg _).size ≤ _; rw [dg_size]; omega
  have hval : shChk root m s p = chkB root m (s.1 - 1) (lf (shT s)) p := by
    unfold shChk shLf
    rw [decide_eq_true (⟨by omega, by omega, by omega⟩ : 1 ≤ m ∧ m ≤ 16 ∧ s.1 ≤ m), hv, Bool.true_and, Bool.true_and]

  obtain ⟨w2, hw2⟩ : ∃ w2, w0.alloc (.cells #[.int .i64 s.1, .int .i64 s.2] 37) = w2 := ⟨_, rfl⟩
  have HB2 : Hid (Below w0.heap.size w0 w2) := Lib.hid (by rw [← hw2]; exact below_alloc (Below.refl _ _) _)
  have HTX : Hid (∀ W, Below w.heap.size w W → Calls Tryz.prog 33 #[.agg #[.int .i64 s.1, .int .i64 s.2]] W fun e w' => e = .returned (.string (shT s)) ∧ Below W.heap.size W w') := Lib.hid (fun W hW => rtext_any s W ⟨by omega, by omega⟩ ⟨by omega, by omega⟩)
  have HLF : Hid (∀ W, Below w.heap.size w W → Calls Tryz.prog 38 #[.string (shT s)] W fun e w' => e = .returned (.string (lf (shT s))) ∧ Below W.heap.size W w') := Lib.hid (fun W hW => rleaf_any (shT s) (shT_sm hv) W)
  have HCK : Hid (∀ W, Below w.heap.size w W → Calls Tryz.prog 55 #[.string root, .int .i64 m, .int .i64 (s.1 - 1), .string (lf (shT s)), .slice A p.length c] W fun e w' => e = .returned (.bool (chkB root m (s.1 - 1) (lf (shT s)) p)) ∧ Below W.heap.size W w') := Lib.hid (fun W hW => rcheck_any root m (s.1 - 1) (lf (shT s)) A c p W (hS.below hW) hbig hcap hlfz2 hsm)
  have HV := Lib.hid hv
  have HW2 := Lib.hid hw2
  have HBA : Hid (∀ W, Below w2.heap.size w2 W → Below w.heap.size w W ∧ Below w0.heap.size w0 W) := Lib.hid (fun W hW => ⟨below_trans (below_trans HB0.out HB2.out) hW, below_trans HB2.out hW⟩)
  rw [hval]
  clear hS hsm hno hval hv hw2 hlfz hlfz2 HB2
  generalize lf (shT s) = y at *
  generalize shT s = ts at *
  generalize chkB root m (s.1 - 1) y p = cv at *
  have hsub : IntKind.i64.wrap (s.1 - 1) = s.1 - 1 := by rw [IntWalk.i64_in _ (by omega)]
  go_enter Tryz.func31, Tryz.ntmps31
  go_wp2_with fail
  have hw0 := HW0.out
  rw [hw0]
  refine (HVF.out _).mono ?_
  rintro e _ ⟨rfl, rfl⟩
  rw [HV.out, HW2.out]
  obtain ⟨q1, q2⟩ := HK.out w2 (HBA.out w2 (Below.refl _ _)).2
  have ql := lt_of_cell q1
  clear hw0
  go_wp2_with fail
  clear q1 q2 ql
  refine wp_region_belowC (by kernel_rfl) (by kernel_rfl) (fun WQ HQS HQN => ?_)
  refine HQS.go (fun K hK => ?_)
  go_simp
  apply Exists.intro
  refine ⟨fun W hW => ?_, hK _ ?_⟩
  · (try go_simp)
    exact rfl
  clear hK K
  refine HQS.go (fun K hK => ?_)
  go_simp
  apply Exists.intro
  refine ⟨fun W hW => ?_, hK _ ?_⟩
  · (try go_simp)
    exact rfl
  clear hK K
  refine HQS.go (fun K hK => ?_)
  go_simp
  apply Exists.intro
  refine ⟨fun W hW => ?_, hK _ ?_⟩
  · (try go_simp)
    exact rfl
  clear hK K
  refine HQS.go (fun K hK => ?_)
  go_simp
  apply Exists.intro
  refine ⟨fun W hW => ?_, hK _ ?_⟩
  · obtain ⟨q1, q2⟩ := HK.out W (HBA.out W hW).2
    have ql := lt_of_cell q1
    go_simp
    exact rfl
  clear hK K
  refine HQS.go (fun K hK => ?_)
  go_simp
  apply Exists.intro
  refine ⟨fun W hW => ?_, hK _ ?_⟩
  · (try go_simp)
    exact rfl
  clear hK K
  refine HQS.go (fun K hK => ?_)
  go_simp
  apply Exists.intro
  refine ⟨fun W hW => ?_, hK _ ?_⟩
  · obtain ⟨q1, q2⟩ := HK.out W (HBA.out W hW).2
    have ql := lt_of_cell q1
    go_simp
    exact rfl
  clear hK K
  refine HQS.go (fun K hK => ?_)
  go_simp
  apply Exists.intro
  refine ⟨fun W hW => ?_, hK _ ?_⟩
  · exact (HTX.out W (HBA.out W hW).1).mono fun _ _ ⟨he, hb⟩ => ⟨he, below_trans hW hb⟩
  clear hK K
  refine HQS.go (fun K hK => ?_)
  go_simp
  apply Exists.intro
  refine ⟨fun W hW => ?_, hK _ ?_⟩
  · exact (HLF.out W (HBA.out W hW).1).mono fun _ _ ⟨he, hb⟩ => ⟨he, below_trans hW hb⟩
  clear hK K
  refine HQS.go (fun K hK => ?_)
  go_simp
  apply Exists.intro
  refine ⟨fun W hW => ?_, hK _ ?_⟩
  · (try go_simp)
    exact rfl
  clear hK K
  refine HQS.go (fun K hK => ?_)
  go_simp
  apply Exists.intro
  refine ⟨fun W hW => ?_, hK _ ?_⟩
  · exact (HCK.out W (HBA.out W hW).1).mono fun _ _ ⟨he, hb⟩ => ⟨he, below_trans hW hb⟩
  clear hK K
  refine HQS.go (fun K hK => ?_)
  go_simp
  apply Exists.intro
  refine ⟨fun W hW => ?_, hK _ ?_⟩
  · (try go_simp)
    exact rfl
  clear hK K
  refine HQN.go ?_
  intro W hW
  go_wp2
  go_ret
  exact ⟨rfl, (HBA.out W hW).1⟩
end

section
open Go.RowKit

/-- The shares that were offered, in the order of their places. -/
def ord (S : List (Int × Int)) (total : Nat) : List (Int × Int) := (List.range total).filterMap fun (x : Nat) => fnd S ((x : Int) + 1)

theorem ord_succ (S : List (Int × Int)) (k : Nat) : ord S (k + 1) = ord S k ++ (fnd S ((k : Int) + 1)).toList := by
  unfold ord
  rw [List.range_succ, List.filterMap_append]
  cases h : fnd S ((k : Int) + 1) <;> simp [h]
theorem ord_len (S : List (Int × Int)) (k : Nat) : (ord S k).length ≤ k := by
  unfold ord
  exact Nat.le_trans (List.length_filterMap_le _ _) (by simp)

theorem fnd_mem {S : List (Int × Int)} (hnd : (S.map (·.1)).Nodup) {s : Int × Int} (hs : s ∈ S) : fnd S s.1 = some s := by
  induction S with
  | nil => cases hs
  | cons t S ih =>
    rw [List.map_cons, List.nodup_cons] at hnd
    rcases List.mem_cons.1 hs with rfl | h
    · simp [fnd]
    · have hne : t.1 ≠ s.1 := fun e => hnd.1 (e ▸ List.mem_map_of_mem (f := (·.1)) h)
      have := ih hnd.2 h
      unfold fnd at this ⊢
      rw [List.find?_cons_of_neg (by simpa using hne)]
      exact this

theorem mem_ord {S : List (Int × Int)} (hnd : (S.map (·.1)).Nodup) {total : Nat} (hp : ∀ s, s ∈ S → 1 ≤ s.1 ∧ s.1 ≤ total) (s : Int × Int) : s ∈ ord S total ↔ s ∈ S := by
  unfold ord
  rw [List.mem_filterMap]
  constructor
  · rintro ⟨x, -, hx⟩
    exact (fnd_some hx).1
  · intro hs
    have h := hp s hs
    refine ⟨(s.1 - 1).toNat, List.mem_range.2 (by omega), ?_⟩
    rw [show (((s.1 - 1).toNat : Nat) : Int) + 1 = s.1 by omega]
    exact fnd_mem hnd hs

theorem ord_keys (S : List (Int × Int)) (k : Nat) : (∀ s, s ∈ ord S k → s.1 ≤ k) ∧ ((ord S k).map (·.1)).Nodup := by
  induction k with
  | zero => simp [ord]
  | succ k ih =>
    rw [ord_succ]
    cases h : fnd S ((k : Int) + 1) with
    | none => simp only [Option.toList_none, List.append_nil]; exact ⟨fun s hs => by have := ih.1 s hs; omega, ih.2⟩
    | some t =>
      have ht := (fnd_some h).2
      simp only [Option.toList_some]
      refine ⟨fun s hs => ?_, ?_⟩
      · rcases List.mem_append.1 hs with h1 | h1
        · have := ih.1 s h1; omega
        · rw [List.mem_singleton.1 h1, ht]; omega
      · rw [List.map_append, List.nodup_append]
        refine ⟨ih.2, by simp, ?_⟩
        intro a ha b hb e
        obtain ⟨s, hs, rfl⟩ := List.mem_map.1 ha
        have h1 := ih.1 s hs
        simp only [List.map_cons, List.map_nil, List.mem_singleton] at hb
        omega

theorem nodup_of_map {α β : Type} {f : α → β} {l : List α} (h : (l.map f).Nodup) : l.Nodup := (List.pairwise_map.1 h).imp fun hab e => hab (by rw [e])

theorem ord_perm {S : List (Int × Int)} (hnd : (S.map (·.1)).Nodup) {total : Nat} (hp : ∀ s, s ∈ S → 1 ≤ s.1 ∧ s.1 ≤ total) : (ord S total).Perm S :=
  (List.perm_ext_iff_of_nodup (nodup_of_map (ord_keys S total).2) (nodup_of_map hnd)).2 (mem_ord hnd hp)

/-! ### the answers of a vault -/
def offE (root : ByteArray) (total : Int) (S : List (Int × Int)) (opn : Bool) (s : Int × Int) (p : List ByteArray) : Int :=
  if opn then 11 else if shChk root total s p = false then 24 else if (fnd S s.1).isSome then 8 else 0
def offS (root : ByteArray) (total : Int) (S : List (Int × Int)) (opn : Bool) (s : Int × Int) (p : List ByteArray) : List (Int × Int) :=
  if offE root total S opn s p = 0 then S ++ [s] else S
noncomputable def opnR (need : Int) (total : Nat) (S : List (Int × Int)) (opn : Bool) : Int × Int := if opn then (0, 11) else joinF (ord S total) need
end

section
open Go.RowKit



/-! ### the examples -/
theorem on_two : On [7, 5] [(3, 22), (1, 12)] := ⟨by simp, by simp [evp], by decide⟩
theorem on_three : On [7, 5] [(1, 12), (2, 17), (3, 22)] := ⟨by simp, by simp [evp], by decide⟩
theorem ex1 : joinF [(3, 22), (1, 12)] (2 : Nat) = (7, 0) := joinF_on [7, 5] 2 _ on_two (by omega) (by omega) (by simp) (by simp)
theorem ex2 : joinF [(3, 22)] (2 : Nat) = (0, 25) := joinF_on_few [7, 5] 2 _ (on_two.sublist (by simp)) (by omega) (by omega) (by simp)
theorem ex3 : joinF [(1, 12), (1, 12)] (2 : Nat) = (0, 8) := joinF_dup _ _ (by omega) (by omega) (by decide) (by decide)
theorem ex4 : joinF [(1, 12), (2, 17), (3, 23)] (2 : Nat) = (0, 24) := joinF_on_wrong [7, 5] 2 _ on_three (by omega) (by omega) (by simp) (by simp) 2 (3, 22) rfl 23 (by omega) (by omega) (by simp)
theorem ex5 : shs [7, 5] 3 = [(1, 12), (2, 17), (3, 22)] := by decide
end

section
open Go.RowKit

theorem hf3 : hf 3 = 2 := hf_eq 3 1 (.inl (by decide)) (by decide)
theorem hf2 : hf 2 = 1 := hf_eq 2 0 (.inr rfl) (by decide)
section
variable (a b c : ByteArray)
theorem rt2 : rt [a, b] = nd a b := by
  rw [rt_split [a, b] 1 (by simp) (by exact hf2)]
  simp only [List.take_succ_cons, List.take_zero, List.drop_succ_cons, List.drop_zero, rt_one]
theorem rt3 : rt [a, b, c] = nd (nd a b) c := by
  rw [rt_split [a, b, c] 2 (by simp) (by exact hf3)]
  simp only [List.take_succ_cons, List.take_zero, List.drop_succ_cons, List.drop_zero, rt_one, rt2]
theorem pt32 : pt [a, b, c] 2 = [nd a b] := by
  rw [pt_ge _ _ (by simp) (by show ¬ 2 < hf 3; rw [hf3]; omega)]
  show pt (List.drop (hf 3) [a, b, c]) (2 - hf 3) ++ [rt (List.take (hf 3) [a, b, c])] = _
  rw [hf3, pt_one _ _ (by simp)]
  simp only [List.take_succ_cons, List.take_zero, rt2, List.nil_append]
theorem pt20 : pt [a, b] 0 = [b] := by
  rw [pt_lt _ _ (by simp) (by show 0 < hf 2; rw [hf2]; omega)]
  show pt (List.take (hf 2) [a, b]) 0 ++ [rt (List.drop (hf 2) [a, b])] = _
  rw [hf2, pt_one _ _ (by simp)]
  simp only [List.drop_succ_cons, List.drop_zero, rt_one, List.nil_append]
theorem pt30 : pt [a, b, c] 0 = [b, c] := by
  rw [pt_lt _ _ (by simp) (by show 0 < hf 3; rw [hf3]; omega)]
  show pt (List.take (hf 3) [a, b, c]) 0 ++ [rt (List.drop (hf 3) [a, b, c])] = _
  rw [hf3]
  simp only [List.take_succ_cons, List.take_zero, List.drop_succ_cons, List.drop_zero, rt_one, pt20, List.cons_append, List.nil_append]
theorem lk32 : lk [a, b, c] 2 true = [c] := by
  rw [lk_le _ _ _ (by simp) (by simp) (by show 2 ≤ hf 3; rw [hf3]; omega)]
  show lk (List.take (hf 3) [a, b, c]) 2 true ++ [rt (List.drop (hf 3) [a, b, c])] = _
  rw [hf3, lk_end _ _ _ (by simp)]
  simp only [List.drop_succ_cons, List.drop_zero, rt_one, if_true, List.nil_append]
theorem lk21 : lk [a, b] 1 true = [b] := by
  rw [lk_le _ _ _ (by simp) (by simp) (by show 1 ≤ hf 2; rw [hf2]; omega)]
  show lk (List.take (hf 2) [a, b]) 1 true ++ [rt (List.drop (hf 2) [a, b])] = _
  rw [hf2, lk_end _ _ _ (by simp)]
  simp only [List.drop_succ_cons, List.drop_zero, rt_one, if_true, List.nil_append]
theorem lk31 : lk [a, b, c] 1 true = [b, c] := by
  rw [lk_le _ _ _ (by simp) (by simp) (by show 1 ≤ hf 3; rw [hf3]; omega)]
  show lk (List.take (hf 3) [a, b, c]) 1 true ++ [rt (List.drop (hf 3) [a, b, c])] = _
  rw [hf3]
  simp only [List.take_succ_cons, List.take_zero, List.drop_succ_cons, List.drop_zero, rt_one, lk21, List.cons_append, List.nil_append]
theorem up32 (s : ByteArray) : upv 3 2 s [nd a b] = nd (nd a b) s := by
  rw [upv_ge _ _ _ _ (by omega) (by rw [hf3]; omega), hf3, upv_one _ _ _ _ (by omega)]
  rfl
theorem pl32 : plen 3 2 = 1 := by
  rw [plen_ge _ _ (by omega) (by rw [hf3]; omega), hf3, plen_one _ _ (by omega)]
theorem bo31 (o : ByteArray) : bothv 3 1 true o [b, c] = (o, nd (nd o b) c) := by
  rw [bothv_le _ _ _ _ _ (by omega) (by omega) (by rw [hf3]; omega), hf3]
  show ((bothv 2 1 true o [b]).1, nd (bothv 2 1 true o [b]).2 c) = _
  rw [bothv_le _ _ _ _ _ (by omega) (by omega) (by rw [hf2]; omega), hf2, bothv_end _ _ _ _ _ (by omega), if_pos rfl]
  rfl
theorem ll31 : llen 3 1 true = 2 := by
  rw [llen_le _ _ _ (by omega) (by omega) (by rw [hf3]; omega), hf3, llen_le _ _ _ (by omega) (by omega) (by rw [hf2]; omega), hf2, llen_end _ _ _ (by omega), if_pos rfl]
end

def xa : ByteArray := lf ⟨#[97]⟩
def xb : ByteArray := lf ⟨#[98]⟩
def xc : ByteArray := lf ⟨#[99]⟩
theorem ne1 : nd (nd xa xb) xb ≠ nd (nd xa xb) xc := fun h => absurd (decide_eq_true h) (by rw [show decide (nd (nd xa xb) xb = nd (nd xa xb) xc) = false from by kernel_rfl]; simp)
theorem ne2 : nd (nd xb xb) xc ≠ nd (nd xa xb) xc := fun h => absurd (decide_eq_true h) (by rw [show decide (nd (nd xb xb) xc = nd (nd xa xb) xc) = false from by kernel_rfl]; simp)
theorem isD_lf (s : ByteArray) : isD (lf s) = true := isD_dg _
theorem chk1 : chkB (nd (nd xa xb) xc) 3 2 xc [nd xa xb] = true := by
  unfold chkB
  show (decide ((3 : Int) ≤ 1000000 ∧ (0 : Int) ≤ 2 ∧ (2 : Int) < 3) && allD [nd xa xb] && isD xc && (decide (upv 3 2 xc [nd xa xb] = nd (nd xa xb) xc) && decide ([nd xa xb].length = plen 3 2))) = true
  rw [up32, pl32]
  simp [allD, isD_nd, show isD xc = true from isD_lf _]
theorem chk2 : chkB (nd (nd xa xb) xc) 3 2 xb [nd xa xb] = false := by
  unfold chkB
  show (decide ((3 : Int) ≤ 1000000 ∧ (0 : Int) ≤ 2 ∧ (2 : Int) < 3) && allD [nd xa xb] && isD xb && (decide (upv 3 2 xb [nd xa xb] = nd (nd xa xb) xc) && decide ([nd xa xb].length = plen 3 2))) = false
  rw [up32, decide_eq_false ne1]
  simp
end

section
open Go.RowKit

theorem evp_zero (a : Int) (l : List Int) (h : elemB a = true) : evp (a :: l) 0 = a := by
  have := (elemB_iff a).1 h
  simp only [evp]; omega

theorem elemB_mod (a : Int) : elemB (a % 2147483647) = true := by rw [elemB_iff]; omega

/-- The shares of a polynomial lie on it. -/
theorem shs_on (p : List Int) (m : Nat) (hm : m ≤ 16) : On p (shs p m) := by
  refine ⟨fun s hs => ?_, fun s hs => ?_, ?_⟩
  · obtain ⟨i, hi, rfl⟩ := List.mem_map.1 hs
    have := List.mem_range.1 hi
    simp only; omega
  · obtain ⟨i, hi, rfl⟩ := List.mem_map.1 hs
    rfl
  · have e : (shs p m).map (·.1) = (List.range m).map fun (i : Nat) => (i : Int) + 1 := by simp [shs]
    rw [e]
    refine List.pairwise_map.2 (List.Pairwise.imp ?_ List.nodup_range)
    intro a b hab h
    exact hab (by omega)

theorem On.reverse {p : List Int} {l : List (Int × Int)} (h : On p l) : On p l.reverse :=
  ⟨fun s hs => h.place s (by simpa using hs), fun s hs => h.value s (by simpa using hs), by rw [List.map_reverse]; exact (List.reverse_perm _).nodup_iff.2 h.nodup⟩
end

section
open Go.RowKit

theorem shs_place (p : List Int) (m j : Nat) (t : Int × Int) (h : (shs p m)[j]? = some t) : t.1 = (j : Int) + 1 := by
  unfold shs at h
  rw [List.getElem?_map] at h
  cases hr : (List.range m)[j]? with
  | none => rw [hr] at h; cases h
  | some i =>
    rw [hr] at h
    obtain ⟨hl, e⟩ := List.getElem?_eq_some_iff.1 hr
    rw [List.getElem_range] at e
    subst e
    have := Option.some.inj h
    rw [← this]

theorem shChk_own (L : List (Int × Int)) (k : Nat) (t : Int × Int) (hL : L.length ≤ 16) (h1 : 1 ≤ L.length) (ht : L[k]? = some t) (hp : t.1 = (k : Int) + 1) (hv : validB t = true) :
    shChk (rt (L.map shLf)) (L.length : Int) t (pt (L.map shLf) k) = true := by
  have hk := (List.getElem?_eq_some_iff.1 ht).1
  unfold shChk
  rw [decide_eq_true (⟨by omega, by omega, by omega⟩ : 1 ≤ (L.length : Int) ∧ (L.length : Int) ≤ 16 ∧ t.1 ≤ (L.length : Int)), hv, Bool.true_and, Bool.true_and, show t.1 - 1 = (k : Int) from by omega]
  have := incl_yes (L.map shLf) k (shLf t) (shLf_D L) (by rw [List.getElem?_map, ht]; rfl) (by rw [List.length_map]; omega)
  rw [List.length_map] at this
  exact this

theorem shChk_parts {L : List (Int × Int)} {root : ByteArray} {s : Int × Int} {p : List ByteArray} (h : shChk root (L.length : Int) s p = true) :
    validB s = true ∧ ∃ (j : Nat) (t : Int × Int), s.1 = (j : Int) + 1 ∧ L[j]? = some t ∧ allD p = true ∧ upv L.length j (shLf s) p = root ∧ p.length = plen L.length j := by
  unfold shChk at h
  simp only [Bool.and_eq_true, decide_eq_true_eq] at h
  obtain ⟨⟨⟨h1, h2, h3⟩, h4⟩, h5⟩ := h
  obtain ⟨g1, g2⟩ := valid_nat h4
  obtain ⟨t, ht⟩ := get_some L (s.1 - 1).toNat (by omega)
  refine ⟨h4, (s.1 - 1).toNat, t, by omega, ht, ?_⟩
  rw [show s.1 - 1 = (((s.1 - 1).toNat : Nat) : Int) from by omega] at h5
  exact chk_parts h5
end

section
open Go.RowKit

def L3 : List (Int × Int) := [(1, 12), (2, 17), (3, 22)]
def R3 : ByteArray := rt (L3.map shLf)
theorem L3_val : L3.all validB = true := by decide
theorem R3_D : isD R3 = true := isD_rt _ (shLf_D _)
theorem c3_own (k : Nat) (t : Int × Int) (ht : L3[k]? = some t) (hp : t.1 = (k : Int) + 1) : shChk R3 ((3 : Nat) : Int) t (pt (L3.map shLf) k) = true :=
  shChk_own L3 k t (by decide) (by decide) ht hp (List.all_eq_true.1 L3_val t (List.mem_of_getElem? ht))
theorem ne3 : nd (nd (shLf (1, 12)) (shLf (2, 17))) (shLf (3, 23)) ≠ nd (nd (shLf (1, 12)) (shLf (2, 17))) (shLf (3, 22)) :=
  fun h => absurd (decide_eq_true h) (by rw [show decide (nd (nd (shLf (1, 12)) (shLf (2, 17))) (shLf (3, 23)) = nd (nd (shLf (1, 12)) (shLf (2, 17))) (shLf (3, 22))) = false from by kernel_rfl]; simp)
theorem R3_eq : R3 = nd (nd (shLf (1, 12)) (shLf (2, 17))) (shLf (3, 22)) := by
  show rt [shLf (1, 12), shLf (2, 17), shLf (3, 22)] = _
  rw [rt3]
theorem c3_bad : shChk R3 ((3 : Nat) : Int) (3, 23) (pt (L3.map shLf) 2) = false := by
  have e : pt (L3.map shLf) 2 = [nd (shLf (1, 12)) (shLf (2, 17))] := by
    show pt [shLf (1, 12), shLf (2, 17), shLf (3, 22)] 2 = _
    rw [pt32]
  unfold shChk
  rw [e, R3_eq]
  have h : chkB (nd (nd (shLf (1, 12)) (shLf (2, 17))) (shLf (3, 22))) ((3 : Nat) : Int) ((3 : Int) - 1) (shLf (3, 23)) [nd (shLf (1, 12)) (shLf (2, 17))] = false := by
    unfold chkB
    show (decide (((3 : Nat) : Int) ≤ 1000000 ∧ (0 : Int) ≤ 2 ∧ (2 : Int) < ((3 : Nat) : Int)) && allD [nd (shLf (1, 12)) (shLf (2, 17))] && isD (shLf (3, 23)) && (decide (upv 3 2 (shLf (3, 23)) [nd (shLf (1, 12)) (shLf (2, 17))] = nd (nd (shLf (1, 12)) (shLf (2, 17))) (shLf (3, 22))) && decide ([nd (shLf (1, 12)) (shLf (2, 17))].length = plen 3 2))) = false
    rw [up32, decide_eq_false ne3]
    simp
  rw [show ((3, 23) : Int × Int).1 - 1 = (3 : Int) - 1 from rfl, h, Bool.and_false]

def Pk (k : Nat) : List ByteArray := pt (L3.map shLf) k
theorem h3_o1 : offE R3 ((3 : Nat) : Int) [] false (1, 12) (Pk 0) = 0 := by
  unfold offE Pk
  rw [c3_own 0 (1, 12) rfl rfl]; rfl
theorem h3_s1 : offS R3 ((3 : Nat) : Int) [] false (1, 12) (Pk 0) = [(1, 12)] := by unfold offS; rw [h3_o1]; rfl
theorem h3_o2 : offE R3 ((3 : Nat) : Int) [(1, 12)] false (1, 12) (Pk 0) = 8 := by
  unfold offE Pk
  rw [c3_own 0 (1, 12) rfl rfl]; rfl
theorem h3_s2 : offS R3 ((3 : Nat) : Int) [(1, 12)] false (1, 12) (Pk 0) = [(1, 12)] := by unfold offS; rw [h3_o2]; rfl
theorem h3_o3 : offE R3 ((3 : Nat) : Int) [(1, 12)] false (3, 23) (Pk 2) = 24 := by
  unfold offE Pk
  rw [c3_bad]; rfl
theorem h3_s3 : offS R3 ((3 : Nat) : Int) [(1, 12)] false (3, 23) (Pk 2) = [(1, 12)] := by unfold offS; rw [h3_o3]; rfl
theorem h3_o4 : offE R3 ((3 : Nat) : Int) [(1, 12)] false (3, 22) (Pk 2) = 0 := by
  unfold offE Pk
  rw [c3_own 2 (3, 22) rfl rfl]; rfl
theorem h3_s4 : offS R3 ((3 : Nat) : Int) [(1, 12)] false (3, 22) (Pk 2) = [(1, 12), (3, 22)] := by unfold offS; rw [h3_o4]; rfl
theorem on3 : On [7, 5] [(1, 12), (3, 22)] := ⟨by simp, by simp [evp], by decide⟩
theorem h3_j1 : opnR ((2 : Nat) : Int) 3 [(1, 12)] false = (0, 25) := by
  show joinF (ord [(1, 12)] 3) ((2 : Nat) : Int) = _
  rw [show ord [(1, 12)] 3 = [(1, 12)] from rfl]
  exact joinF_on_few [7, 5] 2 _ (on3.sublist (by simp)) (by omega) (by omega) (by simp)
theorem h3_j2 : opnR ((2 : Nat) : Int) 3 [(1, 12), (3, 22)] false = (7, 0) := by
  show joinF (ord [(1, 12), (3, 22)] 3) ((2 : Nat) : Int) = _
  rw [show ord [(1, 12), (3, 22)] 3 = [(1, 12), (3, 22)] from rfl]
  exact joinF_on [7, 5] 2 _ on3 (by omega) (by omega) (by simp) (by simp)
theorem h3_j3 : opnR ((2 : Nat) : Int) 3 [(1, 12), (3, 22)] true = (0, 11) := rfl
theorem Pk_len (k : Nat) : (Pk k).length ≤ 1000000 := by
  unfold Pk
  rw [pt_len]
  have := plen_lt_n (L3.map shLf).length k (by decide)
  have e : (L3.map shLf).length = 3 := rfl
  omega
theorem Pk_sm (k : Nat) : sm (Pk k) := pt_below _ _ (shLf_sm _)

/-! ### blinding and back -/
theorem back_ok {l : List Int} {s : Int} (h : mvOk l s 1000000000 = true) : mvOk (blL l s) s 1001000002 = true ∧ unL (blL l s) s = l := by
  have h0 := h
  simp only [mvOk, Bool.and_eq_true, decide_eq_true_eq, List.all_eq_true] at h
  obtain ⟨⟨h1, h2⟩, h3⟩ := h
  have e : blL l s = mvA l s.toNat 1 := by unfold blL mvL; rw [h0]; rfl
  have hok : mvOk (mvA l s.toNat 1) s 1001000002 = true := by
    simp only [mvOk, Bool.and_eq_true, decide_eq_true_eq, List.all_eq_true]
    refine ⟨⟨by rw [mvA_length]; exact h1, h2⟩, fun y hy => ?_⟩
    obtain ⟨i, hi⟩ := List.getElem?_of_mem hy
    have hil : i < l.length := by have := (List.getElem?_eq_some_iff.1 hi).1; rwa [mvA_length] at this
    obtain ⟨x, hx⟩ := get_some l i hil
    rw [mvA_get s.toNat 1 hx] at hi
    have hy' := Option.some.inj hi
    have hr := h3 x (List.mem_of_getElem? hx)
    have ho := offN_lt s.toNat i
    simp only [mvR, Bool.and_eq_true, decide_eq_true_eq] at hr ⊢
    omega
  refine ⟨by rw [e]; exact hok, ?_⟩
  rw [e]
  unfold unL mvL
  rw [hok, if_pos rfl]
  apply List.ext_getElem?
  intro i
  cases hx : l[i]? with
  | none =>
    rw [List.getElem?_eq_none_iff] at hx ⊢
    rw [mvA_length, mvA_length]; exact hx
  | some x =>
    rw [mvA_get s.toNat (-1) (mvA_get s.toNat 1 hx)]
    congr 1
    omega
theorem blL_get {l : List Int} {s : Int} (h : mvOk l s 1000000000 = true) {i : Nat} {x : Int} (hx : l[i]? = some x) : (blL l s)[i]? = some (x + (offN s.toNat i : Int)) := by
  unfold blL mvL
  rw [h, if_pos rfl, mvA_get s.toNat 1 hx]
  congr 1
  omega
theorem blL_len {l : List Int} {s : Int} (h : mvOk l s 1000000000 = true) : (blL l s).length = l.length := by
  unfold blL mvL
  rw [h, if_pos rfl, mvA_length]
theorem h3_bl : mvOk [5, -5] 7 1000000000 = true := by decide
end

section
open Go.RowKit

/-- A vault in memory: its block g, the block B of the map of the offered shares. -/
def PV (w : World) (g B : Nat) (need total : Nat) (root : ByteArray) (S : List (Int × Int)) (opn : Bool) : Prop :=
  Blk w g 84 #[.int .i64 need, .int .i64 total, .string root, .map (some B), .bool opn] ∧ Offs w B S.length S ∧ g ≠ B
theorem PV.kept {w w' : World} {g B need total : Nat} {root : ByteArray} {S : List (Int × Int)} {opn : Bool} (h : PV w g B need total root S opn) (h1 : w'.heap[g]? = w.heap[g]?) (h2 : w'.heap[B]? = w.heap[B]?) : PV w' g B need total root S opn :=
  ⟨h1.trans h.1, h.2.1.kept h2, h.2.2⟩
theorem PV.lt {w : World} {g B need total : Nat} {root : ByteArray} {S : List (Int × Int)} {opn : Bool} (h : PV w g B need total root S opn) : g < w.heap.size ∧ B < w.heap.size := ⟨h.1.lt, h.2.1.lt⟩
theorem PV.chg {w w' : World} {F : List Nat} {g B need total : Nat} {root : ByteArray} {S : List (Int × Int)} {opn : Bool} (h : PV w g B need total root S opn) (hc : Chg F w w') (hg : g ∉ F) (hB : B ∉ F) : PV w' g B need total root S opn :=
  h.kept (hc.block g h.lt.1 hg) (hc.block B h.lt.2 hB)
theorem PV.below {w w' : World} {g B need total : Nat} {root : ByteArray} {S : List (Int × Int)} {opn : Bool} (h : PV w g B need total root S opn) (hb : Below w.heap.size w w') : PV w' g B need total root S opn :=
  h.kept (hb.block g h.lt.1) (hb.block B h.lt.2)

def newOk (need total : Int) (root : ByteArray) : Bool := decide (1 ≤ total ∧ total ≤ 16 ∧ 1 ≤ need ∧ need ≤ total) && isD root

set_option maxHeartbeats 4000000 in
theorem vnew_ok (need total : Nat) (root : ByteArray) (w : World) (hr : root.size ≤ 1000000000) (h1 : 1 ≤ need) (h2 : need ≤ total) (h3 : total ≤ 16) (hd : isD root = true) :
    Calls Tryz.prog 19 #[.int .i64 need, .string root, .int .i64 total] w fun e w' => ∃ g B, e = .returned (.tuple #[.pointer (some ⟨g, 0, none⟩), .int .i64 0]) ∧ PV w' g B need total root [] false ∧ w.heap.size ≤ g ∧ w.heap.size ≤ B ∧ Below w.heap.size w w' := by
  have HI := Lib.hid (is_any root w hr)
  rw [hd] at HI
  have hmm := @run_makeMap Tryz.prog
  have d1 : decide ((total : Int) < 1) = false := decide_eq_false (by omega)
  have d2 : decide (16 < (total : Int)) = false := decide_eq_false (by omega)
  have d3 : decide ((need : Int) < 1) = false := decide_eq_false (by omega)
  have d4 : decide (total < need) = false := decide_eq_false (by omega)
  clear hd
  go_enter Tryz.func19, Tryz.ntmps19
  go_wp2_with fail
  refine HI.out.mono ?_
  rintro e w1 ⟨rfl, hb⟩
  have HB := Lib.hid hb
  clear hb
  go_wp2
  go_ret2
  refine ⟨_, _, rfl, ⟨Blk.new _ _ _ _ (by simp), (Offs.made w1).below (below_alloc (Below.refl _ _) _), ?_⟩, ?_, ?_, below_trans HB.out (below_alloc (below_alloc (Below.refl _ _) _) _)⟩
  · simp
  · have := HB.out.size; simp; omega
  · have := HB.out.size; simp; omega

set_option maxHeartbeats 4000000 in
theorem vnew_bad (need total : Int) (root : ByteArray) (w : World) (hr : root.size ≤ 1000000000) (h : newOk need total root = false) :
    Calls Tryz.prog 19 #[.int .i64 need, .string root, .int .i64 total] w fun e w' => e = .returned (.tuple #[.pointer none, .int .i64 1]) ∧ Below w.heap.size w w' := by
  have HI := Lib.hid (is_any root w hr)
  by_cases h1 : total < 1
  · have d1 : decide (total < 1) = true := decide_eq_true h1
    go_enter Tryz.func19, Tryz.ntmps19
    go_wp2
    go_ret2
    exact ⟨rfl, Below.refl _ _⟩
  have d1 : decide (total < 1) = false := decide_eq_false h1
  by_cases h2 : 16 < total
  · have d2 : decide (16 < total) = true := decide_eq_true h2
    go_enter Tryz.func19, Tryz.ntmps19
    go_wp2
    go_ret2
    exact ⟨rfl, Below.refl _ _⟩
  have d2 : decide (16 < total) = false := decide_eq_false h2
  by_cases h3 : need < 1
  · have d3 : decide (need < 1) = true := decide_eq_true h3
    go_enter Tryz.func19, Tryz.ntmps19
    go_wp2
    go_ret2
    exact ⟨rfl, Below.refl _ _⟩
  have d3 : decide (need < 1) = false := decide_eq_false h3
  by_cases h4 : total < need
  · have d4 : decide (total < need) = true := decide_eq_true h4
    go_enter Tryz.func19, Tryz.ntmps19
    go_wp2
    go_ret2
    exact ⟨rfl, Below.refl _ _⟩
  have d4 : decide (total < need) = false := decide_eq_false h4
  have hd : isD root = false := by
    have := h
    unfold newOk at this
    rw [decide_eq_true (by omega), Bool.true_and] at this
    exact this
  rw [hd] at HI
  clear hd h
  go_enter Tryz.func19, Tryz.ntmps19
  go_wp2_with fail
  refine HI.out.mono ?_
  rintro e w1 ⟨rfl, hb⟩
  have HB := Lib.hid hb
  clear hb
  go_wp2
  go_ret2
  exact ⟨rfl, HB.out⟩

set_option maxHeartbeats 4000000 in
theorem holds_any (need total : Int) (root : ByteArray) (s : Int × Int) (C : Option Addr) (f : Nat) (p : List ByteArray) (w : World) (hS : Strs w C p) (hbig : p.length ≤ 1000000) (hcap : p.length ≤ f) (hsm : sm p) (hT : Tabs w) :
    Calls Tryz.prog 49 #[.agg #[.int .i64 need, .int .i64 total, .string root], .agg #[.int .i64 s.1, .int .i64 s.2], .slice C p.length f] w fun e w' => e = .returned (.bool (shChk root total s p)) ∧ Below w.heap.size w w' := by
  have H : Hid (∀ W, Below w.heap.size w W → _) := Lib.hid (fun W hW => scheck_any root total s C f p W (hS.below hW) hbig hcap hsm (hT.below hW))
  clear hS hsm hT
  go_enter Tryz.func49, Tryz.ntmps49
  go_wp2_with fail
  refine (H.out _ (below_alloc (below_alloc (Below.refl _ _) _) _)).mono ?_
  rintro e w1 ⟨rfl, hb⟩
  have HB := Lib.hid hb
  clear hb
  go_wp2
  go_ret
  exact ⟨rfl, below_trans (below_alloc (below_alloc (Below.refl _ _) _) _) HB.out⟩
set_option maxRecDepth 100000 in
set_option maxHeartbeats 16000000 in
theorem voffer_any (g B need total : Nat) (root : ByteArray) (S : List (Int × Int)) (opn : Bool) (s : Int × Int) (C : Option Addr) (f : Nat) (p : List ByteArray) (w : World) (hV : PV w g B need total root S opn) (hn : S.length ≤ 1000) (hP : Strs w C p) (hbig : p.length ≤ 1000000) (hcap : p.length ≤ f) (hsm : sm p) (hT : Tabs w) :
    Calls Tryz.prog 25 #[.pointer (some ⟨g, 0, none⟩), .agg #[.int .i64 s.1, .int .i64 s.2], .slice C p.length f] w fun e w' =>
      e = .returned (.int .i64 (offE root total S opn s p)) ∧ PV w' g B need total root (offS root total S opn s p) opn ∧ Chg [g, B] w w' := by
  obtain ⟨w0, hw0⟩ : ∃ w0, w.alloc (.cells #[.int .i64 s.1, .int .i64 s.2] 37) = w0 := ⟨_, rfl⟩
  have HB0 : Hid (Below w.heap.size w w0) := Lib.hid (by rw [← hw0]; exact below_alloc (Below.refl _ _) _)
  have HK : Hid (∀ W, Below w0.heap.size w0 W → W.cell? ⟨w.heap.size, 0, none⟩ = some (.int .i64 s.1) ∧ W.cell? ⟨w.heap.size, 1, none⟩ = some (.int .i64 s.2)) := Lib.hid (fun W hW => by
    have hb : Blk w0 w.heap.size 37 #[.int .i64 s.1, .int .i64 s.2] := by rw [← hw0]; exact Blk.new w _ _ _ rfl
    exact ⟨kept_cell hW (hb.of_cell rfl), kept_cell hW (hb.of_cell rfl)⟩)
  have HV : Hid (∀ W, Below w0.heap.size w0 W → PV W g B need total root S opn) := Lib.hid (fun W hW => (hV.below HB0.out).below hW)
  have HVW := Lib.hid hV
  have HH : Hid (∀ W, Below w0.heap.size w0 W → _) := Lib.hid (fun W hW => holds_any need total root s C f p W ((hP.below HB0.out).below hW) hbig hcap hsm ((hT.below HB0.out).below hW))
  have HW0 := Lib.hid hw0
  have HGC : Hid (∀ W, Below w0.heap.size w0 W → W.cell? ⟨g, 0, none⟩ = some (.int .i64 need) ∧ W.cell? ⟨g, 1, none⟩ = some (.int .i64 total) ∧ W.cell? ⟨g, 2, none⟩ = some (.string root) ∧ W.cell? ⟨g, 3, none⟩ = some (.map (some B)) ∧ W.cell? ⟨g, 4, none⟩ = some (.bool opn)) := Lib.hid (fun W hW => by
    have hb := (HV.out W hW).1
    exact ⟨hb.of_cell rfl, hb.of_cell rfl, hb.of_cell rfl, hb.of_cell rfl, hb.of_cell rfl⟩)
  obtain ⟨er, her⟩ : ∃ er, offE root total S opn s p = er := ⟨_, rfl⟩
  obtain ⟨S', hS'⟩ : ∃ S', offS root total S opn s p = S' := ⟨_, rfl⟩
  have HER := Lib.hid her
  have HS' := Lib.hid hS'
  rw [her, hS']
  obtain ⟨ck, hck⟩ : ∃ ck, shChk root total s p = ck := ⟨_, rfl⟩
  have HCK := Lib.hid hck
  rw [hck] at HH
  clear hw0 hV hP hsm hT her hS' hck
  obtain ⟨c0, c1, c2, c3, c4⟩ := HGC.out w0 (Below.refl _ _)
  have cl := lt_of_cell c0
  cases opn with
  | true =>
    have he : er = 11 := by rw [← HER.out]; rfl
    have hs : S' = S := by rw [← HS'.out]; unfold offS; rw [HER.out, he]; rfl
    subst he
    subst hs
    go_enter Tryz.func25, Tryz.ntmps25
    go_upto_region 1 with (fail)
    rw [HW0.out]
    go_wp2
    go_ret
    exact ⟨rfl, HV.out _ (Below.refl _ _), Chg.of_below HB0.out _⟩
  | false =>
  cases ck with
  | false =>
    have he : er = 24 := by rw [← HER.out]; unfold offE; rw [HCK.out]; rfl
    have hs : S' = S := by rw [← HS'.out]; unfold offS; rw [HER.out, he]; rfl
    subst he
    subst hs
    go_enter Tryz.func25, Tryz.ntmps25
    go_upto_region 1 with (fail)
    rw [HW0.out]
    go_wp2_with fail
    clear c0 c1 c2 c3 c4 cl
    refine wp_region_belowC (by kernel_rfl) (by kernel_rfl) (fun WQ HQS HQN => ?_)
    refine HQS.go (fun K hK => ?_)
    go_simp
    apply Exists.intro
    refine ⟨fun W hW => ?_, hK _ ?_⟩
    · (try go_simp)
      exact rfl
    clear hK K
    refine HQS.go (fun K hK => ?_)
    go_simp
    apply Exists.intro
    refine ⟨fun W hW => ?_, hK _ ?_⟩
    · (try go_simp)
      exact rfl
    clear hK K
    refine HQS.go (fun K hK => ?_)
    go_simp
    apply Exists.intro
    refine ⟨fun W hW => ?_, hK _ ?_⟩
    · (try go_simp)
      exact rfl
    clear hK K
    refine HQS.go (fun K hK => ?_)
    go_simp
    apply Exists.intro
    refine ⟨fun W hW => ?_, hK _ ?_⟩
    · obtain ⟨c0, c1, c2, c3, c4⟩ := HGC.out W hW
      have cl := lt_of_cell c0
      go_simp
      exact rfl
    clear hK K
    refine HQS.go (fun K hK => ?_)
    go_simp
    apply Exists.intro
    refine ⟨fun W hW => ?_, hK _ ?_⟩
    · obtain ⟨q0, q1⟩ := HK.out W hW
      have ql := lt_of_cell q0
      go_simp
      exact rfl
    clear hK K
    refine HQS.go (fun K hK => ?_)
    go_simp
    apply Exists.intro
    refine ⟨fun W hW => ?_, hK _ ?_⟩
    · (try go_simp)
      exact rfl
    clear hK K
    refine HQS.go (fun K hK => ?_)
    go_simp
    apply Exists.intro
    refine ⟨fun W hW => ?_, hK _ ?_⟩
    · exact (HH.out W hW).mono fun _ _ ⟨he, hb⟩ => ⟨he, below_trans hW hb⟩
    clear hK K
    refine HQS.go (fun K hK => ?_)
    go_simp
    apply Exists.intro
    refine ⟨fun W hW => ?_, hK _ ?_⟩
    · (try go_simp)
      exact rfl
    clear hK K
    refine HQS.go (fun K hK => ?_)
    go_simp
    apply Exists.intro
    refine ⟨fun W hW => ?_, hK _ ?_⟩
    · (try go_simp)
      exact rfl
    clear hK K
    refine HQN.go ?_
    intro w2 hW
    have HB2 := Lib.hid hW
    clear hW
    go_wp2
    go_ret
    exact ⟨rfl, HV.out _ HB2.out, Chg.of_below (below_trans HB0.out HB2.out) _⟩
  | true =>
  have hvp : 1 ≤ s.1 ∧ s.1 ≤ 16 := by
      have h1 := HCK.out
      unfold shChk at h1
      simp only [Bool.and_eq_true] at h1
      have := (validB_iff s).1 h1.1.2
      omega
  have HFL : Hid (∀ W, Below w0.heap.size w0 W → (Instr.lookup 82 (.map (some B)) (.int .i64 s.1) true).run Tryz.prog W = .ok (.tuple #[match fnd S s.1 with | some s => .agg #[.int .i64 s.1, .int .i64 s.2] | none => .agg #[.int .i64 0, .int .i64 0], .bool (fnd S s.1).isSome]) W) := Lib.hid (fun W hW => (HV.out W hW).2.1.look s.1 (WalkArith.wf_i64 (by omega)))
  cases hf : fnd S s.1 with
  | some t =>
    have he : er = 8 := by rw [← HER.out]; unfold offE; rw [HCK.out, hf]; rfl
    have hs : S' = S := by rw [← HS'.out]; unfold offS; rw [HER.out, he]; rfl
    subst he
    subst hs
    rw [hf] at HFL
    have HFL' : Hid (∀ W, Below w0.heap.size w0 W → (Instr.lookup 82 (.map (some B)) (.int .i64 s.1) true).run Tryz.prog W = .ok (.tuple #[.agg #[.int .i64 t.1, .int .i64 t.2], .bool true]) W) := HFL
    clear HFL hf
    go_enter Tryz.func25, Tryz.ntmps25
    go_upto_region 1 with (fail)
    rw [HW0.out]
    go_wp2_with fail
    clear c0 c1 c2 c3 c4 cl
    refine wp_region_belowC (by kernel_rfl) (by kernel_rfl) (fun WQ HQS HQN => ?_)
    refine HQS.go (fun K hK => ?_)
    go_simp
    apply Exists.intro
    refine ⟨fun W hW => ?_, hK _ ?_⟩
    · (try go_simp)
      exact rfl
    clear hK K
    refine HQS.go (fun K hK => ?_)
    go_simp
    apply Exists.intro
    refine ⟨fun W hW => ?_, hK _ ?_⟩
    · (try go_simp)
      exact rfl
    clear hK K
    refine HQS.go (fun K hK => ?_)
    go_simp
    apply Exists.intro
    refine ⟨fun W hW => ?_, hK _ ?_⟩
    · (try go_simp)
      exact rfl
    clear hK K
    refine HQS.go (fun K hK => ?_)
    go_simp
    apply Exists.intro
    refine ⟨fun W hW => ?_, hK _ ?_⟩
    · obtain ⟨c0, c1, c2, c3, c4⟩ := HGC.out W hW
      have cl := lt_of_cell c0
      go_simp
      exact rfl
    clear hK K
    refine HQS.go (fun K hK => ?_)
    go_simp
    apply Exists.intro
    refine ⟨fun W hW => ?_, hK _ ?_⟩
    · obtain ⟨q0, q1⟩ := HK.out W hW
      have ql := lt_of_cell q0
      go_simp
      exact rfl
    clear hK K
    refine HQS.go (fun K hK => ?_)
    go_simp
    apply Exists.intro
    refine ⟨fun W hW => ?_, hK _ ?_⟩
    · (try go_simp)
      exact rfl
    clear hK K
    refine HQS.go (fun K hK => ?_)
    go_simp
    apply Exists.intro
    refine ⟨fun W hW => ?_, hK _ ?_⟩
    · exact (HH.out W hW).mono fun _ _ ⟨he, hb⟩ => ⟨he, below_trans hW hb⟩
    clear hK K
    refine HQS.go (fun K hK => ?_)
    go_simp
    apply Exists.intro
    refine ⟨fun W hW => ?_, hK _ ?_⟩
    · (try go_simp)
      exact rfl
    clear hK K
    refine HQS.go (fun K hK => ?_)
    go_simp
    apply Exists.intro
    refine ⟨fun W hW => ?_, hK _ ?_⟩
    · (try go_simp)
      exact rfl
    clear hK K
    refine HQN.go ?_
    intro w2 hW
    have HB2 := Lib.hid hW
    clear hW
    obtain ⟨c0, c1, c2, c3, c4⟩ := HGC.out w2 HB2.out
    have cl := lt_of_cell c0
    go_wp2_with fail
    clear c0 c1 c2 c3 c4 cl
    refine wp_region_held_drew (S := fun W => Below w2.heap.size w2 W) (by kernel_rfl) ((Below.refl _ _).drew) (fun hS0 => ?_)
    refine wpAnyH_take (i := 0) (v := ?_) rfl (by kernel_rfl) (by kernel_rfl) (by kernel_rfl) (fun _ _ _ h => h) (Or.inl ⟨by kernel_rfl, ?hy⟩) hS0 ?rest
    case hy => (intro W hSw; clear hSw; go_simp; try with_reducible rfl)
    case rest =>
    refine wpAnyH_take (i := 1) (v := ?_) rfl (by kernel_rfl) (by kernel_rfl) (by kernel_rfl) (fun _ _ _ h => h) (Or.inl ⟨by kernel_rfl, ?hy⟩) hS0 ?rest
    case hy => (intro W hSw; clear hSw; go_simp; try with_reducible rfl)
    case rest =>
    refine wpAnyH_take (i := 2) (v := ?_) rfl (by kernel_rfl) (by kernel_rfl) (by kernel_rfl) (fun _ _ _ h => h) (Or.inl ⟨by kernel_rfl, ?hy⟩) hS0 ?rest
    case hy => (intro W hSw; clear hSw; go_simp; try with_reducible rfl)
    case rest =>
    refine wpAnyH_take (i := 3) (v := ?_) rfl (by kernel_rfl) (by kernel_rfl) (by kernel_rfl) (fun _ _ _ h => h) (Or.inl ⟨by kernel_rfl, ?hy⟩) hS0 ?rest
    case hy => (intro W hSw; obtain ⟨c0, c1, c2, c3, c4⟩ := HGC.out W (below_trans HB2.out hSw); have cl := lt_of_cell c0; clear hSw; go_simp; try with_reducible rfl)
    case rest =>
    refine wpAnyH_take (i := 4) (v := ?_) rfl (by kernel_rfl) (by kernel_rfl) (by kernel_rfl) (fun _ _ _ h => h) (Or.inl ⟨by kernel_rfl, ?hy⟩) hS0 ?rest
    case hy => (intro W hSw; clear hSw; go_simp; try with_reducible rfl)
    case rest =>
    refine wpAnyH_take (i := 5) (v := ?_) rfl (by kernel_rfl) (by kernel_rfl) (by kernel_rfl) (fun _ _ _ h => h) (Or.inl ⟨by kernel_rfl, ?hy⟩) hS0 ?rest
    case hy => (intro W hSw; obtain ⟨q0, q1⟩ := HK.out W (below_trans HB2.out hSw); have ql := lt_of_cell q0; clear hSw; go_simp; try with_reducible rfl)
    case rest =>
    refine wpAnyH_take (i := 6) (v := ?_) rfl (by kernel_rfl) (by kernel_rfl) (by kernel_rfl) (fun _ _ _ h => h) (Or.inl ⟨by kernel_rfl, ?hy⟩) hS0 ?rest
    case hy => (intro W hSw; have q := HFL'.out W (below_trans HB2.out hSw); clear hSw; go_simp; try with_reducible rfl)
    case rest =>
    refine wpAnyH_take (i := 7) (v := ?_) rfl (by kernel_rfl) (by kernel_rfl) (by kernel_rfl) (fun _ _ _ h => h) (Or.inl ⟨by kernel_rfl, ?hy⟩) hS0 ?rest
    case hy => (intro W hSw; clear hSw; go_simp; try with_reducible rfl)
    case rest =>
    refine wpAnyH_take (i := 8) (v := ?_) rfl (by kernel_rfl) (by kernel_rfl) (by kernel_rfl) (fun _ _ _ h => h) (Or.inl ⟨by kernel_rfl, ?hy⟩) hS0 ?rest
    case hy => (intro W hSw; clear hSw; go_simp; try with_reducible rfl)
    case rest =>
    refine wpAnyH_take (i := 9) (v := ?_) rfl (by kernel_rfl) (by kernel_rfl) (by kernel_rfl) (fun _ _ _ h => h) (Or.inl ⟨by kernel_rfl, ?hy⟩) hS0 ?rest
    case hy => (intro W hSw; clear hSw; go_simp; try with_reducible rfl)
    case rest =>
    refine wpAnyH_ready (rs := [10]) (by kernel_rfl) (by simp) ?_
    refine AllReadyH.cons rfl (fun K hK => ?_) (AllReadyH.nil)
    go_simp
    refine hK.out _ _ (below_alloc (Below.refl _ _).drew _) (fun hS1 => ?_)
    clear hK K
    refine wpAnyH_ready (rs := [11]) (by kernel_rfl) (by simp) ?_
    refine AllReadyH.cons rfl (fun K hK => ?_) (AllReadyH.nil)
    go_simp
    refine hK.out _ _ (below_alloc (Below.refl _ _).drew _) (fun hS2 => ?_)
    clear hK K
    refine wpAnyH_take (i := 12) (v := ?_) rfl (by kernel_rfl) (by kernel_rfl) (by kernel_rfl) (fun _ _ _ h => h) (Or.inl ⟨by kernel_rfl, ?hy⟩) hS2 ?rest
    case hy => (intro W hSw; clear hSw; go_simp; try with_reducible rfl)
    case rest =>
    refine wpAnyH_done (by kernel_rfl) ?_ _
    have HB3 : Hid (Below w0.heap.size w0 _) := Lib.hid (below_trans HB2.out hS2)
    clear hS0 hS1 hS2
    go_wp2
    go_ret
    exact ⟨rfl, HV.out _ HB3.out, Chg.of_below (below_trans HB0.out HB3.out) _⟩
  | none =>
    have he : er = 0 := by rw [← HER.out]; unfold offE; rw [HCK.out, hf]; rfl
    have hs : S' = S ++ [s] := by rw [← HS'.out]; unfold offS; rw [HER.out, he]; rfl
    subst he
    subst hs
    rw [hf] at HFL
    have HFL' : Hid (∀ W, Below w0.heap.size w0 W → (Instr.lookup 82 (.map (some B)) (.int .i64 s.1) true).run Tryz.prog W = .ok (.tuple #[.agg #[.int .i64 0, .int .i64 0], .bool false]) W) := HFL
    have HF := Lib.hid hf
    clear HFL hf
    go_enter Tryz.func25, Tryz.ntmps25
    go_upto_region 1 with (fail)
    rw [HW0.out]
    go_wp2_with fail
    clear c0 c1 c2 c3 c4 cl
    refine wp_region_belowC (by kernel_rfl) (by kernel_rfl) (fun WQ HQS HQN => ?_)
    refine HQS.go (fun K hK => ?_)
    go_simp
    apply Exists.intro
    refine ⟨fun W hW => ?_, hK _ ?_⟩
    · (try go_simp)
      exact rfl
    clear hK K
    refine HQS.go (fun K hK => ?_)
    go_simp
    apply Exists.intro
    refine ⟨fun W hW => ?_, hK _ ?_⟩
    · (try go_simp)
      exact rfl
    clear hK K
    refine HQS.go (fun K hK => ?_)
    go_simp
    apply Exists.intro
    refine ⟨fun W hW => ?_, hK _ ?_⟩
    · (try go_simp)
      exact rfl
    clear hK K
    refine HQS.go (fun K hK => ?_)
    go_simp
    apply Exists.intro
    refine ⟨fun W hW => ?_, hK _ ?_⟩
    · obtain ⟨c0, c1, c2, c3, c4⟩ := HGC.out W hW
      have cl := lt_of_cell c0
      go_simp
      exact rfl
    clear hK K
    refine HQS.go (fun K hK => ?_)
    go_simp
    apply Exists.intro
    refine ⟨fun W hW => ?_, hK _ ?_⟩
    · obtain ⟨q0, q1⟩ := HK.out W hW
      have ql := lt_of_cell q0
      go_simp
      exact rfl
    clear hK K
    refine HQS.go (fun K hK => ?_)
    go_simp
    apply Exists.intro
    refine ⟨fun W hW => ?_, hK _ ?_⟩
    · (try go_simp)
      exact rfl
    clear hK K
    refine HQS.go (fun K hK => ?_)
    go_simp
    apply Exists.intro
    refine ⟨fun W hW => ?_, hK _ ?_⟩
    · exact (HH.out W hW).mono fun _ _ ⟨he, hb⟩ => ⟨he, below_trans hW hb⟩
    clear hK K
    refine HQS.go (fun K hK => ?_)
    go_simp
    apply Exists.intro
    refine ⟨fun W hW => ?_, hK _ ?_⟩
    · (try go_simp)
      exact rfl
    clear hK K
    refine HQS.go (fun K hK => ?_)
    go_simp
    apply Exists.intro
    refine ⟨fun W hW => ?_, hK _ ?_⟩
    · (try go_simp)
      exact rfl
    clear hK K
    refine HQN.go ?_
    intro w2 hW
    have HB2 := Lib.hid hW
    clear hW
    obtain ⟨c0, c1, c2, c3, c4⟩ := HGC.out w2 HB2.out
    have cl := lt_of_cell c0
    go_wp2_with fail
    clear c0 c1 c2 c3 c4 cl
    refine wp_region_held_drew (S := fun W => Below w2.heap.size w2 W) (by kernel_rfl) ((Below.refl _ _).drew) (fun hS0 => ?_)
    refine wpAnyH_take (i := 0) (v := ?_) rfl (by kernel_rfl) (by kernel_rfl) (by kernel_rfl) (fun _ _ _ h => h) (Or.inl ⟨by kernel_rfl, ?hy⟩) hS0 ?rest
    case hy => (intro W hSw; clear hSw; go_simp; try with_reducible rfl)
    case rest =>
    refine wpAnyH_take (i := 1) (v := ?_) rfl (by kernel_rfl) (by kernel_rfl) (by kernel_rfl) (fun _ _ _ h => h) (Or.inl ⟨by kernel_rfl, ?hy⟩) hS0 ?rest
    case hy => (intro W hSw; clear hSw; go_simp; try with_reducible rfl)
    case rest =>
    refine wpAnyH_take (i := 2) (v := ?_) rfl (by kernel_rfl) (by kernel_rfl) (by kernel_rfl) (fun _ _ _ h => h) (Or.inl ⟨by kernel_rfl, ?hy⟩) hS0 ?rest
    case hy => (intro W hSw; clear hSw; go_simp; try with_reducible rfl)
    case rest =>
    refine wpAnyH_take (i := 3) (v := ?_) rfl (by kernel_rfl) (by kernel_rfl) (by kernel_rfl) (fun _ _ _ h => h) (Or.inl ⟨by kernel_rfl, ?hy⟩) hS0 ?rest
    case hy => (intro W hSw; obtain ⟨c0, c1, c2, c3, c4⟩ := HGC.out W (below_trans HB2.out hSw); have cl := lt_of_cell c0; clear hSw; go_simp; try with_reducible rfl)
    case rest =>
    refine wpAnyH_take (i := 4) (v := ?_) rfl (by kernel_rfl) (by kernel_rfl) (by kernel_rfl) (fun _ _ _ h => h) (Or.inl ⟨by kernel_rfl, ?hy⟩) hS0 ?rest
    case hy => (intro W hSw; clear hSw; go_simp; try with_reducible rfl)
    case rest =>
    refine wpAnyH_take (i := 5) (v := ?_) rfl (by kernel_rfl) (by kernel_rfl) (by kernel_rfl) (fun _ _ _ h => h) (Or.inl ⟨by kernel_rfl, ?hy⟩) hS0 ?rest
    case hy => (intro W hSw; obtain ⟨q0, q1⟩ := HK.out W (below_trans HB2.out hSw); have ql := lt_of_cell q0; clear hSw; go_simp; try with_reducible rfl)
    case rest =>
    refine wpAnyH_take (i := 6) (v := ?_) rfl (by kernel_rfl) (by kernel_rfl) (by kernel_rfl) (fun _ _ _ h => h) (Or.inl ⟨by kernel_rfl, ?hy⟩) hS0 ?rest
    case hy => (intro W hSw; have q := HFL'.out W (below_trans HB2.out hSw); clear hSw; go_simp; try with_reducible rfl)
    case rest =>
    refine wpAnyH_take (i := 7) (v := ?_) rfl (by kernel_rfl) (by kernel_rfl) (by kernel_rfl) (fun _ _ _ h => h) (Or.inl ⟨by kernel_rfl, ?hy⟩) hS0 ?rest
    case hy => (intro W hSw; clear hSw; go_simp; try with_reducible rfl)
    case rest =>
    refine wpAnyH_take (i := 8) (v := ?_) rfl (by kernel_rfl) (by kernel_rfl) (by kernel_rfl) (fun _ _ _ h => h) (Or.inl ⟨by kernel_rfl, ?hy⟩) hS0 ?rest
    case hy => (intro W hSw; clear hSw; go_simp; try with_reducible rfl)
    case rest =>
    refine wpAnyH_take (i := 9) (v := ?_) rfl (by kernel_rfl) (by kernel_rfl) (by kernel_rfl) (fun _ _ _ h => h) (Or.inl ⟨by kernel_rfl, ?hy⟩) hS0 ?rest
    case hy => (intro W hSw; clear hSw; go_simp; try with_reducible rfl)
    case rest =>
    refine wpAnyH_ready (rs := [10]) (by kernel_rfl) (by simp) ?_
    refine AllReadyH.cons rfl (fun K hK => ?_) (AllReadyH.nil)
    go_simp
    refine hK.out _ _ (below_alloc (Below.refl _ _).drew _) (fun hS1 => ?_)
    clear hK K
    refine wpAnyH_ready (rs := [11]) (by kernel_rfl) (by simp) ?_
    refine AllReadyH.cons rfl (fun K hK => ?_) (AllReadyH.nil)
    go_simp
    refine hK.out _ _ (below_alloc (Below.refl _ _).drew _) (fun hS2 => ?_)
    clear hK K
    refine wpAnyH_take (i := 12) (v := ?_) rfl (by kernel_rfl) (by kernel_rfl) (by kernel_rfl) (fun _ _ _ h => h) (Or.inl ⟨by kernel_rfl, ?hy⟩) hS2 ?rest
    case hy => (intro W hSw; clear hSw; go_simp; try with_reducible rfl)
    case rest =>
    refine wpAnyH_done (by kernel_rfl) ?_ _
    have HB3 : Hid (Below w0.heap.size w0 _) := Lib.hid (below_trans HB2.out hS2)
    clear hS0 hS1 hS2
    generalize (w2.alloc (.cells #[.int .i64 0, .int .i64 0] 37)).drew = w3 at *
    go_wp2_with fail
    refine wp_region_still_tail 7 (by kernel_rfl) (by kernel_rfl) ?_
    simp only [List.take_succ_cons, List.take_zero, List.drop_succ_cons, List.drop_zero]
    change wpStill _ _ (World.drew _) _ _ _
    have HD3 : Hid (Below w0.heap.size w0 w3.drew) := Lib.hid HB3.out.drew
    obtain ⟨c0, c1, c2, c3, c4⟩ := HGC.out w3.drew HD3.out
    obtain ⟨q0, q1⟩ := HK.out w3.drew HD3.out
    have cl := lt_of_cell c0
    have ql := lt_of_cell q0
    repeat still_step
    clear c0 c1 c2 c3 c4 q0 q1 cl ql
    refine wpStill_nil ?_
    change wpList _ _ _ _ _ (World.drew _)
    obtain ⟨w4, hw4, ho4, hg4⟩ := (HV.out _ (HB3.out.drew)).2.1.put s (WalkArith.wf_i64 (by omega)) (by omega) HF.out
    have HO4 := Lib.hid ho4
    have HG4 := Lib.hid hg4
    have HP4 : Hid (PV w4 g B need total root (S ++ [s]) false) := Lib.hid ⟨(HV.out _ (HB3.out.drew)).1.grown hg4 (by have := HVW.out.2.2; simpa using this), by rw [List.length_append]; exact ho4, HVW.out.2.2⟩
    clear ho4 hg4
    go_wp2
    go_ret
    exact ⟨rfl, HP4.out, ((Chg.of_below (below_trans HB0.out HB3.out) [g, B]).drew).grown HG4.out (fun k hk => .inl (by cases hk; simp))⟩

    
end

section
open Go.RowKit

set_option maxRecDepth 100000 in
set_option maxHeartbeats 16000000 in
theorem vopen_any (g B need total : Nat) (root : ByteArray) (S : List (Int × Int)) (opn : Bool) (w : World) (hV : PV w g B need total root S opn) (ht : total ≤ 16) :
    Calls Tryz.prog 23 #[.pointer (some ⟨g, 0, none⟩)] w fun e w' =>
      e = .returned (.tuple #[.int .i64 (opnR need total S opn).1, .int .i64 (opnR need total S opn).2]) ∧ PV w' g B need total root S (opn || ((opnR need total S opn).2 == 0)) ∧ Chg [g, B] w w' := by
  have HV : Hid (∀ W, Below w.heap.size w W → PV W g B need total root S opn) := Lib.hid (fun W hW => hV.below hW)
  have HGC : Hid (∀ W, Below w.heap.size w W → W.cell? ⟨g, 0, none⟩ = some (.int .i64 need) ∧ W.cell? ⟨g, 1, none⟩ = some (.int .i64 total) ∧ W.cell? ⟨g, 2, none⟩ = some (.string root) ∧ W.cell? ⟨g, 3, none⟩ = some (.map (some B)) ∧ W.cell? ⟨g, 4, none⟩ = some (.bool opn)) := Lib.hid (fun W hW => by
    have hb := (HV.out W hW).1
    exact ⟨hb.of_cell rfl, hb.of_cell rfl, hb.of_cell rfl, hb.of_cell rfl, hb.of_cell rfl⟩)
  clear hV
  obtain ⟨c0, c1, c2, c3, c4⟩ := HGC.out w (Below.refl _ _)
  have cl := lt_of_cell c0
  cases opn with
  | true =>
    have e1 : opnR need total S true = (0, 11) := rfl
    rw [e1]
    clear e1
    go_enter Tryz.func23, Tryz.ntmps23
    go_wp2
    go_ret2
    exact ⟨rfl, HV.out _ (Below.refl _ _), Chg.refl _ _⟩
  | false =>
  have e1 : opnR need total S false = joinF (ord S total) need := rfl
  rw [e1]
  clear e1
  obtain ⟨l, hl⟩ : ∃ l, ord S total = l := ⟨_, rfl⟩
  have hlen : l.length ≤ 16 := by rw [← hl]; exact Nat.le_trans (ord_len _ _) ht
  have HL := Lib.hid hl
  rw [hl]
  have HJ : Hid (∀ (W : World) (A : Option Addr) (c : Nat), l.length ≤ c → Prs W A l → _) := Lib.hid (fun W A c hc hP => join_full A c l need W hP (by omega) hc)
  obtain ⟨⟨j1, j2⟩, hjj⟩ : ∃ jj, joinF l need = jj := ⟨_, rfl⟩
  rw [hjj] at HJ ⊢
  obtain ⟨i1, hj0, hy0, hy1, hy2⟩ := info_parts info_share
  have HI := Lib.hid (And.intro hj0 (And.intro hy0 (And.intro hy1 hy2)))
  have HO0 : Hid (w.ownsRow w.heap.size 37 2 (.slice none 0 0) 0 []) := ⟨rfl, .inl ⟨rfl, rfl⟩⟩
  have HOL : Hid (∀ k, (ord S k).length ≤ k) := Lib.hid (ord_len S)
  clear hj0 hy0 hy1 hy2 hjj hl
  simp only []
  go_enter Tryz.func23, Tryz.ntmps23
  go_wp2_with fail
  clear c0 c1 c2 c3 c4 cl
  go_loopw [4, 23] (fun u4 u23 wr => ∃ k : Nat, k ≤ total ∧ u23 = .int .i64 k ∧ Below w.heap.size w wr ∧ wr.ownsRow w.heap.size 37 2 u4 (ord S k).length (flat2 (ord S k))) (fun _ u23 _ => total - (intOf u23).toNat)
  case atStart => exact ⟨0, Nat.zero_le _, rfl, Below.refl _ _, HO0.out⟩
  case round =>
  obtain ⟨k, hk, rfl, hb, ho⟩ := hrel
  have HB := Lib.hid hb
  have HOW := Lib.hid ho
  clear hb ho
  by_cases hlt : k < total
  case pos =>
    obtain ⟨c0, c1, c2, c3, c4⟩ := HGC.out wr HB.out
    have cl := lt_of_cell c0
    have hol := HOL.out k
    have hki : (k : Int) < (total : Int) := by omega
    have hlk := (HV.out wr HB.out).2.1.look ((k : Int) + 1) (WalkArith.wf_i64 (by omega))
    cases hf : fnd S ((k : Int) + 1) with
    | none =>
      rw [hf] at hlk
      have hlk' : (Instr.lookup 82 (.map (some B)) (.int .i64 ((k : Int) + 1)) true).run Tryz.prog wr = .ok (.tuple #[.agg #[.int .i64 0, .int .i64 0], .bool false]) wr := hlk
      have HE : Hid (ord S (k + 1) = ord S k) := Lib.hid (by rw [ord_succ, hf]; simp)
      clear hlk hf
      go_wp2_with fail
      go_roundw
      case rel => exact ⟨k + 1, by omega, by go_num, below_alloc HB.out _, by rw [HE.out]; exact row_below HOW.out (below_alloc (Below.refl _ _) _)⟩
      case measure => simp [intOf]; omega
    | some s =>
      rw [hf] at hlk
      have hlk' : (Instr.lookup 82 (.map (some B)) (.int .i64 ((k : Int) + 1)) true).run Tryz.prog wr = .ok (.tuple #[.agg #[.int .i64 s.1, .int .i64 s.2], .bool true]) wr := hlk
      have HE : Hid (ord S (k + 1) = ord S k ++ [s]) := Lib.hid (by rw [ord_succ, hf]; rfl)
      clear hlk hf
      have HO2 : Hid (((wr.alloc (.cells #[.int .i64 s.1, .int .i64 s.2] 37)).alloc (.cells #[.int .i64 s.1, .int .i64 s.2] 37)).ownsRow w.heap.size 37 2 u4 (ord S k).length (flat2 (ord S k))) := Lib.hid (row_below HOW.out (below_alloc (below_alloc (Below.refl _ _) _) _))
      go_wp2_with (at_builtin; refine wpList_app _ rfl (.tmp 37) (.tmp 39) 28 28 rfl w.heap.size 37 37 i1 _ 2 16 Tryz.underlying28 Tryz.underlying28 HI.out.1 HI.out.2.1 HI.out.2.2.1 HI.out.2.2.2 rfl (by omega) u4 (ord S k).length _ rfl HO2.out _ 1 1 [.int .i64 s.1, .int .i64 s.2] rfl (Rd_new (wr.alloc (.cells #[.int .i64 s.1, .int .i64 s.2] 37)) #[.int .i64 s.1, .int .i64 s.2] _ 2 1 _ rfl (by simp)) (by simp [Value.oneCell']) (by simp only [maxLen]; omega) (by omega) (by have := HB.out.size; simp; omega) ?_)
      intro v4 w4 hown4 hg4
      have HB4 : Hid (Below w.heap.size w w4) := Lib.hid ((below_alloc (below_alloc HB.out _) _).grown hg4 (by have := HB.out.size; simp; omega) (fun j hj => (HO2.out.lt j hj).1))
      have HO4 := Lib.hid hown4
      clear hown4 hg4 c0 c1 c2 c3 c4 cl hlk'
      go_wp2
      go_roundw
      case rel => exact ⟨k + 1, by omega, by go_num, HB4.out, by rw [HE.out, flat2_append, List.length_append]; exact HO4.out⟩
      case measure => simp [intOf]; omega
  case neg =>
  obtain rfl : k = total := by omega
  rw [HL.out] at HOW
  obtain ⟨A1, c1', rfl, hc1', -, hrd1⟩ := Rd.of_own HOW.out
  have HJ1 := Lib.hid (HJ.out wr A1 c1' hc1' hrd1)
  obtain ⟨c0, c1, c2, c3, c4⟩ := HGC.out wr HB.out
  have cl := lt_of_cell c0
  clear hrd1 HOW
  go_wp2_with fail
  refine HJ1.out.mono ?_
  rintro e w5 ⟨rfl, hb5⟩
  have HB5 := Lib.hid (below_trans HB.out hb5)
  clear hb5 c0 c1 c2 c3 c4 cl
  obtain ⟨c0, c1, c2, c3, c4⟩ := HGC.out w5 HB5.out
  have cl := lt_of_cell c0
  have hfz := (HV.out w5 HB5.out).1.frozen 4
  go_wp2
  go_ret2
  have h5 := HV.out w5 HB5.out
  refine ⟨rfl, ⟨h5.1.set 4 _, h5.2.1.kept (Below.heap_setCell w5 ⟨g, 4, none⟩ _ B (fun e => h5.2.2 e.symm)), h5.2.2⟩, (Chg.of_below HB5.out [g, B]).setCell (.inl (by simp)) _⟩
end

section
open Go.RowKit

theorem lelement_any (a : Int) (w : World) :
    Calls Tryz.prog 27 #[.int .i64 a] w fun e w' => e = .returned (.int .i64 (a % 2147483647)) ∧ w = w' := by
  have h : a.tmod 2147483647 = if 0 ≤ a then a % 2147483647 else -((-a) % 2147483647) := by
    by_cases ha : 0 ≤ a
    · rw [if_pos ha, Int.tmod_eq_emod_of_nonneg ha]
    · rw [if_neg ha, ← Int.tmod_eq_emod_of_nonneg (show 0 ≤ -a by omega), Int.neg_tmod, Int.neg_neg]
  have hb : -2147483647 < a.tmod 2147483647 ∧ a.tmod 2147483647 < 2147483647 := by rw [h]; split <;> omega
  obtain ⟨hb1, hb2⟩ := hb
  by_cases hneg : a.tmod 2147483647 < 0
  · have e : a.tmod 2147483647 + 2147483647 = a % 2147483647 := by rw [h] at hneg ⊢; split at hneg <;> (try split) <;> omega
    have E := Lib.hid e; clear e
    have H := Lib.hid h; clear h
    go_enter Tryz.func27, Tryz.ntmps27
    go_wp2
    go_ret
    exact ⟨ret_int E.out, rfl⟩
  · have e : a.tmod 2147483647 = a % 2147483647 := by rw [h] at hneg ⊢; split at hneg <;> (try split) <;> omega
    have E := Lib.hid e; clear e
    have H := Lib.hid h; clear h
    go_enter Tryz.func27, Tryz.ntmps27
    go_wp2
    go_ret
    exact ⟨ret_int E.out, rfl⟩

theorem welement_any (a : Int) (w : World) :
    Calls Tryz.prog 10 #[.int .i64 a] w fun e w' => e = .returned (.int .i64 (a % 2147483647)) ∧ w = w' := by
  have h : a.tmod 2147483647 = if 0 ≤ a then a % 2147483647 else -((-a) % 2147483647) := by
    by_cases ha : 0 ≤ a
    · rw [if_pos ha, Int.tmod_eq_emod_of_nonneg ha]
    · rw [if_neg ha, ← Int.tmod_eq_emod_of_nonneg (show 0 ≤ -a by omega), Int.neg_tmod, Int.neg_neg]
  have hb : -2147483647 < a.tmod 2147483647 ∧ a.tmod 2147483647 < 2147483647 := by rw [h]; split <;> omega
  obtain ⟨hb1, hb2⟩ := hb
  by_cases hneg : a.tmod 2147483647 < 0
  · have e : a.tmod 2147483647 + 2147483647 = a % 2147483647 := by rw [h] at hneg ⊢; split at hneg <;> (try split) <;> omega
    have E := Lib.hid e; clear e
    have H := Lib.hid h; clear h
    go_enter Tryz.func10, Tryz.ntmps10
    go_wp2
    go_ret
    exact ⟨ret_int E.out, rfl⟩
  · have e : a.tmod 2147483647 = a % 2147483647 := by rw [h] at hneg ⊢; split at hneg <;> (try split) <;> omega
    have E := Lib.hid e; clear e
    have H := Lib.hid h; clear h
    go_enter Tryz.func10, Tryz.ntmps10
    go_wp2
    go_ret
    exact ⟨ret_int E.out, rfl⟩

/-- The elements that made takes out of a list. -/
def madeL (raw : List Int) (k : Nat) : List Int := (List.range k).map fun (i : Nat) => match raw[i]? with | some x => x % 2147483647 | none => (i : Int)

theorem madeL_length (raw : List Int) (k : Nat) : (madeL raw k).length = k := by simp [madeL]

theorem madeL_succ (raw : List Int) (k : Nat) : madeL raw (k + 1) = madeL raw k ++ [match raw[k]? with | some x => x % 2147483647 | none => (k : Int)] := by
  simp [madeL, List.range_succ]

theorem madeL_elem (raw : List Int) (k : Nat) (hk : k ≤ 1000) : (madeL raw k).all elemB = true := by
  rw [List.all_eq_true]
  intro x hx
  obtain ⟨i, hi, rfl⟩ := List.mem_map.1 hx
  have := List.mem_range.1 hi
  rw [elemB_iff]
  split <;> omega
end

section
open Go.RowKit
set_option maxRecDepth 100000 in
set_option maxHeartbeats 4000000 in
theorem isame_any (A B : Option Addr) (c d : Nat) (l m : List Int) (w : World) (hA : Ints w A l) (hB : Ints w B m) (hl : l.length ≤ 1000000) (hm : m.length ≤ 1000000) :
    Calls Tryz.prog 21 #[.slice A l.length c, .slice B m.length d] w fun e w' => e = .returned (.bool (decide (l = m))) ∧ Below w.heap.size w w' := by
  have HA := Lib.hid hA; clear hA
  have HB := Lib.hid hB; clear hB
  by_cases hlen : l.length = m.length
  case neg =>
    have h1 : (((l.length : Int)) == (m.length : Int)) = false := by simp; omega
    have h2 : (((l.length : Int)) != (m.length : Int)) = true := by simp; omega
    have hne : decide (l = m) = false := by
      rw [decide_eq_false_iff_not]
      intro e
      exact hlen (by rw [e])
    have HNE := Lib.hid hne; clear hne hlen
    go_enter Tryz.func21, Tryz.ntmps21
    go_wp2
    go_ret
    rw [HNE.out]
    exact ⟨rfl, Below.refl _ _⟩
  case pos =>
  have h1 : (((l.length : Int)) == (m.length : Int)) = true := by simp [hlen]
  have h2 : (((l.length : Int)) != (m.length : Int)) = false := by simp [hlen]
  have HL := Lib.hid hlen; clear hlen
  go_enter Tryz.func21, Tryz.ntmps21
  go_wp2_with fail
  go_loopw [5] (fun u5 wr => ∃ (k q : Nat), k ≤ l.length ∧ u5 = .int .i64 k ∧ wr = w.drewN q ∧ l.take k = m.take k) (fun u5 _ => l.length - (intOf u5).toNat)
  case atStart => exact ⟨0, 0, Nat.zero_le _, rfl, rfl, rfl⟩
  case round =>
  obtain ⟨k, q, hk, rfl, rfl, hkm⟩ := hrel
  have HKM := Lib.hid hkm; clear hkm
  by_cases hlt : k < l.length
  case neg =>
    have he : decide (l = m) = true := by
      have := HKM.out
      have hl := HL.out
      rw [List.take_of_length_le (by omega), List.take_of_length_le (by omega)] at this
      simpa using this
    have HE := Lib.hid he; clear he
    go_wp2
    go_ret
    rw [HE.out]
    exact ⟨rfl, below_drewN (Below.refl _ _) _⟩
  case pos =>
  obtain ⟨s, hs⟩ := get_some l k hlt
  obtain ⟨t, ht⟩ := get_some m k (by rw [← HL.out]; exact hlt)
  have hmk : k < m.length := (List.getElem?_eq_some_iff.1 ht).1
  obtain ⟨b, off, rfl, hc1⟩ := HA.out.at_ hs
  obtain ⟨b', off', rfl, hd1⟩ := HB.out.at_ ht
  have HS := Lib.hid hs
  have HT := Lib.hid ht
  clear hs ht
  by_cases hst : s = t
  case pos =>
    have e1 : (s == t) = true := by simp [hst]
    have e2 : (s != t) = false := by simp [hst]
    have HST := Lib.hid hst; clear hst
    go_wp2
    go_quiet (fail)
    go_wp2
    go_roundw
    case rel => exact ⟨k + 1, _, by omega, by go_num, rfl, by rw [take_snoc l k s HS.out, take_snoc m k t HT.out, HKM.out, HST.out]⟩
    case measure => simp [intOf]; omega
  case neg =>
    have hne : decide (l = m) = false := by
      rw [decide_eq_false_iff_not]
      intro e
      have h1 := HS.out
      have h2 := HT.out
      rw [e, h2] at h1
      exact hst (Option.some.inj h1).symm
    have HNE := Lib.hid hne; clear hne
    have e1 : (s == t) = false := by simp [hst]
    have e2 : (s != t) = true := by simp [hst]
    clear hst
    go_wp2
    go_quiet (fail)
    go_wp2
    go_ret
    rw [HNE.out]
    exact ⟨rfl, below_drewN (below_drewN (Below.refl _ _) _) _⟩
set_option maxRecDepth 100000 in
set_option maxHeartbeats 4000000 in
theorem wsame_any (A B : Option Addr) (c d : Nat) (l m : List Int) (w : World) (hA : Ints w A l) (hB : Ints w B m) (hl : l.length ≤ 1000000) (hm : m.length ≤ 1000000) :
    Calls Tryz.prog 14 #[.slice A l.length c, .slice B m.length d] w fun e w' => e = .returned (.bool (decide (l = m))) ∧ Below w.heap.size w w' := by
  have HA := Lib.hid hA; clear hA
  have HB := Lib.hid hB; clear hB
  by_cases hlen : l.length = m.length
  case neg =>
    have h1 : (((l.length : Int)) == (m.length : Int)) = false := by simp; omega
    have h2 : (((l.length : Int)) != (m.length : Int)) = true := by simp; omega
    have hne : decide (l = m) = false := by
      rw [decide_eq_false_iff_not]
      intro e
      exact hlen (by rw [e])
    have HNE := Lib.hid hne; clear hne hlen
    go_enter Tryz.func14, Tryz.ntmps14
    go_wp2
    go_ret
    rw [HNE.out]
    exact ⟨rfl, Below.refl _ _⟩
  case pos =>
  have h1 : (((l.length : Int)) == (m.length : Int)) = true := by simp [hlen]
  have h2 : (((l.length : Int)) != (m.length : Int)) = false := by simp [hlen]
  have HL := Lib.hid hlen; clear hlen
  go_enter Tryz.func14, Tryz.ntmps14
  go_wp2_with fail
  go_loopw [5] (fun u5 wr => ∃ (k q : Nat), k ≤ l.length ∧ u5 = .int .i64 k ∧ wr = w.drewN q ∧ l.take k = m.take k) (fun u5 _ => l.length - (intOf u5).toNat)
  case atStart => exact ⟨0, 0, Nat.zero_le _, rfl, rfl, rfl⟩
  case round =>
  obtain ⟨k, q, hk, rfl, rfl, hkm⟩ := hrel
  have HKM := Lib.hid hkm; clear hkm
  by_cases hlt : k < l.length
  case neg =>
    have he : decide (l = m) = true := by
      have := HKM.out
      have hl := HL.out
      rw [List.take_of_length_le (by omega), List.take_of_length_le (by omega)] at this
      simpa using this
    have HE := Lib.hid he; clear he
    go_wp2
    go_ret
    rw [HE.out]
    exact ⟨rfl, below_drewN (Below.refl _ _) _⟩
  case pos =>
  obtain ⟨s, hs⟩ := get_some l k hlt
  obtain ⟨t, ht⟩ := get_some m k (by rw [← HL.out]; exact hlt)
  have hmk : k < m.length := (List.getElem?_eq_some_iff.1 ht).1
  obtain ⟨b, off, rfl, hc1⟩ := HA.out.at_ hs
  obtain ⟨b', off', rfl, hd1⟩ := HB.out.at_ ht
  have HS := Lib.hid hs
  have HT := Lib.hid ht
  clear hs ht
  by_cases hst : s = t
  case pos =>
    have e1 : (s == t) = true := by simp [hst]
    have e2 : (s != t) = false := by simp [hst]
    have HST := Lib.hid hst; clear hst
    go_wp2
    go_quiet (fail)
    go_wp2
    go_roundw
    case rel => exact ⟨k + 1, _, by omega, by go_num, rfl, by rw [take_snoc l k s HS.out, take_snoc m k t HT.out, HKM.out, HST.out]⟩
    case measure => simp [intOf]; omega
  case neg =>
    have hne : decide (l = m) = false := by
      rw [decide_eq_false_iff_not]
      intro e
      have h1 := HS.out
      have h2 := HT.out
      rw [e, h2] at h1
      exact hst (Option.some.inj h1).symm
    have HNE := Lib.hid hne; clear hne
    have e1 : (s == t) = false := by simp [hst]
    have e2 : (s != t) = true := by simp [hst]
    clear hst
    go_wp2
    go_quiet (fail)
    go_wp2
    go_ret
    rw [HNE.out]
    exact ⟨rfl, below_drewN (below_drewN (Below.refl _ _) _) _⟩
theorem lpath_any (A : Option Addr) (c : Nat) (l : List (Int × Int)) (k : Nat) (w : World) (hA : Prs w A l) (hl : l.length ≤ 16) (hv : l.all validB = true) (hk : k < l.length) (hT : Tabs w) :
    Calls Tryz.prog 30 #[.slice A l.length c, .int .i64 k] w fun e w' => ∃ A' c', e = .returned (.slice A' (pt (l.map shLf) k).length c') ∧ (pt (l.map shLf) k).length ≤ c' ∧ Strs w' A' (pt (l.map shLf) k) ∧ Below w.heap.size w w' := by
  have H1 := Lib.hid (rleaves_any A c l w hA (by omega) hv)
  have H2 : Hid (∀ (W : World) (A' : Option Addr) (c' : Nat), Below w.heap.size w W → l.length ≤ c' → Strs W A' (l.map shLf) → Calls Tryz.prog 41 #[.slice A' l.length c', .int .i64 k] W fun e w' => ∃ A'' c'', e = .returned (.tuple #[.slice A'' (pt (l.map shLf) k).length c'', .int .i64 0]) ∧ (pt (l.map shLf) k).length ≤ c'' ∧ Strs w' A'' (pt (l.map shLf) k) ∧ Below W.heap.size W w') := Lib.hid (fun W A' c' hW hc hS => by
    have := tpath_any A' c' (l.map shLf) k W (by rw [List.length_map]; omega) (by rw [List.length_map]; exact hc) hS (shLf_sm l) (hT.below hW) (shLf_D l) (by omega) (by rw [List.length_map]; omega)
    rw [Int.toNat_natCast, List.length_map] at this
    exact this.mono fun _ _ ⟨A1, c1, h1, h2, h3, _, h5⟩ => ⟨A1, c1, h1, h2, h3, h5⟩)
  clear hA hv hT
  generalize pt (l.map shLf) k = P at *
  go_enter Tryz.func30, Tryz.ntmps30
  go_wp2_with fail
  refine H1.out.mono ?_
  rintro e w1 ⟨v1, rfl, ho, hb⟩
  have HB := Lib.hid hb
  obtain ⟨A1, c1, rfl, hc1, -, hr1⟩ := Rd.of_own ho
  have H3 := Lib.hid (H2.out w1 A1 c1 hb hc1 (by unfold Strs; rw [List.length_map]; exact hr1))
  clear ho hb hr1
  go_wp2_with fail
  refine H3.out.mono ?_
  rintro e w2 ⟨A2, c2, rfl, hc2, hs2, hb⟩
  have HB2 := Lib.hid (below_trans HB.out hb)
  have HS2 := Lib.hid hs2
  clear hb hs2
  go_wp2
  go_ret
  exact ⟨_, _, rfl, hc2, HS2.out, HB2.out⟩
set_option maxRecDepth 100000 in
set_option maxHeartbeats 8000000 in
theorem made_any (secret : Int) (A : Option Addr) (c : Nat) (raw : List Int) (a b : Nat) (w : World) (hA : Ints w A raw) (hraw : raw.length ≤ 9223372036854775807) (ha : a < 256) (hb : b < 256) :
    Calls Tryz.prog 28 #[.int .i64 secret, .slice A raw.length c, .int .u8 a, .int .u8 b] w fun e w' =>
      ∃ v, e = .returned (.tuple #[v, .int .i64 ((1 + a % 4 : Nat) : Int), .bool true]) ∧
        w'.ownsRow w.heap.size 37 2 v (1 + a % 4 + b % 3) (flat2 (shs ((secret % 2147483647) :: madeL raw (a % 4)) (1 + a % 4 + b % 3))) ∧ Below w.heap.size w w' := by
  obtain ⟨n, hn⟩ : ∃ n, n = 1 + a % 4 := ⟨_, rfl⟩
  obtain ⟨m, hm⟩ : ∃ m, m = 1 + a % 4 + b % 3 := ⟨_, rfl⟩
  have hn1 : 1 ≤ n := by omega
  have hn4 : n ≤ 4 := by omega
  have hnm : n ≤ m := by omega
  have hm6 : m ≤ 6 := by omega
  have hk : a % 4 = n - 1 := by omega
  have hE : (1 + (a : Int) % 4 = (n : Int)) ∧ ((n : Int) + (b : Int) % 3 = (m : Int)) := by omega
  have HE1 := Lib.hid hE.1
  have HE2 := Lib.hid hE.2
  rw [← hm, ← hn, hk]
  have hsp : Hid (∀ (W : World) (A' : Option Addr) (c' : Nat), Ints W A' (madeL raw (n - 1)) → Calls Tryz.prog 40 #[.int .i64 (secret % 2147483647), .int .i64 n, .int .i64 m, .slice A' (n - 1) c'] W fun e w' => ∃ v, e = .returned (.tuple #[v, .int .i64 0]) ∧ w'.ownsRow W.heap.size 37 2 v m (flat2 (shs ((secret % 2147483647) :: madeL raw (n - 1)) m)) ∧ Below W.heap.size W w') := Lib.hid (fun W A' c' hI => by
    have hml := madeL_length raw (n - 1)
    have := split_any (secret % 2147483647) n m A' c' (madeL raw (n - 1)) W hI hn1 hnm (by omega) (by omega) (by omega) (by rw [List.all_cons, elemB_mod secret, madeL_elem raw (n - 1) (by omega)]; rfl)
    rw [hml] at this
    exact this)
  have HA := Lib.hid hA
  obtain ⟨i0, hi0, hz0, hz1, hz2⟩ := info_parts info_int
  have HI := Lib.hid (And.intro hi0 (And.intro hz0 (And.intro hz1 hz2)))
  have HML := Lib.hid (madeL_succ raw)
  have HLE := Lib.hid (madeL_length raw)
  generalize shs ((secret % 2147483647) :: madeL raw (n - 1)) m = R at *
  have hO0 : w.ownsRow w.heap.size 3 1 (.slice none 0 0) 0 ((madeL raw 0).map (Value.int .i64)) := ⟨rfl, .inl ⟨rfl, rfl⟩⟩
  have HO0 := Lib.hid hO0
  clear hi0 hz0 hz1 hz2 hA hn hm hk hE hO0
  go_enter Tryz.func28, Tryz.ntmps28
  go_wp2_with fail
  rw [HE1.out, HE2.out]
  go_loopw [13, 14, 15] (fun u13 u14 _ wr => ∃ k : Nat, k ≤ n - 1 ∧ u14 = .int .i64 k ∧ Below w.heap.size w wr ∧ wr.ownsRow w.heap.size 3 1 u13 k ((madeL raw k).map (Value.int .i64))) (fun _ u14 _ _ => 6 - (intOf u14).toNat)
  case atStart => exact ⟨0, Nat.zero_le _, rfl, Below.refl _ _, HO0.out⟩
  case round =>
  obtain ⟨k, hk, rfl, hB, hO⟩ := hrel
  have HB := Lib.hid hB; clear hB
  have HO := Lib.hid hO; clear hO
  by_cases hlt : k < n - 1
  case pos =>
    have hlti : (k : Int) < (n : Int) - 1 := by omega
    have step : ∀ (W : World) (x : Int), madeL raw (k + 1) = madeL raw k ++ [x] → ∀ (v1 : Value) (w4 : World), w4.ownsRow w.heap.size 3 1 v1 (k + 1) ((madeL raw k).map (Value.int .i64) ++ [.int .i64 x]) → w4.ownsRow w.heap.size 3 1 v1 (k + 1) ((madeL raw (k + 1)).map (Value.int .i64)) := by
      intro W x hx v1 w4 h
      rw [hx, List.map_append]; exact h
    have STEP := Lib.hid step
    clear step
    by_cases hlr : k < raw.length
    case pos =>
      obtain ⟨x, hx⟩ := get_some raw k hlr
      obtain ⟨bb, off, rfl, hcell⟩ := (HA.out.below HB.out).at_ hx
      have HX : Hid (madeL raw (k + 1) = madeL raw k ++ [x % 2147483647]) := Lib.hid (by rw [HML.out, hx])
      clear hx
      go_wp2_with (first | (go_at_call 27; refine (lelement_any _ _).mono ?_; rintro e w' ⟨rfl, rfl⟩) | (at_builtin; refine wpList_app _ rfl (.tmp 43) (.tmp 45) 22 22 rfl w.heap.size 3 3 i0 _ 1 8 Tryz.underlying22 Tryz.underlying22 HI.out.1 HI.out.2.1 HI.out.2.2.1 HI.out.2.2.2 rfl (by omega) _ k _ rfl (HO.out.alloc _) _ 1 1 [.int .i64 (x % 2147483647)] rfl (Rd_new wr #[.int .i64 (x % 2147483647)] _ 1 1 _ rfl rfl) (by simp [Value.oneCell']) (by simp only [maxLen]; omega) (by omega) (by have := HB.out.size; simp; omega) ?_))
      intro v1 w4 hown4 hg4
      have HB4 : Hid (Below w.heap.size w w4) := Lib.hid ((below_alloc HB.out _).grown hg4 (by have := HB.out.size; simp; omega) (fun j hj => (HO.out.lt j hj).1))
      have HOWN4 := Lib.hid (STEP.out wr _ HX.out v1 w4 hown4)
      clear hown4 hg4
      go_wp2
      go_roundw
      case rel => exact ⟨k + 1, by omega, by go_num, HB4.out, HOWN4.out⟩
      case measure => simp [intOf]; omega
    case neg =>
      have HX : Hid (madeL raw (k + 1) = madeL raw k ++ [(k : Int)]) := Lib.hid (by rw [HML.out, List.getElem?_eq_none (by omega)])
      go_wp2_with (at_builtin; refine wpList_app _ rfl (.tmp 43) (.tmp 45) 22 22 rfl w.heap.size 3 3 i0 _ 1 8 Tryz.underlying22 Tryz.underlying22 HI.out.1 HI.out.2.1 HI.out.2.2.1 HI.out.2.2.2 rfl (by omega) _ k _ rfl (HO.out.alloc _) _ 1 1 [.int .i64 k] rfl (Rd_new wr #[.int .i64 k] _ 1 1 _ rfl rfl) (by simp [Value.oneCell']) (by simp only [maxLen]; omega) (by omega) (by have := HB.out.size; simp; omega) ?_)
      intro v1 w4 hown4 hg4
      have HB4 : Hid (Below w.heap.size w w4) := Lib.hid ((below_alloc HB.out _).grown hg4 (by have := HB.out.size; simp; omega) (fun j hj => (HO.out.lt j hj).1))
      have HOWN4 := Lib.hid (STEP.out wr _ HX.out v1 w4 hown4)
      clear hown4 hg4
      go_wp2
      go_roundw
      case rel => exact ⟨k + 1, by omega, by go_num, HB4.out, HOWN4.out⟩
      case measure => simp [intOf]; omega
  case neg =>
  obtain rfl : k = n - 1 := by omega
  obtain ⟨A1, c1, rfl, -, -, hr1⟩ := Rd.of_own HO.out
  have HS1 := Lib.hid (hsp.out wr A1 c1 (by unfold Ints; rw [HLE.out]; exact hr1))
  clear hr1
  have hge : ¬ (((n - 1 : Nat) : Int) < (n : Int) - 1) := by omega
  go_wp2_with fail
  refine (lelement_any _ _).mono ?_
  rintro e w' ⟨rfl, rfl⟩
  go_wp2_with fail
  refine HS1.out.mono ?_
  rintro e w3 ⟨v3, rfl, ho3, hb3⟩
  have HB3 := Lib.hid (below_trans HB.out hb3)
  have HO3 := Lib.hid (own_mono ho3 HB.out.size)
  obtain ⟨A3, c3, rfl, -, -, -⟩ := Rd.of_own ho3
  clear ho3 hb3
  have hmm : ((m : Int) == (m : Int)) = true := by simp
  go_wp2
  go_ret3
  exact ⟨_, rfl, HO3.out, HB3.out⟩
set_option maxRecDepth 100000 in
set_option maxHeartbeats 8000000 in
theorem wshares_any (secret : Int) (A : Option Addr) (c : Nat) (raw : List Int) (a b : Nat) (w : World) (hA : Ints w A raw) (hraw : raw.length ≤ 9223372036854775807) (ha : a < 256) (hb : b < 256) :
    Calls Tryz.prog 11 #[.int .i64 secret, .slice A raw.length c, .int .u8 a, .int .u8 b] w fun e w' =>
      ∃ v, e = .returned (.tuple #[v, .int .i64 ((1 + a % 4 : Nat) : Int), .bool true]) ∧
        w'.ownsRow w.heap.size 37 2 v (1 + a % 4 + b % 3) (flat2 (shs ((secret % 2147483647) :: madeL raw (a % 4)) (1 + a % 4 + b % 3))) ∧ Below w.heap.size w w' := by
  obtain ⟨n, hn⟩ : ∃ n, n = 1 + a % 4 := ⟨_, rfl⟩
  obtain ⟨m, hm⟩ : ∃ m, m = 1 + a % 4 + b % 3 := ⟨_, rfl⟩
  have hn1 : 1 ≤ n := by omega
  have hn4 : n ≤ 4 := by omega
  have hnm : n ≤ m := by omega
  have hm6 : m ≤ 6 := by omega
  have hk : a % 4 = n - 1 := by omega
  have hE : (1 + (a : Int) % 4 = (n : Int)) ∧ ((n : Int) + (b : Int) % 3 = (m : Int)) := by omega
  have HE1 := Lib.hid hE.1
  have HE2 := Lib.hid hE.2
  rw [← hm, ← hn, hk]
  have hsp : Hid (∀ (W : World) (A' : Option Addr) (c' : Nat), Ints W A' (madeL raw (n - 1)) → Calls Tryz.prog 40 #[.int .i64 (secret % 2147483647), .int .i64 n, .int .i64 m, .slice A' (n - 1) c'] W fun e w' => ∃ v, e = .returned (.tuple #[v, .int .i64 0]) ∧ w'.ownsRow W.heap.size 37 2 v m (flat2 (shs ((secret % 2147483647) :: madeL raw (n - 1)) m)) ∧ Below W.heap.size W w') := Lib.hid (fun W A' c' hI => by
    have hml := madeL_length raw (n - 1)
    have := split_any (secret % 2147483647) n m A' c' (madeL raw (n - 1)) W hI hn1 hnm (by omega) (by omega) (by omega) (by rw [List.all_cons, elemB_mod secret, madeL_elem raw (n - 1) (by omega)]; rfl)
    rw [hml] at this
    exact this)
  have HA := Lib.hid hA
  obtain ⟨i0, hi0, hz0, hz1, hz2⟩ := info_parts info_int
  have HI := Lib.hid (And.intro hi0 (And.intro hz0 (And.intro hz1 hz2)))
  have HML := Lib.hid (madeL_succ raw)
  have HLE := Lib.hid (madeL_length raw)
  generalize shs ((secret % 2147483647) :: madeL raw (n - 1)) m = R at *
  have hO0 : w.ownsRow w.heap.size 3 1 (.slice none 0 0) 0 ((madeL raw 0).map (Value.int .i64)) := ⟨rfl, .inl ⟨rfl, rfl⟩⟩
  have HO0 := Lib.hid hO0
  clear hi0 hz0 hz1 hz2 hA hn hm hk hE hO0
  go_enter Tryz.func11, Tryz.ntmps11
  go_wp2_with fail
  rw [HE1.out, HE2.out]
  go_loopw [13, 14, 15] (fun u13 u14 _ wr => ∃ k : Nat, k ≤ n - 1 ∧ u14 = .int .i64 k ∧ Below w.heap.size w wr ∧ wr.ownsRow w.heap.size 3 1 u13 k ((madeL raw k).map (Value.int .i64))) (fun _ u14 _ _ => 6 - (intOf u14).toNat)
  case atStart => exact ⟨0, Nat.zero_le _, rfl, Below.refl _ _, HO0.out⟩
  case round =>
  obtain ⟨k, hk, rfl, hB, hO⟩ := hrel
  have HB := Lib.hid hB; clear hB
  have HO := Lib.hid hO; clear hO
  by_cases hlt : k < n - 1
  case pos =>
    have hlti : (k : Int) < (n : Int) - 1 := by omega
    have step : ∀ (W : World) (x : Int), madeL raw (k + 1) = madeL raw k ++ [x] → ∀ (v1 : Value) (w4 : World), w4.ownsRow w.heap.size 3 1 v1 (k + 1) ((madeL raw k).map (Value.int .i64) ++ [.int .i64 x]) → w4.ownsRow w.heap.size 3 1 v1 (k + 1) ((madeL raw (k + 1)).map (Value.int .i64)) := by
      intro W x hx v1 w4 h
      rw [hx, List.map_append]; exact h
    have STEP := Lib.hid step
    clear step
    by_cases hlr : k < raw.length
    case pos =>
      obtain ⟨x, hx⟩ := get_some raw k hlr
      obtain ⟨bb, off, rfl, hcell⟩ := (HA.out.below HB.out).at_ hx
      have HX : Hid (madeL raw (k + 1) = madeL raw k ++ [x % 2147483647]) := Lib.hid (by rw [HML.out, hx])
      clear hx
      go_wp2_with (first | (go_at_call 10; refine (welement_any _ _).mono ?_; rintro e w' ⟨rfl, rfl⟩) | (at_builtin; refine wpList_app _ rfl (.tmp 43) (.tmp 45) 22 22 rfl w.heap.size 3 3 i0 _ 1 8 Tryz.underlying22 Tryz.underlying22 HI.out.1 HI.out.2.1 HI.out.2.2.1 HI.out.2.2.2 rfl (by omega) _ k _ rfl (HO.out.alloc _) _ 1 1 [.int .i64 (x % 2147483647)] rfl (Rd_new wr #[.int .i64 (x % 2147483647)] _ 1 1 _ rfl rfl) (by simp [Value.oneCell']) (by simp only [maxLen]; omega) (by omega) (by have := HB.out.size; simp; omega) ?_))
      intro v1 w4 hown4 hg4
      have HB4 : Hid (Below w.heap.size w w4) := Lib.hid ((below_alloc HB.out _).grown hg4 (by have := HB.out.size; simp; omega) (fun j hj => (HO.out.lt j hj).1))
      have HOWN4 := Lib.hid (STEP.out wr _ HX.out v1 w4 hown4)
      clear hown4 hg4
      go_wp2
      go_roundw
      case rel => exact ⟨k + 1, by omega, by go_num, HB4.out, HOWN4.out⟩
      case measure => simp [intOf]; omega
    case neg =>
      have HX : Hid (madeL raw (k + 1) = madeL raw k ++ [(k : Int)]) := Lib.hid (by rw [HML.out, List.getElem?_eq_none (by omega)])
      go_wp2_with (at_builtin; refine wpList_app _ rfl (.tmp 43) (.tmp 45) 22 22 rfl w.heap.size 3 3 i0 _ 1 8 Tryz.underlying22 Tryz.underlying22 HI.out.1 HI.out.2.1 HI.out.2.2.1 HI.out.2.2.2 rfl (by omega) _ k _ rfl (HO.out.alloc _) _ 1 1 [.int .i64 k] rfl (Rd_new wr #[.int .i64 k] _ 1 1 _ rfl rfl) (by simp [Value.oneCell']) (by simp only [maxLen]; omega) (by omega) (by have := HB.out.size; simp; omega) ?_)
      intro v1 w4 hown4 hg4
      have HB4 : Hid (Below w.heap.size w w4) := Lib.hid ((below_alloc HB.out _).grown hg4 (by have := HB.out.size; simp; omega) (fun j hj => (HO.out.lt j hj).1))
      have HOWN4 := Lib.hid (STEP.out wr _ HX.out v1 w4 hown4)
      clear hown4 hg4
      go_wp2
      go_roundw
      case rel => exact ⟨k + 1, by omega, by go_num, HB4.out, HOWN4.out⟩
      case measure => simp [intOf]; omega
  case neg =>
  obtain rfl : k = n - 1 := by omega
  obtain ⟨A1, c1, rfl, -, -, hr1⟩ := Rd.of_own HO.out
  have HS1 := Lib.hid (hsp.out wr A1 c1 (by unfold Ints; rw [HLE.out]; exact hr1))
  clear hr1
  have hge : ¬ (((n - 1 : Nat) : Int) < (n : Int) - 1) := by omega
  go_wp2_with fail
  refine (welement_any _ _).mono ?_
  rintro e w' ⟨rfl, rfl⟩
  go_wp2_with fail
  refine HS1.out.mono ?_
  rintro e w3 ⟨v3, rfl, ho3, hb3⟩
  have HB3 := Lib.hid (below_trans HB.out hb3)
  have HO3 := Lib.hid (own_mono ho3 HB.out.size)
  obtain ⟨A3, c3, rfl, -, -, -⟩ := Rd.of_own ho3
  clear ho3 hb3
  have hmm : ((m : Int) == (m : Int)) = true := by simp
  go_wp2
  go_ret3
  exact ⟨_, rfl, HO3.out, HB3.out⟩
end

section
open Go.RowKit

theorem below_chg {F : List Nat} {w W w' : World} (h : Below w.heap.size w W) (hc : Chg F W w') (hF : ∀ k, k ∈ F → w.heap.size ≤ k) : Below w.heap.size w w' := h.trans (hc.below hF h.size)

set_option maxRecDepth 100000 in
set_option maxHeartbeats 64000000 in
theorem bhead_any (w : World) (hT : Tabs w) : Calls Tryz.prog 16 #[] w fun e w' => e = .returned (.bool true) ∧ Below w.heap.size w w' := by
  have HT : Hid (∀ W, Below w.heap.size w W → Tabs W) := Lib.hid (fun W hW => hT.below hW)
  have HPL0 : Hid (∀ (A : Option Addr) (c k : Nat) (W : World), Prs W A L3 → k < 3 → Tabs W → Calls Tryz.prog 30 #[.slice A 3 c, .int .i64 k] W fun e w' => ∃ A' c', e = .returned (.slice A' (Pk k).length c') ∧ (Pk k).length ≤ c' ∧ Strs w' A' (Pk k) ∧ Below W.heap.size W w') := Lib.hid (fun A c k W hP hk hT => lpath_any A c L3 k W hP (by decide) L3_val hk hT)
  have HRT : Hid (rt (L3.map shLf) = R3) := Lib.hid rfl
  have HRD := Lib.hid R3_D
  have HRS : Hid (R3.size ≤ 1000000000) := Lib.hid (by have := rt_size (L3.map shLf) (shLf_sm _); unfold R3; omega)
  have HPL := Lib.hid Pk_len
  have HPS := Lib.hid Pk_sm
  have O1 := Lib.hid h3_o1
  have O2 := Lib.hid h3_o2
  have O3 := Lib.hid h3_o3
  have O4 := Lib.hid h3_o4
  have S1 := Lib.hid h3_s1
  have S2 := Lib.hid h3_s2
  have S3 := Lib.hid h3_s3
  have S4 := Lib.hid h3_s4
  generalize Pk = P at *
  generalize R3 = R at *
  clear hT
  go_enter Tryz.func16, Tryz.ntmps16
  go_wp2_with fail
  refine (split_any 7 2 3 _ _ [5] _ (Ints_new w #[.int .i64 5] _ _ [5] rfl rfl) (by omega) (by omega) (by omega) (by simp) (by simp) rfl).mono ?_
  rintro e w1 ⟨v1, rfl, hown1, hb1⟩
  obtain ⟨A1, c1, rfl, -, -, hrd1⟩ := Rd.of_own hown1
  rw [ex5] at hrd1
  have HB1 := Lib.hid (below_trans (below_alloc (Below.refl _ _) _) hb1)
  have HP1 : Hid (∀ W, Below w1.heap.size w1 W → Prs W A1 L3) := Lib.hid (fun W hW => Prs.below (show Prs w1 A1 L3 from hrd1) hW)
  clear hown1 hb1 hrd1
  go_wp2_with fail
  refine (sroot_any A1 c1 L3 w1 (HP1.out _ (Below.refl _ _)) (by decide) (by decide) L3_val (HT.out _ HB1.out)).mono ?_
  rintro e w2 ⟨rfl, hb⟩
  have HB2 := Lib.hid (below_trans HB1.out hb)
  have HX2 : Hid (Below w1.heap.size w1 w2) := Lib.hid hb
  clear hb
  rw [HRT.out]
  have HP2 : Hid (∀ W, Below w2.heap.size w2 W → Prs W A1 L3) := Lib.hid (fun W hW => HP1.out W (below_trans HX2.out hW))
  go_wp2_with fail
  refine (vnew_ok 2 3 R w2 HRS.out (by omega) (by omega) (by omega) HRD.out).mono ?_
  rintro e w3 ⟨g, B, rfl, hV, hg, hB, hb⟩
  have HV3 := Lib.hid hV
  have HGB : Hid (∀ k, k ∈ [g, B] → w2.heap.size ≤ k) := Lib.hid (by intro k hk; simp only [List.mem_cons, List.not_mem_nil, or_false] at hk; rcases hk with rfl | rfl <;> assumption)
  have HY3 : Hid (Below w2.heap.size w2 w3) := Lib.hid hb
  clear hV hg hB hb
  have HPT : Hid (∀ (k : Nat) W, k < 3 → Below w2.heap.size w2 W → _) := Lib.hid (fun k W hk hW => HPL0.out A1 c1 k W (HP2.out W hW) hk (HT.out W (below_trans HB2.out hW)))
  have HOF : Hid (∀ (s : Int × Int) (SS : List (Int × Int)) (C : Option Addr) (f k : Nat) W, SS.length ≤ 1000 → PV W g B 2 3 R SS false → Strs W C (P k) → (P k).length ≤ f → Below w2.heap.size w2 W → _) := Lib.hid (fun s SS C f k W hn hV hC hf hW => voffer_any g B 2 3 R SS false s C f (P k) W hV hn hC (HPL.out k) hf (HPS.out k) (HT.out W (below_trans HB2.out hW)))
  clear HRS
  obtain ⟨b, off, rfl, -, -⟩ := (HP2.out _ (Below.refl _ _)).at_ (show L3[0]? = some (1, 12) from rfl)
  go_wp2_with fail
  refine wp_region_held_drew (S := fun W => Below w2.heap.size w2 W) (by kernel_rfl) (HY3.out.drew) (fun hS0 => ?_)
  refine wpAnyH_take (i := 0) (v := ?_) rfl (by kernel_rfl) (by kernel_rfl) (by kernel_rfl) (fun _ _ _ h => h) (Or.inl ⟨by kernel_rfl, ?hy⟩) hS0 ?rest
  case hy => (intro W hSw; clear hSw; go_simp; with_reducible rfl)
  case rest =>
  refine wpAnyH_take (i := 1) (v := ?_) rfl (by kernel_rfl) (by kernel_rfl) (by kernel_rfl) (fun _ _ _ h => h) (Or.inl ⟨by kernel_rfl, ?hy⟩) hS0 ?rest
  case hy => (intro W hSw; clear hSw; go_simp; with_reducible rfl)
  case rest =>
  refine wpAnyH_take (i := 2) (v := ?_) rfl (by kernel_rfl) (by kernel_rfl) (by kernel_rfl) (fun _ _ _ h => h) (Or.inl ⟨by kernel_rfl, ?hy⟩) hS0 ?rest
  case hy => (intro W hSw; clear hSw; go_simp; with_reducible rfl)
  case rest =>
  refine wpAnyH_take (i := 3) (v := ?_) rfl (by kernel_rfl) (by kernel_rfl) (by kernel_rfl) (fun _ _ _ h => h) (Or.inl ⟨by kernel_rfl, ?hy⟩) hS0 ?rest
  case hy => (intro W hSw; obtain ⟨b, off, he, q1, q2⟩ := (HP2.out W hSw).at_ (show L3[0]? = some (1, 12) from rfl); cases he; have ql := lt_of_cell q1; have r1 : W.cell? ⟨b, off, none⟩ = some (.int .i64 1) := q1; have r2 : W.cell? ⟨b, off + 1, none⟩ = some (.int .i64 12) := q2; clear q1 q2 hSw; go_simp; with_reducible rfl)
  case rest =>
  refine wpAnyH_take (i := 4) (v := ?_) rfl (by kernel_rfl) (by kernel_rfl) (by kernel_rfl) (fun _ _ _ h => h) (Or.inl ⟨by kernel_rfl, ?hy⟩) hS0 ?rest
  case hy => (intro W hSw; clear hSw; go_simp; with_reducible rfl)
  case rest =>
  refine wpAnyH_ready (rs := [5]) (by kernel_rfl) (by simp) ?_
  refine AllReadyH.cons rfl (fun K hK => ?_) (AllReadyH.nil)
  go_simp
  refine (HPT.out 0 _ (by omega) HY3.out.drew).mono ?_
  rintro e wp ⟨C, f, rfl, hf, hC, hb⟩
  have HYP := Lib.hid (below_trans HY3.out.drew hb)
  have HVP := Lib.hid (HV3.out.below (below_trans (Below.refl _ _).drew hb))
  have HC := Lib.hid hC
  clear hb hC
  go_simp
  refine hK.out _ _ HYP.out (fun hS1 => ?_)
  clear hK K
  refine wpAnyH_ready (rs := [6]) (by kernel_rfl) (by simp) ?_
  refine AllReadyH.cons rfl (fun K hK => ?_) (AllReadyH.nil)
  go_simp
  refine (HOF.out (1, 12) [] C f 0 wp (by simp) HVP.out HC.out hf HYP.out).mono ?_
  rintro e w4 ⟨rfl, hV, hc⟩
  rw [O1.out]
  rw [S1.out] at hV
  have HV4 := Lib.hid hV
  have HY4 := Lib.hid (below_chg HYP.out hc HGB.out)
  clear hV hc
  go_simp
  refine hK.out _ _ HY4.out (fun hS2 => ?_)
  clear hK K
  refine wpAnyH_take (i := 7) (v := ?_) rfl (by kernel_rfl) (by kernel_rfl) (by kernel_rfl) (fun _ _ _ h => h) (Or.inl ⟨by kernel_rfl, ?hy⟩) hS2 ?rest
  case hy => (intro W hSw; clear hSw; go_simp; with_reducible rfl)
  case rest =>
  refine wpAnyH_done (by kernel_rfl) ?_ _
  clear hS0 hS1 hS2 HYP HVP HC hf
  go_wp2_with fail
  refine (vopen_any g B 2 3 R [(1, 12)] false w4 HV4.out (by omega)).mono ?_
  rintro e w5 ⟨rfl, hV, hc⟩
  rw [h3_j1]
  rw [h3_j1] at hV
  have HV5 := Lib.hid hV
  have HY5 := Lib.hid (below_chg HY4.out hc HGB.out)
  clear hV hc
  skip
  go_wp2_with fail
  refine wp_region_held_drew (S := fun W => Below w2.heap.size w2 W) (by kernel_rfl) (HY5.out.drew) (fun hS0 => ?_)
  refine wpAnyH_take (i := 0) (v := ?_) rfl (by kernel_rfl) (by kernel_rfl) (by kernel_rfl) (fun _ _ _ h => h) (Or.inl ⟨by kernel_rfl, ?hy⟩) hS0 ?rest
  case hy => (intro W hSw; clear hSw; go_simp; with_reducible rfl)
  case rest =>
  refine wpAnyH_take (i := 1) (v := ?_) rfl (by kernel_rfl) (by kernel_rfl) (by kernel_rfl) (fun _ _ _ h => h) (Or.inl ⟨by kernel_rfl, ?hy⟩) hS0 ?rest
  case hy => (intro W hSw; clear hSw; go_simp; with_reducible rfl)
  case rest =>
  refine wpAnyH_take (i := 2) (v := ?_) rfl (by kernel_rfl) (by kernel_rfl) (by kernel_rfl) (fun _ _ _ h => h) (Or.inl ⟨by kernel_rfl, ?hy⟩) hS0 ?rest
  case hy => (intro W hSw; clear hSw; go_simp; with_reducible rfl)
  case rest =>
  refine wpAnyH_take (i := 3) (v := ?_) rfl (by kernel_rfl) (by kernel_rfl) (by kernel_rfl) (fun _ _ _ h => h) (Or.inl ⟨by kernel_rfl, ?hy⟩) hS0 ?rest
  case hy => (intro W hSw; obtain ⟨b, off, he, q1, q2⟩ := (HP2.out W hSw).at_ (show L3[0]? = some (1, 12) from rfl); cases he; have ql := lt_of_cell q1; have r1 : W.cell? ⟨b, off, none⟩ = some (.int .i64 1) := q1; have r2 : W.cell? ⟨b, off + 1, none⟩ = some (.int .i64 12) := q2; clear q1 q2 hSw; go_simp; with_reducible rfl)
  case rest =>
  refine wpAnyH_take (i := 4) (v := ?_) rfl (by kernel_rfl) (by kernel_rfl) (by kernel_rfl) (fun _ _ _ h => h) (Or.inl ⟨by kernel_rfl, ?hy⟩) hS0 ?rest
  case hy => (intro W hSw; clear hSw; go_simp; with_reducible rfl)
  case rest =>
  refine wpAnyH_ready (rs := [5]) (by kernel_rfl) (by simp) ?_
  refine AllReadyH.cons rfl (fun K hK => ?_) (AllReadyH.nil)
  go_simp
  refine (HPT.out 0 _ (by omega) HY5.out.drew).mono ?_
  rintro e wp ⟨C, f, rfl, hf, hC, hb⟩
  have HYP := Lib.hid (below_trans HY5.out.drew hb)
  have HVP := Lib.hid (HV5.out.below (below_trans (Below.refl _ _).drew hb))
  have HC := Lib.hid hC
  clear hb hC
  go_simp
  refine hK.out _ _ HYP.out (fun hS1 => ?_)
  clear hK K
  refine wpAnyH_ready (rs := [6]) (by kernel_rfl) (by simp) ?_
  refine AllReadyH.cons rfl (fun K hK => ?_) (AllReadyH.nil)
  go_simp
  refine (HOF.out (1, 12) [(1, 12)] C f 0 wp (by simp) HVP.out HC.out hf HYP.out).mono ?_
  rintro e w6 ⟨rfl, hV, hc⟩
  rw [O2.out]
  rw [S2.out] at hV
  have HV6 := Lib.hid hV
  have HY6 := Lib.hid (below_chg HYP.out hc HGB.out)
  clear hV hc
  go_simp
  refine hK.out _ _ HY6.out (fun hS2 => ?_)
  clear hK K
  refine wpAnyH_take (i := 7) (v := ?_) rfl (by kernel_rfl) (by kernel_rfl) (by kernel_rfl) (fun _ _ _ h => h) (Or.inl ⟨by kernel_rfl, ?hy⟩) hS2 ?rest
  case hy => (intro W hSw; clear hSw; go_simp; with_reducible rfl)
  case rest =>
  refine wpAnyH_done (by kernel_rfl) ?_ _
  clear hS0 hS1 hS2 HYP HVP HC hf
  go_wp2_with fail
  refine (HPT.out 2 w6 (by omega) HY6.out).mono ?_
  rintro e wp ⟨C, f, rfl, hf, hC, hb⟩
  have HYP := Lib.hid (below_trans HY6.out hb)
  have HVP := Lib.hid (HV6.out.below hb)
  have HC := Lib.hid hC
  clear hb hC
  go_wp2_with fail
  refine (HOF.out (3, 23) [(1, 12)] C f 2 wp (by simp) HVP.out HC.out hf HYP.out).mono ?_
  rintro e w7 ⟨rfl, hV, hc⟩
  rw [O3.out]
  rw [S3.out] at hV
  have HV7 := Lib.hid hV
  have HY7 := Lib.hid (below_chg HYP.out hc HGB.out)
  clear hV hc HYP HVP HC hf
  skip
  go_wp2_with fail
  refine wp_region_held_drew (S := fun W => Below w2.heap.size w2 W) (by kernel_rfl) (HY7.out.drew) (fun hS0 => ?_)
  refine wpAnyH_take (i := 0) (v := ?_) rfl (by kernel_rfl) (by kernel_rfl) (by kernel_rfl) (fun _ _ _ h => h) (Or.inl ⟨by kernel_rfl, ?hy⟩) hS0 ?rest
  case hy => (intro W hSw; clear hSw; go_simp; with_reducible rfl)
  case rest =>
  refine wpAnyH_take (i := 1) (v := ?_) rfl (by kernel_rfl) (by kernel_rfl) (by kernel_rfl) (fun _ _ _ h => h) (Or.inl ⟨by kernel_rfl, ?hy⟩) hS0 ?rest
  case hy => (intro W hSw; clear hSw; go_simp; with_reducible rfl)
  case rest =>
  refine wpAnyH_take (i := 2) (v := ?_) rfl (by kernel_rfl) (by kernel_rfl) (by kernel_rfl) (fun _ _ _ h => h) (Or.inl ⟨by kernel_rfl, ?hy⟩) hS0 ?rest
  case hy => (intro W hSw; clear hSw; go_simp; with_reducible rfl)
  case rest =>
  refine wpAnyH_take (i := 3) (v := ?_) rfl (by kernel_rfl) (by kernel_rfl) (by kernel_rfl) (fun _ _ _ h => h) (Or.inl ⟨by kernel_rfl, ?hy⟩) hS0 ?rest
  case hy => (intro W hSw; obtain ⟨b, off, he, q1, q2⟩ := (HP2.out W hSw).at_ (show L3[2]? = some (3, 22) from rfl); cases he; have ql := lt_of_cell q1; have r1 : W.cell? ⟨b, off + 4, none⟩ = some (.int .i64 3) := q1; have r2 : W.cell? ⟨b, off + 4 + 1, none⟩ = some (.int .i64 22) := q2; have r3 : W.cell? ⟨b, off + 5, none⟩ = some (.int .i64 22) := q2; clear q1 q2 hSw; go_simp; with_reducible rfl)
  case rest =>
  refine wpAnyH_take (i := 4) (v := ?_) rfl (by kernel_rfl) (by kernel_rfl) (by kernel_rfl) (fun _ _ _ h => h) (Or.inl ⟨by kernel_rfl, ?hy⟩) hS0 ?rest
  case hy => (intro W hSw; clear hSw; go_simp; with_reducible rfl)
  case rest =>
  refine wpAnyH_ready (rs := [5]) (by kernel_rfl) (by simp) ?_
  refine AllReadyH.cons rfl (fun K hK => ?_) (AllReadyH.nil)
  go_simp
  refine (HPT.out 2 _ (by omega) HY7.out.drew).mono ?_
  rintro e wp ⟨C, f, rfl, hf, hC, hb⟩
  have HYP := Lib.hid (below_trans HY7.out.drew hb)
  have HVP := Lib.hid (HV7.out.below (below_trans (Below.refl _ _).drew hb))
  have HC := Lib.hid hC
  clear hb hC
  go_simp
  refine hK.out _ _ HYP.out (fun hS1 => ?_)
  clear hK K
  refine wpAnyH_ready (rs := [6]) (by kernel_rfl) (by simp) ?_
  refine AllReadyH.cons rfl (fun K hK => ?_) (AllReadyH.nil)
  go_simp
  refine (HOF.out (3, 22) [(1, 12)] C f 2 wp (by simp) HVP.out HC.out hf HYP.out).mono ?_
  rintro e w8 ⟨rfl, hV, hc⟩
  rw [O4.out]
  rw [S4.out] at hV
  have HV8 := Lib.hid hV
  have HY8 := Lib.hid (below_chg HYP.out hc HGB.out)
  clear hV hc
  go_simp
  refine hK.out _ _ HY8.out (fun hS2 => ?_)
  clear hK K
  refine wpAnyH_take (i := 7) (v := ?_) rfl (by kernel_rfl) (by kernel_rfl) (by kernel_rfl) (fun _ _ _ h => h) (Or.inl ⟨by kernel_rfl, ?hy⟩) hS2 ?rest
  case hy => (intro W hSw; clear hSw; go_simp; with_reducible rfl)
  case rest =>
  refine wpAnyH_done (by kernel_rfl) ?_ _
  clear hS0 hS1 hS2 HYP HVP HC hf
  go_wp2_with fail
  refine (vopen_any g B 2 3 R [(1, 12), (3, 22)] false w8 HV8.out (by omega)).mono ?_
  rintro e w9 ⟨rfl, hV, hc⟩
  rw [h3_j2]
  rw [h3_j2] at hV
  have HV9 := Lib.hid hV
  have HY9 := Lib.hid (below_chg HY8.out hc HGB.out)
  clear hV hc
  go_wp2_with fail
  refine (vopen_any g B 2 3 R [(1, 12), (3, 22)] true w9 HV9.out (by omega)).mono ?_
  rintro e w10 ⟨rfl, hV, hc⟩
  rw [h3_j3]
  rw [h3_j3] at hV
  have HV10 := Lib.hid hV
  have HY10 := Lib.hid (below_chg HY9.out hc HGB.out)
  clear hV hc
  have HBk : Hid (Below w.heap.size w w10) := Lib.hid (below_trans HB2.out HY10.out)
  have hbk := back_ok h3_bl
  have HB1L := Lib.hid hbk.1
  have HB2L := Lib.hid hbk.2
  clear hbk
  go_wp2_with fail
  refine (blind_any (some ⟨w10.heap.size, 0, none⟩) 2 [5, -5] 7 _ (Ints_new w10 #[.int .i64 5, .int .i64 (-5)] _ _ [5, -5] rfl rfl) (by simp) (HT.out _ (below_alloc HBk.out _))).mono ?_
  rintro e wb ⟨vb, rfl, ho, hb⟩
  rw [h3_bl]
  have hlen := blL_len h3_bl
  have hg0 := blL_get h3_bl (show [(5 : Int), -5][0]? = some 5 from rfl)
  have hl0 := offN_lt (7 : Int).toNat 0
  generalize offN (7 : Int).toNat 0 = d0 at *
  obtain ⟨A4, c4, rfl, -, -, hr4⟩ := Rd.of_own ho
  have HI4 : Hid (Ints wb A4 (blL [5, -5] 7)) := Lib.hid hr4
  have HBb := Lib.hid (below_trans (below_alloc HBk.out _) hb)
  have HUN := Lib.hid (unblind_any A4 c4 (blL [5, -5] 7) 7 wb hr4 (by rw [hlen]; simp) (HT.out _ (below_trans (below_alloc HBk.out _) hb)))
  rw [HB1L.out, HB2L.out] at HUN
  rw [hlen] at HUN ⊢
  have HLEN := Lib.hid hlen
  clear ho hb hr4 hlen
  go_wp2_with fail
  refine (HUN.out).mono ?_
  rintro e wu ⟨vu, rfl, ho, hb⟩
  obtain ⟨A5, c5, rfl, -, -, hr5⟩ := Rd.of_own ho
  have HBu := Lib.hid (below_trans HBb.out hb)
  have hI5 : Ints wu A5 [5, -5] := hr5
  obtain ⟨b5, o5, rfl, q50⟩ := hI5.at_ (show [(5 : Int), -5][0]? = some 5 from rfl)
  obtain ⟨b5', o5', he5, q51⟩ := hI5.at_ (show [(5 : Int), -5][1]? = some (-5) from rfl)
  cases he5
  obtain ⟨b4, o4, rfl, q40⟩ := (HI4.out.below hb).at_ hg0
  rw [Nat.add_zero] at q50 q40
  have l5 := lt_of_cell q50
  have l4 := lt_of_cell q40
  clear ho hb hr5 hI5 hg0 HUN
  have hx1 : (5 : Int) ≤ 5 + (d0 : Int) := by omega
  have hx2 : 5 + (d0 : Int) ≤ 1000007 := by omega
  go_wp2
  go_ret
  exact ⟨rfl, HBu.out⟩

  
end

section
open Go.RowKit

theorem info_bool : (Tryz.prog.info? 4).map (fun i => (i.zero, i.size, i.bytes)) = some (some (.bool false), 1, 1) := by kernel_rfl
def BArr (w : World) (B T : Nat) (l : List Bool) : Prop := w.heap[B]? = some (.cells (l.map Value.bool).toArray T (0, 0))
theorem BArr.lt {w : World} {B T : Nat} {l : List Bool} (h : BArr w B T l) : B < w.heap.size := (Array.getElem?_eq_some_iff.1 h).1
theorem BArr.cell {w : World} {B T : Nat} {l : List Bool} (h : BArr w B T l) (j : Nat) (x : Bool) (hx : l[j]? = some x) : w.cell? ⟨B, j, none⟩ = some (.bool x) := by
  rw [cell_of_row w B j _ T (0, 0) h]; simp [hx]
theorem BArr.frozen {w : World} {B T : Nat} {l : List Bool} (h : BArr w B T l) (j : Nat) : w.frozen? ⟨B, j, none⟩ = false := frozen_of_row w B j _ T h
theorem BArr.kept {w w' : World} {B T : Nat} {l : List Bool} (h : BArr w B T l) (hb : w'.heap[B]? = w.heap[B]?) : BArr w' B T l := hb.trans h
theorem BArr.below {w w' : World} {B T : Nat} {l : List Bool} (h : BArr w B T l) (hb : Below w.heap.size w w') : BArr w' B T l := h.kept (hb.block B h.lt)
theorem BArr.set {w : World} {B T : Nat} {l : List Bool} (h : BArr w B T l) (i : Nat) (v : Bool) : BArr (w.setCell ⟨B, i, none⟩ (.bool v)) B T (l.set i v) := by
  have := heap_setCell_same w B i _ T (.bool v) h
  unfold BArr
  rw [this]
  congr 2
  rw [List.map_set]
  simp
theorem BArr.of_made {w : World} {base T n g : Nat} (h : w.ownsRow base T 1 (.slice (some ⟨g, 0, none⟩) n n) n (madeCells #[.bool false] n).toList) : BArr w g T (List.replicate n false) ∧ base ≤ g := by
  obtain ⟨h1, h2⟩ := h
  rcases h2 with ⟨h2, _⟩ | ⟨g', cap, cur, hv, hb, hg, hn, _, hs, ht⟩
  · simp at h2
  · simp only [Value.slice.injEq, Option.some.injEq, Addr.mk.injEq, and_true, true_and] at hv
    obtain ⟨rfl, rfl⟩ := hv
    rw [List.take_of_length_le (by simp [hs])] at ht
    have e : cur = madeCells #[.bool false] n := Array.toList_inj.1 ht
    refine ⟨?_, hb⟩
    unfold BArr
    rw [hg, e]
    congr 2
    apply Array.ext_getElem?
    intro j
    by_cases hj : j < n
    · simp [madeCells, hj, List.getElem?_replicate, Nat.mod_one]
    · simp [madeCells, hj, List.getElem?_replicate]

/-- A slice of bytes. -/
def U8s (w : World) (A : Option Addr) (l : List Nat) : Prop := Rd w 1 A l.length (l.map fun (x : Nat) => Value.int .u8 (x : Int))
theorem U8s.below {w w' : World} {A : Option Addr} {l : List Nat} (h : U8s w A l) (hb : Below w.heap.size w w') : U8s w' A l := Rd.below h hb
theorem U8s.at_ {w : World} {A : Option Addr} {xs : List Nat} (h : U8s w A xs) {k : Nat} {x : Nat} (hk : xs[k]? = some x) :
    ∃ b off, A = some ⟨b, off, none⟩ ∧ w.cell? ⟨b, off + k, none⟩ = some (.int .u8 x) := by
  have hl : k < xs.length := (List.getElem?_eq_some_iff.1 hk).1
  obtain ⟨b, off, e, hc⟩ := h.2 (by omega)
  exact ⟨b, off, e, hc k _ (by simp [hk])⟩
theorem u8s_in {w : World} {A : Option Addr} {c : Nat} {l : List Int} (h : SlC w 1 (IntC .u8) [.slice A l.length c] l) : U8s w A (l.map Int.toNat) ∧ (∀ x, x ∈ l.map Int.toNat → x < 256) ∧ l.length ≤ 9223372036854775807 := by
  obtain ⟨A', c', he, h1, h2, h3⟩ := h
  obtain ⟨rfl, rfl⟩ : A = A' ∧ c = c' := by simpa using he
  refine ⟨⟨by simp, fun hn => ?_⟩, fun y hy => ?_, by unfold maxLen at h2; omega⟩
  · obtain ⟨b, off, rfl, _, hc⟩ := h3 (by simpa using hn)
    refine ⟨b, off, rfl, fun j u hu => ?_⟩
    rw [List.getElem?_map, List.getElem?_map] at hu
    cases hx : l[j]? with
    | none => rw [hx] at hu; cases hu
    | some x =>
      rw [hx] at hu
      obtain ⟨cs', _, hcs, hr, hw⟩ := hc j x hx
      obtain ⟨n, rfl⟩ := wf_u8_ hw
      have := hcs 0 (.int .u8 n.toNat) (by rw [hr]; rfl)
      simp only [Nat.mul_one, Nat.add_zero] at this
      rw [this]
      simpa using hu
  · obtain ⟨x, hx, rfl⟩ := List.mem_map.1 hy
    obtain ⟨j, hj⟩ := List.getElem?_of_mem hx
    obtain ⟨b, off, _, _, hc⟩ := h3 (by have := (List.getElem?_eq_some_iff.1 hj).1; omega)
    obtain ⟨cs', _, hcs, hr, hw⟩ := hc j x hj
    obtain ⟨n, rfl⟩ := wf_u8_ hw
    have := n.toNat_lt
    simpa using this
end

section
open Go.RowKit

theorem shChk_at (l : List (Int × Int)) (hl : l.length ≤ 16) (h1 : 1 ≤ l.length) (hv : l.all validB = true) (hp : ∀ (j : Nat) (t : Int × Int), l[j]? = some t → t.1 = (j : Int) + 1) (k : Nat) (t : Int × Int) (ht : l[k]? = some t) :
    shChk (rt (l.map shLf)) (l.length : Int) t (pt (l.map shLf) k) = true := shChk_own l k t hl h1 ht (hp k t ht) (List.all_eq_true.1 hv t (List.mem_of_getElem? ht))
theorem pl_le (l : List (Int × Int)) (k : Nat) (hl : l.length ≤ 16) (h1 : 1 ≤ l.length) : (pt (l.map shLf) k).length ≤ 1000000 := by
  rw [pt_len]
  have := plen_lt_n (l.map shLf).length k (by rw [List.length_map]; exact h1)
  rw [List.length_map] at this ⊢
  omega

/-- What the flags say of the shares that were offered. -/
structure Flg (p : List Int) (m : Nat) (S : List (Int × Int)) (F : List Bool) : Prop where
  on : On p S
  hi : ∀ s, s ∈ S → s.1 ≤ m
  len : F.length = m
  flag : ∀ j, j < m → F[j]? = some (fnd S ((j : Int) + 1)).isSome
theorem Flg.nil (p : List Int) (m : Nat) : Flg p m [] (List.replicate m false) :=
  ⟨⟨by simp, by simp, by simp⟩, by simp, by simp, fun j hj => by simp [hj, fnd]⟩
theorem Flg.same {p : List Int} {m : Nat} {S : List (Int × Int)} {F : List Bool} (h : Flg p m S F) {k : Nat} (hk : k < m) (ht : F[k]? = some true) : Flg p m S (F.set k true) := by
  have e : F.set k true = F := by
    apply List.ext_getElem?
    intro j
    by_cases hj : j = k
    · subst hj; rw [List.getElem?_set_self (by rw [h.len]; exact hk), ht]
    · rw [List.getElem?_set_ne (fun e => hj e.symm)]
  rw [e]; exact h
theorem Flg.snoc {p : List Int} {m : Nat} {S : List (Int × Int)} {F : List Bool} (h : Flg p m S F) (hm : m ≤ 16) {k : Nat} (hk : k < m) (hf : fnd S ((k : Int) + 1) = none) : Flg p m (S ++ [((k : Int) + 1, evp p ((k : Int) + 1))]) (F.set k true) := by
  refine ⟨⟨fun s hs => ?_, fun s hs => ?_, ?_⟩, fun s hs => ?_, by rw [List.length_set]; exact h.len, fun j hj => ?_⟩
  · rcases List.mem_append.1 hs with h1 | h1
    · exact h.on.place s h1
    · rw [List.mem_singleton.1 h1]; simp only; omega
  · rcases List.mem_append.1 hs with h1 | h1
    · exact h.on.value s h1
    · rw [List.mem_singleton.1 h1]
  · rw [List.map_append, List.nodup_append]
    refine ⟨h.on.nodup, by simp, ?_⟩
    intro a ha b hb e
    simp only [List.map_cons, List.map_nil, List.mem_singleton] at hb
    exact fnd_none.1 hf (by rw [← hb, ← e]; exact ha)
  · rcases List.mem_append.1 hs with h1 | h1
    · exact h.hi s h1
    · rw [List.mem_singleton.1 h1]; simp only; omega
  · rw [fnd_snoc]
    by_cases hjk : j = k
    · subst hjk
      rw [List.getElem?_set_self (by rw [h.len]; exact hk), hf, if_pos rfl]; rfl
    · rw [List.getElem?_set_ne (fun e => hjk e.symm), h.flag j hj, if_neg (by simp only; omega), Option.or_none]
theorem Flg.join {p : List Int} {m n : Nat} {S : List (Int × Int)} {F : List Bool} (h : Flg p m S F) (hn : 1 ≤ n) (hn' : n ≤ 16) (hp : p.length ≤ n) : opnR (n : Int) m S false = if S.length < n then (0, 25) else (evp p 0, 0) := by
  show joinF (ord S m) n = _
  rw [joinF_perm (ord_perm h.on.nodup (fun s hs => ⟨(h.on.place s hs).1, h.hi s hs⟩))]
  by_cases hl : S.length < n
  · rw [if_pos hl]; exact joinF_on_few p n S h.on hn hn' hl
  · rw [if_neg hl]; exact joinF_on p n S h.on hn hn' hp (by omega)
theorem Flg.few {p : List Int} {m : Nat} {S : List (Int × Int)} {F : List Bool} (h : Flg p m S F) : S.length ≤ m := by
  have h1 := (ord_perm h.on.nodup (fun s hs => ⟨(h.on.place s hs).1, h.hi s hs⟩)).length_eq
  have h2 := ord_len S m
  omega

set_option maxRecDepth 100000 in
set_option maxHeartbeats 64000000 in
theorem quorum_walk (secret : Int) (A : Option Addr) (c : Nat) (raw : List Int) (a b : Nat) (B0 : Option Addr) (d : Nat) (order : List Nat) (w : World) (hT : Tabs w) (hA : Ints w A raw) (hO : U8s w B0 order) (hraw : raw.length ≤ 9223372036854775807) (ha : a < 256) (hb : b < 256) (hol : order.length ≤ 9223372036854775807) (ho8 : ∀ x, x ∈ order → x < 256) :
    Calls Tryz.prog 6 #[.int .i64 secret, .slice A raw.length c, .int .u8 a, .int .u8 b, .slice B0 order.length d] w fun e w' => e = .returned (.bool true) ∧ Below w.heap.size w w' := by
  have HH := Lib.hid (bhead_any w hT)
  have HT : Hid (∀ W, Below w.heap.size w W → Tabs W) := Lib.hid (fun W hW => hT.below hW)
  have HA : Hid (∀ W, Below w.heap.size w W → _) := Lib.hid (fun W hW => made_any secret A c raw a b W (hA.below hW) hraw ha hb)
  have HO : Hid (∀ W, Below w.heap.size w W → U8s W B0 order) := Lib.hid (fun W hW => hO.below hW)
  have HO8 := Lib.hid ho8
  clear hT hA hO ho8
  by_cases hz : 20 < order.length
  case pos =>
    have hd1 : decide (20 < order.length) = true := decide_eq_true hz
    have hi1 : (20 : Int) < (order.length : Int) := by omega
    have hd2 : decide ((20 : Int) < (order.length : Int)) = true := decide_eq_true hi1
    go_enter Tryz.func6, Tryz.ntmps6
    go_wp2_with fail
    refine (HH.out).mono ?_
    rintro e w1 ⟨rfl, hb1⟩
    have HB1 := Lib.hid hb1
    clear hb1
    go_wp2
    go_ret
    exact ⟨rfl, HB1.out⟩
  case neg =>
  have hd1 : decide (20 < order.length) = false := decide_eq_false hz
  have hi1 : ¬ (20 : Int) < (order.length : Int) := by omega
  have hd2 : decide ((20 : Int) < (order.length : Int)) = false := decide_eq_false hi1
  obtain ⟨n, hn⟩ : ∃ n, n = 1 + a % 4 := ⟨_, rfl⟩
  obtain ⟨m, hm⟩ : ∃ m, m = 1 + a % 4 + b % 3 := ⟨_, rfl⟩
  have hn1 : 1 ≤ n := by omega
  have hnm : n ≤ m := by omega
  have hm6 : m ≤ 6 := by omega
  obtain ⟨p, hp⟩ : ∃ p, p = (secret % 2147483647) :: madeL raw (a % 4) := ⟨_, rfl⟩
  have hpn : p.length = n := by rw [hp, List.length_cons, madeL_length]; omega
  have hp0 : evp p 0 = secret % 2147483647 := by rw [hp]; exact evp_zero _ _ (elemB_mod secret)
  rw [← hm, ← hn, ← hp] at HA
  obtain ⟨l, hl⟩ : ∃ l, l = shs p m := ⟨_, rfl⟩
  have hll : l.length = m := by rw [hl]; exact shs_length _ _
  have hon : On p l := by rw [hl]; exact shs_on p m (by omega)
  have hval := hon.valid
  have hplc : ∀ (j : Nat) (t : Int × Int), l[j]? = some t → t.1 = (j : Int) + 1 ∧ t = ((j : Int) + 1, evp p ((j : Int) + 1)) := fun j t h => by
    have h1 := shs_place p m j t (by rw [← hl]; exact h)
    have h2 := hon.value t (List.mem_of_getElem? h)
    exact ⟨h1, Prod.ext h1 (by rw [h2, h1])⟩
  rw [← hl] at HA
  have HPLC := Lib.hid hplc
  have HVAL := Lib.hid hval
  have HP0 := Lib.hid hp0
  have HPN := Lib.hid hpn
  have HLL := Lib.hid hll
  have HCK : Hid (∀ (k : Nat) (t : Int × Int), l[k]? = some t → shChk (rt (l.map shLf)) (m : Int) t (pt (l.map shLf) k) = true) := Lib.hid (fun k t h => by
    have := shChk_at l (by omega) (by omega) hval (fun j t h => (hplc j t h).1) k t h
    rwa [hll] at this)
  have HPL : Hid (∀ k, (pt (l.map shLf) k).length ≤ 1000000) := Lib.hid (fun k => pl_le l k (by omega) (by omega))
  have HPS : Hid (∀ k, sm (pt (l.map shLf) k)) := Lib.hid (fun k => pt_below _ _ (shLf_sm _))
  have HPT0 : Hid (∀ (A' : Option Addr) (c' k : Nat) (W : World), Prs W A' l → k < m → Tabs W → Calls Tryz.prog 30 #[.slice A' m c', .int .i64 k] W fun e w' => ∃ A' c', e = .returned (.slice A' (pt (l.map shLf) k).length c') ∧ (pt (l.map shLf) k).length ≤ c' ∧ Strs w' A' (pt (l.map shLf) k) ∧ Below W.heap.size W w') := Lib.hid (fun A' c' k W hP hk hT => by
    have := lpath_any A' c' l k W hP (by omega) hval (by omega) hT
    rw [hll] at this
    exact this)
  have HRT : Hid (∀ (A' : Option Addr) (c' : Nat) (W : World), Prs W A' l → Tabs W → Calls Tryz.prog 29 #[.slice A' m c'] W fun e w' => e = .returned (.tuple #[.string (rt (l.map shLf)), .int .i64 0]) ∧ Below W.heap.size W w') := Lib.hid (fun A' c' W hP hT => by
    have := sroot_any A' c' l W hP (by omega) (by omega) hval hT
    rw [hll] at this
    exact this)
  have HRD : Hid (isD (rt (l.map shLf)) = true) := Lib.hid (isD_rt _ (shLf_D _))
  have HRS : Hid ((rt (l.map shLf)).size ≤ 1000000000) := Lib.hid (by have := rt_size (l.map shLf) (shLf_sm _); omega)
  generalize rt (l.map shLf) = R at *
  generalize pt (l.map shLf) = P at *
  obtain ⟨i0, hi0, hz0, hz1, hz2⟩ := info_parts info_bool
  have HI := Lib.hid (And.intro hi0 (And.intro hz0 (And.intro hz1 hz2)))
  clear hi0 hz0 hz1 hz2 hn hm hp hl hll hon hval hplc hpn hp0 hraw ha hb
  go_enter Tryz.func6, Tryz.ntmps6
  go_wp2_with fail
  refine (HH.out).mono ?_
  rintro e w1 ⟨rfl, hb1⟩
  have HB1 := Lib.hid hb1
  clear hb1
  go_wp2_with fail
  refine (HA.out w1 HB1.out).mono ?_
  rintro e w2 ⟨v2, rfl, ho2, hb2⟩
  obtain ⟨A2, c2, rfl, -, -, hr2⟩ := Rd.of_own ho2
  have HB2 := Lib.hid (below_trans HB1.out hb2)
  have HP2 : Hid (∀ W, Below w2.heap.size w2 W → Prs W A2 l) := Lib.hid (fun W hW => Prs.below (by unfold Prs; rw [HLL.out]; exact hr2) hW)
  clear ho2 hb2 hr2
  go_wp2_with fail
  refine (HRT.out A2 c2 w2 (HP2.out _ (Below.refl _ _)) (HT.out _ HB2.out)).mono ?_
  rintro e w3 ⟨rfl, hb3⟩
  have HB3 := Lib.hid (below_trans HB2.out hb3)
  have HP3 : Hid (∀ W, Below w3.heap.size w3 W → Prs W A2 l) := Lib.hid (fun W hW => HP2.out W (below_trans hb3 hW))
  clear hb3 HP2
  go_wp2_with fail
  refine (vnew_ok n m R w3 HRS.out hn1 hnm (by omega) HRD.out).mono ?_
  rintro e w4 ⟨g, B, rfl, hV, hg, hB, hb4⟩
  have HV4 := Lib.hid hV
  have HGB : Hid (∀ k, k ∈ [g, B] → w3.heap.size ≤ k) := Lib.hid (by intro k hk; simp only [List.mem_cons, List.not_mem_nil, or_false] at hk; rcases hk with rfl | rfl <;> assumption)
  have HGL : Hid (∀ k, k ∈ [g, B] → k < w4.heap.size) := Lib.hid (by intro k hk; have := hV.lt; simp only [List.mem_cons, List.not_mem_nil, or_false] at hk; rcases hk with rfl | rfl <;> omega)
  have HY4 : Hid (Below w3.heap.size w3 w4) := Lib.hid hb4
  clear hV hg hB hb4
  have hne0 : ((m : Int) == 0) = false := by simp; omega
  have HPT : Hid (∀ (k : Nat) W, k < m → Below w3.heap.size w3 W → _) := Lib.hid (fun k W hk hW => HPT0.out A2 c2 k W (HP3.out W hW) hk (HT.out W (below_trans HB3.out hW)))
  have HOF : Hid (∀ (s : Int × Int) (SS : List (Int × Int)) (opn : Bool) (C : Option Addr) (f k : Nat) W, SS.length ≤ 1000 → PV W g B n m R SS opn → Strs W C (P k) → (P k).length ≤ f → Below w3.heap.size w3 W → _) := Lib.hid (fun s SS opn C f k W hn hV hC hf hW => voffer_any g B n m R SS opn s C f (P k) W hV hn hC (HPL.out k) hf (HPS.out k) (HT.out W (below_trans HB3.out hW)))
  go_wp2_with (at_make; refine wpList_make_full _ rfl (.tmp 71) (.tmp 71) 57 rfl w4.heap.size 4 i0 _ 1 Tryz.underlying57 HI.out.1 HI.out.2.1 HI.out.2.2.1 _ _ _ _ m rfl rfl rfl rfl (by rw [HI.out.2.2.2]; omega) (by simp only [maxLen]; omega) (Nat.le_refl _) ?_)
  intro w5 hown5 hg5
  have HF5 := Lib.hid (BArr.of_made hown5).1
  have HB5 := Lib.hid ((Below.refl w4.heap.size w4).grown hg5 (Nat.le_refl _) (by simp))
  have HV5 := Lib.hid (HV4.out.below HB5.out)
  have HY5 := Lib.hid (below_trans HY4.out HB5.out)
  obtain ⟨gb, hgb⟩ : ∃ gb, gb = w4.heap.size := ⟨_, rfl⟩
  have HGBN : Hid (gb ∉ [g, B] ∧ w3.heap.size ≤ gb) := Lib.hid ⟨fun h => by have := HGL.out gb h; omega, by have := HY4.out.size; omega⟩
  rw [← hgb] at HF5 ⊢
  have HFL0 := Lib.hid (Flg.nil p m)
  clear hown5 hg5 hgb HGL
  go_wp2_with fail
  go_loopw [20, 21, 22, 23] (fun u20 u21 _ _ wr => ∃ (i : Nat) (SS : List (Int × Int)) (FF : List Bool), i ≤ order.length ∧ u21 = .int .i64 i ∧ u20 = .int .i64 SS.length ∧ Below w3.heap.size w3 wr ∧ PV wr g B n m R SS false ∧ BArr wr gb 4 FF ∧ Flg p m SS FF) (fun _ u21 _ _ _ => order.length - (intOf u21).toNat)
  case atStart => exact ⟨0, [], _, Nat.zero_le _, rfl, rfl, HY5.out, HV5.out, HF5.out, HFL0.out⟩
  case round =>
  obtain ⟨i, SS, FF, hi, rfl, rfl, hb, hV, hF, hfl⟩ := hrel
  have HW := Lib.hid hb
  have HV := Lib.hid hV
  have HF := Lib.hid hF
  have HFL := Lib.hid hfl
  have hsl := hfl.few
  clear hb hV hF hfl
  by_cases hlt : i < order.length
  case pos =>
    obtain ⟨x, hx⟩ := get_some order i hlt
    have hx8 := HO8.out x (List.mem_of_getElem? hx)
    obtain ⟨bo, oo, rfl, hco⟩ := (HO.out wr (below_trans HB3.out HW.out)).at_ hx
    have hcl := lt_of_cell hco
    obtain ⟨k, hk⟩ : ∃ k, k = x % m := ⟨_, rfl⟩
    have hkm : k < m := by rw [hk]; exact Nat.mod_lt _ (by omega)
    have hrem : (x : Int).tmod (m : Int) = (k : Int) := by rw [Int.tmod_eq_emod_of_nonneg (by omega), hk, Int.natCast_emod]
    have hrem' : (x : Int) % (m : Int) = (k : Int) := by rw [hk, Int.natCast_emod]
    have hm0 : ¬ (m : Int) = 0 := by omega
    obtain ⟨s, hs⟩ := get_some l k (by rw [HLL.out]; exact hkm)
    have HS := Lib.hid hs
    have hp1 := (HPLC.out k s hs).1
    have HSE := Lib.hid (HPLC.out k s hs).2
    have HC := Lib.hid (HCK.out k s hs)
    obtain ⟨bl, ol, hA2, q1, q2⟩ := (HP3.out wr HW.out).at_ hs
    subst hA2
    clear q1 q2 hx hs hk
    have hflag := HFL.out.flag k hkm
    obtain ⟨fl, hfl⟩ : ∃ fl, (fnd SS ((k : Int) + 1)).isSome = fl := ⟨_, rfl⟩
    rw [hfl] at hflag
    have HFG := Lib.hid hflag
    have HFN := Lib.hid hfl
    have hki : (k : Int) < (m : Int) := by omega
    clear hflag hfl
    cases fl
    case true =>
      have he : offE R (m : Int) SS false s (P k) = 8 := by
        unfold offE
        rw [HC.out, hp1, HFN.out]; rfl
      have hss : offS R (m : Int) SS false s (P k) = SS := by unfold offS; rw [he]; rfl
      have HE := Lib.hid he
      have HSS := Lib.hid hss
      clear he hss hp1
      go_wp2_with fail
      clear hco hcl hrem hrem' hm0
      refine wp_region_held_drew (S := fun W => Below w3.heap.size w3 W) (by kernel_rfl) (HW.out.drew) (fun hS0 => ?_)
      refine wpAnyH_take (i := 0) (v := ?_) rfl (by kernel_rfl) (by kernel_rfl) (by kernel_rfl) (fun _ _ _ h => h) (Or.inl ⟨by kernel_rfl, ?hy⟩) hS0 ?rest
      case hy => (intro W hSw; clear hSw; go_simp; with_reducible rfl)
      case rest =>
      refine wpAnyH_take (i := 1) (v := ?_) rfl (by kernel_rfl) (by kernel_rfl) (by kernel_rfl) (fun _ _ _ h => h) (Or.inl ⟨by kernel_rfl, ?hy⟩) hS0 ?rest
      case hy => (intro W hSw; clear hSw; go_simp; with_reducible rfl)
      case rest =>
      refine wpAnyH_take (i := 2) (v := ?_) rfl (by kernel_rfl) (by kernel_rfl) (by kernel_rfl) (fun _ _ _ h => h) (Or.inl ⟨by kernel_rfl, ?hy⟩) hS0 ?rest
      case hy => (intro W hSw; clear hSw; go_simp; with_reducible rfl)
      case rest =>
      refine wpAnyH_take (i := 3) (v := ?_) rfl (by kernel_rfl) (by kernel_rfl) (by kernel_rfl) (fun _ _ _ h => h) (Or.inl ⟨by kernel_rfl, ?hy⟩) hS0 ?rest
      case hy => (intro W hSw; clear hSw; go_simp; with_reducible rfl)
      case rest =>
      refine wpAnyH_take (i := 4) (v := ?_) rfl (by kernel_rfl) (by kernel_rfl) (by kernel_rfl) (fun _ _ _ h => h) (Or.inl ⟨by kernel_rfl, ?hy⟩) hS0 ?rest
      case hy => (intro W hSw; obtain ⟨bl, ol, he, q1, q2⟩ := (HP3.out W hSw).at_ HS.out; cases he; have ql := lt_of_cell q1; clear hSw; go_simp; with_reducible rfl)
      case rest =>
      refine wpAnyH_take (i := 5) (v := ?_) rfl (by kernel_rfl) (by kernel_rfl) (by kernel_rfl) (fun _ _ _ h => h) (Or.inl ⟨by kernel_rfl, ?hy⟩) hS0 ?rest
      case hy => (intro W hSw; clear hSw; go_simp; with_reducible rfl)
      case rest =>
      refine wpAnyH_take (i := 6) (v := ?_) rfl (by kernel_rfl) (by kernel_rfl) (by kernel_rfl) (fun _ _ _ h => h) (Or.inl ⟨by kernel_rfl, ?hy⟩) hS0 ?rest
      case hy => (intro W hSw; clear hSw; go_simp; with_reducible rfl)
      case rest =>
      refine wpAnyH_ready (rs := [7]) (by kernel_rfl) (by simp) ?_
      refine AllReadyH.cons rfl (fun K hK => ?_) (AllReadyH.nil)
      go_simp
      refine (HPT.out k _ hkm HW.out.drew).mono ?_
      rintro e wp ⟨C, f, rfl, hf, hC, hb⟩
      have HYP := Lib.hid (below_trans HW.out.drew hb)
      have HVP := Lib.hid (HV.out.below (below_trans (Below.refl _ _).drew hb))
      have HFP := Lib.hid (HF.out.below (below_trans (Below.refl _ _).drew hb))
      have HCP := Lib.hid hC
      clear hb hC
      go_simp
      refine hK.out _ _ HYP.out (fun hS1 => ?_)
      clear hK K
      refine wpAnyH_ready (rs := [8]) (by kernel_rfl) (by simp) ?_
      refine AllReadyH.cons rfl (fun K hK => ?_) (AllReadyH.nil)
      go_simp
      refine (HOF.out s SS false C f k wp (by omega) HVP.out HCP.out hf HYP.out).mono ?_
      rintro e w7 ⟨rfl, hV, hc⟩
      rw [HE.out]
      rw [HSS.out] at hV
      have HV7 := Lib.hid hV
      have HY7 := Lib.hid (below_chg HYP.out hc HGB.out)
      have HF7 : Hid (BArr w7 gb 4 FF) := Lib.hid (HFP.out.kept (hc.block gb HFP.out.lt HGBN.out.1))
      clear hV hc
      go_simp
      refine hK.out _ _ HY7.out (fun hS2 => ?_)
      clear hK K
      refine wpAnyH_take (i := 9) (v := ?_) rfl (by kernel_rfl) (by kernel_rfl) (by kernel_rfl) (fun _ _ _ h => h) (Or.inl ⟨by kernel_rfl, ?hy⟩) hS2 ?rest
      case hy => (intro W hSw; clear hSw; go_simp; with_reducible rfl)
      case rest =>
      refine wpAnyH_done (by kernel_rfl) ?_ _
      clear hS0 hS1 hS2 HYP HVP HFP HCP hf
      have c1 := HF7.out.cell k _ HFG.out
      have c2 := HF7.out.frozen k
      have c3 := HF7.out.lt
      have HPV : Hid (∀ SX, PV w7 g B n m R SX false → PV (w7.setCell ⟨gb, k, none⟩ (.bool true)) g B n m R SX false) := Lib.hid (fun SX h => h.kept (Below.heap_setCell w7 ⟨gb, k, none⟩ _ g (fun e => HGBN.out.1 (by have e' : g = gb := e; rw [← e']; simp))) (Below.heap_setCell w7 ⟨gb, k, none⟩ _ B (fun e => HGBN.out.1 (by have e' : B = gb := e; rw [← e']; simp))))
      go_wp2
      go_roundw
      case rel => exact ⟨i + 1, SS, FF.set k true, by omega, by go_num, rfl, HY7.out.setCell HGBN.out.2 _, HPV.out _ HV7.out, HF7.out.set k true, HFL.out.same hkm HFG.out⟩
      case measure => simp [intOf]; omega
    case false =>
      have he : offE R (m : Int) SS false s (P k) = 0 := by
        unfold offE
        rw [HC.out, hp1, HFN.out]; rfl
      have hss : offS R (m : Int) SS false s (P k) = SS ++ [s] := by unfold offS; rw [he]; rfl
      have HE := Lib.hid he
      have HSS := Lib.hid hss
      clear he hss hp1
      go_wp2_with fail
      clear hco hcl hrem hrem' hm0
      refine wp_region_held_drew (S := fun W => Below w3.heap.size w3 W) (by kernel_rfl) (HW.out.drew) (fun hS0 => ?_)
      refine wpAnyH_take (i := 0) (v := ?_) rfl (by kernel_rfl) (by kernel_rfl) (by kernel_rfl) (fun _ _ _ h => h) (Or.inl ⟨by kernel_rfl, ?hy⟩) hS0 ?rest
      case hy => (intro W hSw; clear hSw; go_simp; with_reducible rfl)
      case rest =>
      refine wpAnyH_take (i := 1) (v := ?_) rfl (by kernel_rfl) (by kernel_rfl) (by kernel_rfl) (fun _ _ _ h => h) (Or.inl ⟨by kernel_rfl, ?hy⟩) hS0 ?rest
      case hy => (intro W hSw; clear hSw; go_simp; with_reducible rfl)
      case rest =>
      refine wpAnyH_take (i := 2) (v := ?_) rfl (by kernel_rfl) (by kernel_rfl) (by kernel_rfl) (fun _ _ _ h => h) (Or.inl ⟨by kernel_rfl, ?hy⟩) hS0 ?rest
      case hy => (intro W hSw; clear hSw; go_simp; with_reducible rfl)
      case rest =>
      refine wpAnyH_take (i := 3) (v := ?_) rfl (by kernel_rfl) (by kernel_rfl) (by kernel_rfl) (fun _ _ _ h => h) (Or.inl ⟨by kernel_rfl, ?hy⟩) hS0 ?rest
      case hy => (intro W hSw; clear hSw; go_simp; with_reducible rfl)
      case rest =>
      refine wpAnyH_take (i := 4) (v := ?_) rfl (by kernel_rfl) (by kernel_rfl) (by kernel_rfl) (fun _ _ _ h => h) (Or.inl ⟨by kernel_rfl, ?hy⟩) hS0 ?rest
      case hy => (intro W hSw; obtain ⟨bl, ol, he, q1, q2⟩ := (HP3.out W hSw).at_ HS.out; cases he; have ql := lt_of_cell q1; clear hSw; go_simp; with_reducible rfl)
      case rest =>
      refine wpAnyH_take (i := 5) (v := ?_) rfl (by kernel_rfl) (by kernel_rfl) (by kernel_rfl) (fun _ _ _ h => h) (Or.inl ⟨by kernel_rfl, ?hy⟩) hS0 ?rest
      case hy => (intro W hSw; clear hSw; go_simp; with_reducible rfl)
      case rest =>
      refine wpAnyH_take (i := 6) (v := ?_) rfl (by kernel_rfl) (by kernel_rfl) (by kernel_rfl) (fun _ _ _ h => h) (Or.inl ⟨by kernel_rfl, ?hy⟩) hS0 ?rest
      case hy => (intro W hSw; clear hSw; go_simp; with_reducible rfl)
      case rest =>
      refine wpAnyH_ready (rs := [7]) (by kernel_rfl) (by simp) ?_
      refine AllReadyH.cons rfl (fun K hK => ?_) (AllReadyH.nil)
      go_simp
      refine (HPT.out k _ hkm HW.out.drew).mono ?_
      rintro e wp ⟨C, f, rfl, hf, hC, hb⟩
      have HYP := Lib.hid (below_trans HW.out.drew hb)
      have HVP := Lib.hid (HV.out.below (below_trans (Below.refl _ _).drew hb))
      have HFP := Lib.hid (HF.out.below (below_trans (Below.refl _ _).drew hb))
      have HCP := Lib.hid hC
      clear hb hC
      go_simp
      refine hK.out _ _ HYP.out (fun hS1 => ?_)
      clear hK K
      refine wpAnyH_ready (rs := [8]) (by kernel_rfl) (by simp) ?_
      refine AllReadyH.cons rfl (fun K hK => ?_) (AllReadyH.nil)
      go_simp
      refine (HOF.out s SS false C f k wp (by omega) HVP.out HCP.out hf HYP.out).mono ?_
      rintro e w7 ⟨rfl, hV, hc⟩
      rw [HE.out]
      rw [HSS.out] at hV
      have HV7 := Lib.hid hV
      have HY7 := Lib.hid (below_chg HYP.out hc HGB.out)
      have HF7 : Hid (BArr w7 gb 4 FF) := Lib.hid (HFP.out.kept (hc.block gb HFP.out.lt HGBN.out.1))
      clear hV hc
      go_simp
      refine hK.out _ _ HY7.out (fun hS2 => ?_)
      clear hK K
      refine wpAnyH_take (i := 9) (v := ?_) rfl (by kernel_rfl) (by kernel_rfl) (by kernel_rfl) (fun _ _ _ h => h) (Or.inl ⟨by kernel_rfl, ?hy⟩) hS2 ?rest
      case hy => (intro W hSw; clear hSw; go_simp; with_reducible rfl)
      case rest =>
      refine wpAnyH_done (by kernel_rfl) ?_ _
      clear hS0 hS1 hS2 HYP HVP HFP HCP hf
      have c1 := HF7.out.cell k _ HFG.out
      have c2 := HF7.out.frozen k
      have c3 := HF7.out.lt
      have HPV : Hid (∀ SX, PV w7 g B n m R SX false → PV (w7.setCell ⟨gb, k, none⟩ (.bool true)) g B n m R SX false) := Lib.hid (fun SX h => h.kept (Below.heap_setCell w7 ⟨gb, k, none⟩ _ g (fun e => HGBN.out.1 (by have e' : g = gb := e; rw [← e']; simp))) (Below.heap_setCell w7 ⟨gb, k, none⟩ _ B (fun e => HGBN.out.1 (by have e' : B = gb := e; rw [← e']; simp))))
      go_wp2
      go_roundw
      case rel => exact ⟨i + 1, SS ++ [s], FF.set k true, by omega, by go_num, by rw [List.length_append]; go_num, HY7.out.setCell HGBN.out.2 _, HPV.out _ HV7.out, HF7.out.set k true, by rw [HSE.out]; exact HFL.out.snoc (by omega) hkm (by have := HFN.out; cases h : fnd SS ((k : Int) + 1) with | none => rfl | some t => rw [h] at this; cases this)⟩
      case measure => simp [intOf]; omega
  case neg =>
  have HJ := Lib.hid (HFL.out.join hn1 (by omega) (by rw [HPN.out]; exact Nat.le_refl _))
  have HVO := Lib.hid (vopen_any g B n m R SS false wr HV.out (by omega))
  by_cases hfew : SS.length < n
  case pos =>
    have e25 : opnR (n : Int) m SS false = (0, 25) := by rw [HJ.out, if_pos hfew]
    rw [e25] at HVO
    clear e25
    go_wp2_with fail
    refine HVO.out.mono ?_
    rintro e w8 ⟨rfl, -, hc⟩
    have HY8 := Lib.hid (below_chg HW.out hc HGB.out)
    clear hc
    go_wp2
    go_ret
    exact ⟨rfl, below_trans HB3.out HY8.out⟩
  case neg =>
    have e0 : opnR (n : Int) m SS false = (secret % 2147483647, 0) := by rw [HJ.out, if_neg hfew, HP0.out]
    rw [e0] at HVO
    clear e0
    have hnf : ¬ (SS.length : Int) < (n : Int) := by omega
    obtain ⟨s0, hs0⟩ := get_some l 0 (by rw [HLL.out]; omega)
    obtain ⟨bl, ol, hA2, -, -⟩ := (HP3.out wr HW.out).at_ hs0
    subst hA2
    have HS0 := Lib.hid hs0
    have hmp : 0 < m := by omega
    have hmp' : (0 : Int) < (m : Int) := by omega
    clear hs0
    go_wp2_with fail
    refine HVO.out.mono ?_
    rintro e w8 ⟨rfl, hV, hc⟩
    have hV' : PV w8 g B n m R SS true := hV
    have HV8 := Lib.hid hV'
    have HY8 := Lib.hid (below_chg HW.out hc HGB.out)
    clear hc hV hV'
    have HVO2 := Lib.hid (vopen_any g B n m R SS true w8 HV8.out (by omega))
    have e11 : opnR (n : Int) m SS true = (0, 11) := rfl
    rw [e11] at HVO2
    clear e11
    go_wp2_with fail
    refine HVO2.out.mono ?_
    rintro e w9 ⟨rfl, hV, hc⟩
    have hV' : PV w9 g B n m R SS true := hV
    have HV9 := Lib.hid hV'
    have HY9 := Lib.hid (below_chg HY8.out hc HGB.out)
    clear hc hV hV'
    go_wp2_with fail
    refine wp_region_held_drew (S := fun W => Below w3.heap.size w3 W) (by kernel_rfl) (HY9.out.drew) (fun hS0 => ?_)
    refine wpAnyH_take (i := 0) (v := ?_) rfl (by kernel_rfl) (by kernel_rfl) (by kernel_rfl) (fun _ _ _ h => h) (Or.inl ⟨by kernel_rfl, ?hy⟩) hS0 ?rest
    case hy => (intro W hSw; clear hSw; go_simp; with_reducible rfl)
    case rest =>
    refine wpAnyH_take (i := 1) (v := ?_) rfl (by kernel_rfl) (by kernel_rfl) (by kernel_rfl) (fun _ _ _ h => h) (Or.inl ⟨by kernel_rfl, ?hy⟩) hS0 ?rest
    case hy => (intro W hSw; clear hSw; go_simp; with_reducible rfl)
    case rest =>
    refine wpAnyH_take (i := 2) (v := ?_) rfl (by kernel_rfl) (by kernel_rfl) (by kernel_rfl) (fun _ _ _ h => h) (Or.inl ⟨by kernel_rfl, ?hy⟩) hS0 ?rest
    case hy => (intro W hSw; clear hSw; go_simp; with_reducible rfl)
    case rest =>
    refine wpAnyH_take (i := 3) (v := ?_) rfl (by kernel_rfl) (by kernel_rfl) (by kernel_rfl) (fun _ _ _ h => h) (Or.inl ⟨by kernel_rfl, ?hy⟩) hS0 ?rest
    case hy => (intro W hSw; clear hSw; go_simp; with_reducible rfl)
    case rest =>
    refine wpAnyH_take (i := 4) (v := ?_) rfl (by kernel_rfl) (by kernel_rfl) (by kernel_rfl) (fun _ _ _ h => h) (Or.inl ⟨by kernel_rfl, ?hy⟩) hS0 ?rest
    case hy => (intro W hSw; clear hSw; go_simp; with_reducible rfl)
    case rest =>
    refine wpAnyH_take (i := 5) (v := ?_) rfl (by kernel_rfl) (by kernel_rfl) (by kernel_rfl) (fun _ _ _ h => h) (Or.inl ⟨by kernel_rfl, ?hy⟩) hS0 ?rest
    case hy => (intro W hSw; clear hSw; go_simp; with_reducible rfl)
    case rest =>
    refine wpAnyH_take (i := 6) (v := ?_) rfl (by kernel_rfl) (by kernel_rfl) (by kernel_rfl) (fun _ _ _ h => h) (Or.inl ⟨by kernel_rfl, ?hy⟩) hS0 ?rest
    case hy => (intro W hSw; clear hSw; go_simp; with_reducible rfl)
    case rest =>
    refine wpAnyH_take (i := 7) (v := ?_) rfl (by kernel_rfl) (by kernel_rfl) (by kernel_rfl) (fun _ _ _ h => h) (Or.inl ⟨by kernel_rfl, ?hy⟩) hS0 ?rest
    case hy => (intro W hSw; clear hSw; go_simp; with_reducible rfl)
    case rest =>
    refine wpAnyH_ready (rs := [8]) (by kernel_rfl) (by simp) ?_
    refine AllReadyH.cons rfl (fun K hK => ?_) (AllReadyH.nil)
    go_simp
    refine (lelement_any _ _).mono ?_
    rintro e _ ⟨rfl, rfl⟩
    go_simp
    refine hK.out _ _ HY9.out.drew (fun hS1 => ?_)
    clear hK K
    refine wpAnyH_take (i := 9) (v := ?_) rfl (by kernel_rfl) (by kernel_rfl) (by kernel_rfl) (fun _ _ _ h => h) (Or.inl ⟨by kernel_rfl, ?hy⟩) hS1 ?rest
    case hy => (intro W hSw; clear hSw; go_simp; with_reducible rfl)
    case rest =>
    refine wpAnyH_take (i := 10) (v := ?_) rfl (by kernel_rfl) (by kernel_rfl) (by kernel_rfl) (fun _ _ _ h => h) (Or.inl ⟨by kernel_rfl, ?hy⟩) hS1 ?rest
    case hy => (intro W hSw; clear hSw; go_simp; with_reducible rfl)
    case rest =>
    refine wpAnyH_take (i := 11) (v := ?_) rfl (by kernel_rfl) (by kernel_rfl) (by kernel_rfl) (fun _ _ _ h => h) (Or.inl ⟨by kernel_rfl, ?hy⟩) hS1 ?rest
    case hy => (intro W hSw; clear hSw; go_simp; with_reducible rfl)
    case rest =>
    refine wpAnyH_take (i := 12) (v := ?_) rfl (by kernel_rfl) (by kernel_rfl) (by kernel_rfl) (fun _ _ _ h => h) (Or.inl ⟨by kernel_rfl, ?hy⟩) hS1 ?rest
    case hy => (intro W hSw; clear hSw; go_simp; with_reducible rfl)
    case rest =>
    refine wpAnyH_take (i := 13) (v := ?_) rfl (by kernel_rfl) (by kernel_rfl) (by kernel_rfl) (fun _ _ _ h => h) (Or.inl ⟨by kernel_rfl, ?hy⟩) hS1 ?rest
    case hy => (intro W hSw; clear hSw; go_simp; with_reducible rfl)
    case rest =>
    refine wpAnyH_take (i := 14) (v := ?_) rfl (by kernel_rfl) (by kernel_rfl) (by kernel_rfl) (fun _ _ _ h => h) (Or.inl ⟨by kernel_rfl, ?hy⟩) hS1 ?rest
    case hy => (intro W hSw; clear hSw; go_simp; with_reducible rfl)
    case rest =>
    refine wpAnyH_take (i := 15) (v := ?_) rfl (by kernel_rfl) (by kernel_rfl) (by kernel_rfl) (fun _ _ _ h => h) (Or.inl ⟨by kernel_rfl, ?hy⟩) hS1 ?rest
    case hy => (intro W hSw; clear hSw; go_simp; with_reducible rfl)
    case rest =>
    refine wpAnyH_take (i := 16) (v := ?_) rfl (by kernel_rfl) (by kernel_rfl) (by kernel_rfl) (fun _ _ _ h => h) (Or.inl ⟨by kernel_rfl, ?hy⟩) hS1 ?rest
    case hy => (intro W hSw; clear hSw; go_simp; with_reducible rfl)
    case rest =>
    refine wpAnyH_take (i := 17) (v := ?_) rfl (by kernel_rfl) (by kernel_rfl) (by kernel_rfl) (fun _ _ _ h => h) (Or.inl ⟨by kernel_rfl, ?hy⟩) hS1 ?rest
    case hy => (intro W hSw; clear hSw; go_simp; with_reducible rfl)
    case rest =>
    refine wpAnyH_take (i := 18) (v := ?_) rfl (by kernel_rfl) (by kernel_rfl) (by kernel_rfl) (fun _ _ _ h => h) (Or.inl ⟨by kernel_rfl, ?hy⟩) hS1 ?rest
    case hy => (intro W hSw; clear hSw; go_simp; with_reducible rfl)
    case rest =>
    refine wpAnyH_take (i := 19) (v := ?_) rfl (by kernel_rfl) (by kernel_rfl) (by kernel_rfl) (fun _ _ _ h => h) (Or.inl ⟨by kernel_rfl, ?hy⟩) hS1 ?rest
    case hy => (intro W hSw; clear hSw; go_simp; with_reducible rfl)
    case rest =>
    refine wpAnyH_take (i := 20) (v := ?_) rfl (by kernel_rfl) (by kernel_rfl) (by kernel_rfl) (fun _ _ _ h => h) (Or.inl ⟨by kernel_rfl, ?hy⟩) hS1 ?rest
    case hy => (intro W hSw; clear hSw; go_simp; with_reducible rfl)
    case rest =>
    refine wpAnyH_take (i := 21) (v := ?_) rfl (by kernel_rfl) (by kernel_rfl) (by kernel_rfl) (fun _ _ _ h => h) (Or.inl ⟨by kernel_rfl, ?hy⟩) hS1 ?rest
    case hy => (intro W hSw; clear hSw; go_simp; with_reducible rfl)
    case rest =>
    refine wpAnyH_take (i := 22) (v := ?_) rfl (by kernel_rfl) (by kernel_rfl) (by kernel_rfl) (fun _ _ _ h => h) (Or.inl ⟨by kernel_rfl, ?hy⟩) hS1 ?rest
    case hy => (intro W hSw; clear hSw; go_simp; with_reducible rfl)
    case rest =>
    refine wpAnyH_take (i := 23) (v := ?_) rfl (by kernel_rfl) (by kernel_rfl) (by kernel_rfl) (fun _ _ _ h => h) (Or.inl ⟨by kernel_rfl, ?hy⟩) hS1 ?rest
    case hy => (intro W hSw; obtain ⟨bl, ol, he, q1, q2⟩ := (HP3.out W hSw).at_ HS0.out; cases he; have ql := lt_of_cell q1; have r1 : W.cell? ⟨bl, ol, none⟩ = some (.int .i64 s0.1) := q1; have r2 : W.cell? ⟨bl, ol + 1, none⟩ = some (.int .i64 s0.2) := q2; clear q1 q2 hSw; go_simp; with_reducible rfl)
    case rest =>
    refine wpAnyH_take (i := 24) (v := ?_) rfl (by kernel_rfl) (by kernel_rfl) (by kernel_rfl) (fun _ _ _ h => h) (Or.inl ⟨by kernel_rfl, ?hy⟩) hS1 ?rest
    case hy => (intro W hSw; clear hSw; go_simp; with_reducible rfl)
    case rest =>
    refine wpAnyH_ready (rs := [25]) (by kernel_rfl) (by simp) ?_
    refine AllReadyH.cons rfl (fun K hK => ?_) (AllReadyH.nil)
    go_simp
    refine (HPT.out 0 _ (by omega) HY9.out.drew).mono ?_
    rintro e wp ⟨C, f, rfl, hf, hC, hb⟩
    have HYP := Lib.hid (below_trans HY9.out.drew hb)
    have HVP := Lib.hid (HV9.out.below (below_trans (Below.refl _ _).drew hb))
    have HCP := Lib.hid hC
    clear hb hC
    go_simp
    refine hK.out _ _ HYP.out (fun hS2 => ?_)
    clear hK K
    refine wpAnyH_ready (rs := [26]) (by kernel_rfl) (by simp) ?_
    refine AllReadyH.cons rfl (fun K hK => ?_) (AllReadyH.nil)
    go_simp
    refine (HOF.out s0 SS true C f 0 wp (by omega) HVP.out HCP.out hf HYP.out).mono ?_
    rintro e w10 ⟨rfl, hV, hc⟩
    have HY10 := Lib.hid (below_chg HYP.out hc HGB.out)
    have e11 : offE R (m : Int) SS true s0 (P 0) = 11 := rfl
    rw [e11]
    clear hV hc e11
    go_simp
    refine hK.out _ _ HY10.out (fun hS3 => ?_)
    clear hK K
    refine wpAnyH_take (i := 27) (v := ?_) rfl (by kernel_rfl) (by kernel_rfl) (by kernel_rfl) (fun _ _ _ h => h) (Or.inl ⟨by kernel_rfl, ?hy⟩) hS3 ?rest
    case hy => (intro W hSw; clear hSw; go_simp; with_reducible rfl)
    case rest =>
    refine wpAnyH_take (i := 28) (v := ?_) rfl (by kernel_rfl) (by kernel_rfl) (by kernel_rfl) (fun _ _ _ h => h) (Or.inl ⟨by kernel_rfl, ?hy⟩) hS3 ?rest
    case hy => (intro W hSw; clear hSw; go_simp; with_reducible rfl)
    case rest =>
    refine wpAnyH_take (i := 29) (v := ?_) rfl (by kernel_rfl) (by kernel_rfl) (by kernel_rfl) (fun _ _ _ h => h) (Or.inl ⟨by kernel_rfl, ?hy⟩) hS3 ?rest
    case hy => (intro W hSw; clear hSw; go_simp; with_reducible rfl)
    case rest =>
    refine wpAnyH_done (by kernel_rfl) ?_ _
    clear hS0 hS1 hS2 hS3
    go_wp2
    go_ret
    exact ⟨rfl, below_trans HB3.out HY10.out⟩
end

section
open Go.RowKit Go.ChangeShapes Go.WideShapes Go.Deep

def ShC (cs : List Value) (s : Int × Int) : Prop := cs = [.int .i64 s.1, .int .i64 s.2] ∧ (-9223372036854775808 ≤ s.1 ∧ s.1 ≤ 9223372036854775807) ∧ (-9223372036854775808 ≤ s.2 ∧ s.2 ≤ 9223372036854775807)

theorem opn_share (w : World) : Opn Tryz.prog w 37 ShC := by
  intro H enc n cs x h
  obtain ⟨V, rfl, hf⟩ := Opn.fields1 Tryz.underlying37 (by kernel_rfl) (by kernel_rfl) h
  obtain ⟨a0, h0, w0⟩ := hf 0 _ rfl (Opn.int Tryz.underlying3)
  obtain ⟨a1, h1, w1⟩ := hf 1 _ rfl (Opn.int Tryz.underlying3)
  refine ⟨(a0, a1), ?_, wf_i64_ w0, wf_i64_ w1⟩
  simp only [List.cons.injEq, and_true] at h0 h1
  simp [List.range_succ, h0, h1]

theorem ShC.val {v : Value} {s : Int × Int} (hv : v = .agg v.cells) (h : ShC v.cells.toList s) : v = .agg #[.int .i64 s.1, .int .i64 s.2] := by
  rw [hv]
  congr 1
  exact Array.toList_inj.1 h.1

theorem ints_in {w : World} {A : Option Addr} {c : Nat} {l : List Int} (h : SlC w 1 (IntC .i64) [.slice A l.length c] l) : Ints w A l ∧ l.length ≤ 9223372036854775807 := by
  obtain ⟨A', c', he, h1, h2, h3⟩ := h
  obtain ⟨rfl, rfl⟩ : A = A' ∧ c = c' := by simpa using he
  refine ⟨⟨by simp, fun hn => ?_⟩, by unfold maxLen at h2; omega⟩
  obtain ⟨b, off, rfl, _, hc⟩ := h3 hn
  refine ⟨b, off, rfl, fun j u hu => ?_⟩
  rw [List.getElem?_map] at hu
  cases hx : l[j]? with
  | none => rw [hx] at hu; cases hu
  | some x =>
    rw [hx] at hu
    obtain ⟨cs', _, hcs, hr, _⟩ := hc j x hx
    have := hcs 0 (.int .i64 x) (by rw [hr]; rfl)
    simp only [Nat.mul_one, Nat.add_zero] at this
    rw [this]; exact hu

theorem flat2_get (l : List (Int × Int)) (j : Nat) (u : Value) (h : (flat2 l)[j]? = some u) : ∃ (k r : Nat) (p : Int × Int), l[k]? = some p ∧ j = k * 2 + r ∧ [Value.int .i64 p.1, .int .i64 p.2][r]? = some u := by
  induction l generalizing j with
  | nil => simp [flat2] at h
  | cons p l ih =>
    have e : flat2 (p :: l) = .int .i64 p.1 :: .int .i64 p.2 :: flat2 l := rfl
    rw [e] at h
    match j, h with
    | 0, h => exact ⟨0, 0, p, rfl, rfl, h⟩
    | 1, h => exact ⟨0, 1, p, rfl, rfl, h⟩
    | j + 2, h =>
      obtain ⟨k, r, q, h1, h2, h3⟩ := ih j (by simpa using h)
      exact ⟨k + 1, r, q, by simpa using h1, by omega, h3⟩

theorem prs_in {w : World} {A : Option Addr} {c : Nat} {l : List (Int × Int)} (h : SlC w 2 ShC [.slice A l.length c] l) : Prs w A l ∧ l.length ≤ 9223372036854775807 := by
  obtain ⟨A', c', he, h1, h2, h3⟩ := h
  obtain ⟨rfl, rfl⟩ : A = A' ∧ c = c' := by simpa using he
  refine ⟨⟨flat2_length l, fun hn => ?_⟩, by unfold maxLen at h2; omega⟩
  obtain ⟨b, off, rfl, _, hc⟩ := h3 hn
  refine ⟨b, off, rfl, fun j u hu => ?_⟩
  obtain ⟨k, r, p, h4, rfl, h5⟩ := flat2_get l j u hu
  obtain ⟨cs', _, hcs, hr, _⟩ := hc k p h4
  have := hcs r u (by rw [hr]; exact h5)
  rw [← Nat.add_assoc]
  exact this
end

end Go.Proofs.YtdlgejofggbifaaGreatDoor
