/- The contract of shares.Split on valid arguments. -/
import Derived.Test.YtbefcipeojahfaaGreatDoorShares
namespace Go.Proofs.YtbefcipeojahfaaGreatDoor
open Go.RowKit

/-- A block of pairs of ints that the call made. -/
def PArr (w : World) (B T n : Nat) (f : Nat → Int × Int) : Prop :=
  ∃ cs : Array Value, w.heap[B]? = some (.cells cs T (0, 0)) ∧ cs.size = n * 2 ∧ ∀ j, j < n → cs[j * 2]? = some (.int .i64 (f j).1) ∧ cs[j * 2 + 1]? = some (.int .i64 (f j).2)

theorem PArr.lt {w : World} {B T n : Nat} {f : Nat → Int × Int} (h : PArr w B T n f) : B < w.heap.size := by
  obtain ⟨cs, h1, _⟩ := h
  exact (Array.getElem?_eq_some_iff.1 h1).1
theorem PArr.cell {w : World} {B T n : Nat} {f : Nat → Int × Int} (h : PArr w B T n f) (j : Nat) (hj : j < n) : w.cell? ⟨B, j * 2, none⟩ = some (.int .i64 (f j).1) ∧ w.cell? ⟨B, j * 2 + 1, none⟩ = some (.int .i64 (f j).2) := by
  obtain ⟨cs, h1, h2, h3⟩ := h
  rw [cell_of_row w B _ cs T (0, 0) h1, cell_of_row w B _ cs T (0, 0) h1]; exact h3 j hj
theorem PArr.frozen {w : World} {B T n : Nat} {f : Nat → Int × Int} (h : PArr w B T n f) (j : Nat) : w.frozen? ⟨B, j, none⟩ = false := by
  obtain ⟨cs, h1, h2, h3⟩ := h
  exact frozen_of_row w B j cs T h1
theorem PArr.grown {w w' : World} {B T n : Nat} {f : Nat → Int × Int} (h : PArr w B T n f) {row : Option Nat} (hg : w.grownBy w' row) (hne : some B ≠ row) : PArr w' B T n f := by
  have hlt := h.lt
  obtain ⟨cs, h1, h2⟩ := h
  exact ⟨cs, (hg.block B hlt hne).trans h1, h2⟩
theorem PArr.below {w w' : World} {B T n : Nat} {f : Nat → Int × Int} (h : PArr w B T n f) (hb : Below w.heap.size w w') : PArr w' B T n f := by
  have hlt := h.lt
  obtain ⟨cs, h1, h2⟩ := h
  exact ⟨cs, (hb.block B hlt).trans h1, h2⟩
theorem PArr.set {w : World} {B T n : Nat} {f : Nat → Int × Int} (h : PArr w B T n f) (i : Nat) (p : Int × Int) :
    PArr ((w.setCell ⟨B, i * 2, none⟩ (.int .i64 p.1)).setCell ⟨B, i * 2 + 1, none⟩ (.int .i64 p.2)) B T n (fun j => if j = i then p else f j) := by
  obtain ⟨cs, h1, h2, h3⟩ := h
  refine ⟨(cs.setIfInBounds (i * 2) (.int .i64 p.1)).setIfInBounds (i * 2 + 1) (.int .i64 p.2), heap_setCell_same _ B _ _ T _ (heap_setCell_same w B _ cs T _ h1), by simpa using h2, fun j hj => ?_⟩
  by_cases hji : j = i
  · subst hji
    constructor
    · rw [Array.getElem?_setIfInBounds_ne (by omega), Array.getElem?_setIfInBounds_self_of_lt (by omega)]; simp
    · rw [Array.getElem?_setIfInBounds_self_of_lt (by simp; omega)]; simp
  · simp only [hji, if_false]
    constructor
    · rw [Array.getElem?_setIfInBounds_ne (by omega), Array.getElem?_setIfInBounds_ne (by omega)]; exact (h3 j hj).1
    · rw [Array.getElem?_setIfInBounds_ne (by omega), Array.getElem?_setIfInBounds_ne (by omega)]; exact (h3 j hj).2

theorem PArr.own {w : World} {B T n base : Nat} {f : Nat → Int × Int} (h : PArr w B T n f) (hb : base ≤ B) (hn : n ≤ maxLen) :
    w.ownsRow base T 2 (.slice (some ⟨B, 0, none⟩) n n) n (flat2 ((List.range n).map f)) := by
  obtain ⟨cs, h1, h2, h3⟩ := h
  refine ⟨by rw [flat2_length]; simp, .inr ⟨B, n, cs, rfl, hb, h1, Nat.le_refl _, hn, h2, ?_⟩⟩
  rw [List.take_of_length_le (by simp [h2])]
  apply List.ext_getElem?
  intro j
  by_cases hj : j < n * 2
  · have hq : j / 2 < n := by omega
    obtain ⟨g1, g2⟩ := h3 (j / 2) hq
    obtain ⟨k1, k2⟩ := flat2_at ((List.range n).map f) (j / 2) (f (j / 2)) (by simp [hq])
    rcases Nat.mod_two_eq_zero_or_one j with hm | hm
    · rw [show j / 2 * 2 = j by omega] at g1 k1
      rw [k1, Array.getElem?_toList, g1]
    · rw [show j / 2 * 2 + 1 = j by omega] at g2 k2
      rw [k2, Array.getElem?_toList, g2]
  · rw [List.getElem?_eq_none (by simp [h2]; omega), List.getElem?_eq_none (by rw [flat2_length]; simp; omega)]

theorem PArr.of_made {w : World} {base T n g : Nat} (h : w.ownsRow base T 2 (.slice (some ⟨g, 0, none⟩) n n) n (madeCells #[.int .i64 0, .int .i64 0] (n * 2)).toList) : PArr w g T n (fun _ => (0, 0)) := by
  obtain ⟨h1, h2⟩ := h
  rcases h2 with ⟨h2, _⟩ | ⟨g', cap, cur, hv, _, hg, hn, _, hs, ht⟩
  · simp at h2
  · simp only [Value.slice.injEq, Option.some.injEq, Addr.mk.injEq, and_true, true_and] at hv
    obtain ⟨rfl, rfl⟩ := hv
    rw [List.take_of_length_le (by simp [hs])] at ht
    have e : cur = madeCells #[.int .i64 0, .int .i64 0] (n * 2) := Array.toList_inj.1 ht
    refine ⟨cur, hg, hs, fun j hj => ?_⟩
    rw [e]
    constructor
    · simp [madeCells, show j * 2 < n * 2 by omega]
    · simp [madeCells, show j * 2 + 1 < n * 2 by omega, show (j * 2 + 1) % 2 = 1 by omega]

theorem own_mono {w : World} {base base' : Nat} {e : TypeId} {size n : Nat} {v : Value} {xs : List Value} (h : w.ownsRow base e size v n xs) (hb : base' ≤ base) : w.ownsRow base' e size v n xs := by
  obtain ⟨h1, h2⟩ := h
  refine ⟨h1, ?_⟩
  rcases h2 with h2 | ⟨g, cap, cur, hv, hg, r⟩
  · exact .inl h2
  · exact .inr ⟨g, cap, cur, hv, Nat.le_trans hb hg, r⟩

theorem info_int : (Tryz.prog.info? 3).map (fun i => (i.zero, i.size, i.bytes)) = some (some (.int .i64 0), 1, 8) := by kernel_rfl
theorem info_share : (Tryz.prog.info? 25).map (fun i => (i.zero, i.size, i.bytes)) = some (some (.agg #[.int .i64 0, .int .i64 0]), 2, 16) := by kernel_rfl

/-- The shares of the polynomial with the coefficients p. -/
def shs (p : List Int) (m : Nat) : List (Int × Int) := (List.range m).map fun (i : Nat) => ((i : Int) + 1, evp p ((i : Int) + 1))

theorem shs_length (p : List Int) (m : Nat) : (shs p m).length = m := by simp [shs]

set_option maxRecDepth 100000 in
set_option maxRecDepth 100000 in
set_option maxHeartbeats 1600000 in
theorem split_any (secret : Int) (n m : Nat) (A : Option Addr) (c : Nat) (random : List Int) (w : World) (hA : Ints w A random) (h1 : 1 ≤ n) (h2 : n ≤ m) (h3 : m ≤ 16) (hn : random.length + 1 ≤ n) (hn' : n ≤ random.length + 1)
    (hall : (secret :: random).all elemB = true) :
    Calls Tryz.prog 7 #[.int .i64 secret, .int .i64 n, .int .i64 m, .slice A random.length c] w fun e w' =>
      ∃ v, e = .returned (.tuple #[v, .int .i64 0]) ∧ w'.ownsRow w.heap.size 25 2 v m (flat2 (shs (secret :: random) m)) ∧ Below w.heap.size w w' := by
  have HA := Lib.hid hA; clear hA
  have HALL := Lib.hid hall; clear hall
  have hmf : ∀ (fn : Fn) (first cap : Array Value) (w : World), (Instr.makeFunc fn first cap).run Tryz.prog w = .ok (.func fn first cap) w := fun _ _ _ _ => rfl
  have hb1 : ((random.length : Int) != (n : Int) - 1) = false := by simp; omega
  have hb2 : ((random.length : Int) == (n : Int) - 1) = true := by simp; omega
  obtain ⟨i0, hi0, hz0, hz1, hz2⟩ := info_parts info_int
  have hown0 := World.ownsRow_lit (base := w.heap.size) (e := 3) (size := 1) w #[Value.int .i64 secret] 1 (Nat.le_refl _) (by simp [maxLen]) rfl
  have HO := Lib.hid hown0; clear hown0
  go_enter Tryz.func7, Tryz.ntmps7
  go_wp2_with (at_builtin; refine wpList_app _ rfl (.tmp 41) (.tmp 42) 52 22 rfl w.heap.size 3 3 i0 (.int .i64 0) 1 8 Tryz.underlying52 Tryz.underlying22 hi0 hz0 hz1 hz2 rfl (by omega) _ 1 _ rfl HO.out A random.length c _ rfl (HA.out.below (below_alloc (Below.refl _ _) _)) (ints_oneCell _ _) (by simp only [maxLen]; omega) (by omega) (by simp) ?_)
  intro v1 w1 hown1 hg1
  obtain ⟨A1, c1, hv1, hc1, hm1, hrd1⟩ := Rd.of_own hown1
  obtain ⟨p, hp⟩ : ∃ p, p = secret :: random := ⟨_, rfl⟩
  have hpl : 1 + random.length = p.length := by rw [hp]; simp; omega
  rw [hpl] at hv1 hrd1
  have hp1 : p.length ≤ 16 := by omega
  subst hv1
  have hI1 : Ints w1 A1 p := by rw [hp] at hrd1 ⊢; exact hrd1
  have hB1 : Below w.heap.size w w1 := (below_alloc (Below.refl _ _) _).grown hg1 (by simp) (by simp [Value.ownBlock])
  clear hown1 hg1 hrd1 hpl
  have HI1 := Lib.hid hI1; clear hI1
  have HB1 := Lib.hid hB1; clear hB1
  rw [← hp] at HALL
  have HP := Lib.hid hp
  clear hp HO HA hn hn' hb1 hb2
  go_wp2_with fail
  go_loop [46] (fun u => ∃ k : Nat, k ≤ p.length ∧ u = .int .i64 k) (fun u => p.length - (intOf u).toNat)
  case atStart => exact ⟨0, Nat.zero_le _, rfl⟩
  case round =>
    obtain ⟨k, hk, rfl⟩ := hrel
    by_cases hlt : k < p.length
    · obtain ⟨x, hx⟩ := get_some p k hlt
      obtain ⟨b, off, rfl, hcell⟩ := HI1.out.at_ hx
      have hex : elemB x = true := List.all_eq_true.1 HALL.out x (List.mem_of_getElem? hx)
      have HEX := Lib.hid hex; clear hex hx
      go_wp2_with fail
      refine (selement_any _ _).mono ?_
      rintro e w' ⟨rfl, rfl⟩
      rw [HEX.out]
      go_wp2
      go_round
      case rel => exact ⟨k + 1, by omega, by go_num⟩
      case measure => simp [intOf]; omega
    · obtain ⟨i1, hi1, hy0, hy1, hy2⟩ := info_parts info_share
      go_wp2_with (at_make; refine wpList_make_full _ rfl (.tmp 56) (.tmp 56) 23 rfl w.heap.size 25 i1 _ 2 Tryz.underlying23 hi1 hy0 hy1 _ _ _ _ m rfl rfl rfl rfl (by rw [hy2]; omega) (by simp only [maxLen]; omega) HB1.out.size ?_)
      intro w2 hown2 hg2
      have hP0 := Lib.hid (PArr.of_made hown2)
      have hB2 := Lib.hid ((Below.refl w1.heap.size w1).grown hg2 (Nat.le_refl _) (by simp))
      clear hown2 hg2
      go_wp2_with fail
      go_loopw [15, 59] (fun _ u59 wr => ∃ (i : Nat) (f : Nat → Int × Int), i ≤ m ∧ u59 = .int .i64 i ∧ Below w1.heap.size w1 wr ∧ PArr wr w1.heap.size 25 m f ∧ (∀ j : Nat, j < i → f j = ((j : Int) + 1, evp p ((j : Int) + 1)))) (fun _ u59 _ => m - (intOf u59).toNat)
      case atStart => exact ⟨0, _, Nat.zero_le _, rfl, hB2.out, hP0.out, by simp⟩
      case round =>
        obtain ⟨i, f, hi, rfl, hB, hP, hf⟩ := hrel
        have HB := Lib.hid hB; clear hB
        have HPA := Lib.hid hP; clear hP
        have HF := Lib.hid hf; clear hf
        by_cases hli : i < m
        · have hc := HPA.out.cell i hli
          have hc1 := hc.1
          have hc2 := hc.2
          have hf1 := HPA.out.frozen (i * 2)
          have hf2 := HPA.out.frozen (i * 2 + 1)
          clear hc
          have hex : elemB ((i : Int) + 1) = true := by rw [elemB_iff]; omega
          have hp := Lib.hid (polyat_any A1 c1 p ((i : Int) + 1) wr (HI1.out.below HB.out) hp1 HALL.out hex)
          clear hex
          go_wp2_with fail
          refine hp.out.mono ?_
          rintro e w' ⟨rfl, rfl⟩
          go_wp2
          go_roundw
          case rel =>
            refine ⟨i + 1, _, by omega, by go_num, ((HB.out).setCell (p := ⟨w1.heap.size, i * 2, none⟩) (Nat.le_refl _) _).setCell (p := ⟨w1.heap.size, i * 2 + 1, none⟩) (Nat.le_refl _) _, HPA.out.set i ((i : Int) + 1, evp p ((i : Int) + 1)), fun j hj => ?_⟩
            by_cases hji : j = i
            · subst hji; simp
            · simp only [hji, if_false]; exact HF.out j (by omega)
          case measure => simp [intOf]; omega
        · have him : i = m := by omega
          have hown := HPA.out.own (Nat.le_refl _) (by simp only [maxLen]; omega)
          have he : (List.range m).map f = shs p m := by
            unfold shs
            apply List.map_congr_left
            intro j hj
            exact HF.out j (by have := List.mem_range.1 hj; omega)
          rw [he] at hown
          have HOWN := Lib.hid hown
          clear hown him he
          go_wp2
          go_ret2
          rw [← HP.out]
          exact ⟨_, rfl, own_mono HOWN.out HB1.out.size, HB1.out.trans (HB.out.mono HB1.out.size)⟩

end Go.Proofs.YtbefcipeojahfaaGreatDoor
