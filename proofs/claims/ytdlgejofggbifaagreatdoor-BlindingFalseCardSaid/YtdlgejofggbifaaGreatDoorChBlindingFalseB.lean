/- Contracts of package shares: element, valid, the two methods at. The contract of shares.Split on valid arguments. The reference of the digest: mix, Sum, Chain. The reference of the digest: digits, Decimal, Same. The reference of the digest: Joined, List. blinding: the offsets, moved, Blind, Unblind. The contract of shares.Join, at every list. Several texts in one: Poly, Poly2, JoinL. Plain: what Join computes does not depend on the order of the shares. The map of the shares that were offered to a vault. Plain laws of the trees of layer 2. Plain laws of the links between trees. What a row's listed tables give a walk. Plain: the string of a share; what SharesCommit says of the strings that were digested. A region that draws its order, whose operations read blocks of the world and whose callees only make new memory: one walk in the order of the text. wp_region_below with what follows hidden behind a variable: many skipped operations in a row else make Lean unfold the region at each step (an expected type is put into weak head normal form). The string of a share, in the program and in the reference; the reference's Element, Valid. -/
import Derived.Test.YtdlgejofggbifaaGreatDoorChBlindingFalseA
import Derived.Lib.BufferRead
import Derived.Deep.RegionHeld3
import Derived.Laws.EntriesVeiled
import Derived.Maps.OwnOps
import Derived.Maps.OwnSet
import Derived.Maps.Views
import Derived.Test.YtdlgejofggbifaaGreatDoorRows
import Derived.ProofKit
import Derived.LaidMore
import Derived.Deep.QuietTactic
namespace Go.Proofs.YtdlgejofggbifaaGreatDoor

section
open Go.RowKit

theorem selement_any (a : Int) (w : World) :
    Calls Tryz.prog 63 #[.int .i64 a] w fun e w' => e = .returned (.bool (elemB a)) ∧ w = w' := by
  by_cases h0 : 0 ≤ a
  · by_cases h1 : a < 2147483647
    · go_enter Tryz.func63, Tryz.ntmps63
      go_wp2
      go_ret
      exact ⟨by simp [elemB, h0, h1], rfl⟩
    · go_enter Tryz.func63, Tryz.ntmps63
      go_wp2
      go_ret
      exact ⟨by simp [elemB, h0, h1], rfl⟩
  · go_enter Tryz.func63, Tryz.ntmps63
    go_wp2
    go_ret
    exact ⟨by simp [elemB]; omega, rfl⟩

def validB (s : Int × Int) : Bool := decide (1 ≤ s.1) && decide (s.1 ≤ 16) && elemB s.2

theorem valid_any (x y : Int) (w : World) :
    Calls Tryz.prog 50 #[.agg #[.int .i64 x, .int .i64 y]] w fun e w' => e = .returned (.bool (validB (x, y))) ∧ w.alloc (.cells #[.int .i64 x, .int .i64 y] 37) = w' := by
  by_cases h0 : 1 ≤ x
  · by_cases h1 : x ≤ 16
    · go_enter Tryz.func50, Tryz.ntmps50
      go_wp2_with (go_at_call 63; refine (selement_any _ _).mono ?_; rintro e w' ⟨rfl, rfl⟩)
      go_ret
      exact ⟨ret_bool (by simp [validB, h0, h1]), rfl⟩
    · go_enter Tryz.func50, Tryz.ntmps50
      go_wp2
      go_ret
      exact ⟨ret_bool (by simp [validB]; omega), rfl⟩
  · go_enter Tryz.func50, Tryz.ntmps50
    go_wp2
    go_ret
    exact ⟨ret_bool (by simp [validB]; omega), rfl⟩

theorem polyat_any (A : Option Addr) (c : Nat) (xs : List Int) (x : Int) (w : World) (hv : Ints w A xs) (hl : xs.length ≤ 16) (hall : xs.all elemB = true) (hx : elemB x = true) :
    Calls Tryz.prog 64 #[.slice A xs.length c, .int .i64 x] w fun e w' => e = .returned (.tuple #[.int .i64 (evp xs x), .int .i64 0]) ∧ w = w' := by
  have H := Lib.hid (eval_any A c xs x w hv hl hall hx)
  clear hv hall hx
  go_enter Tryz.func64, Tryz.ntmps64
  go_wp2_with fail
  refine H.out.mono ?_
  rintro e w' ⟨rfl, rfl⟩
  go_wp2
  go_ret2
  exact ⟨rfl, rfl⟩

theorem pointsat_any (A : Option Addr) (cap : Nat) (ps : List (Int × Int)) (x : Int) (w : World) (hc : Prs w A ps) (h1 : 1 ≤ ps.length) (h16 : ps.length ≤ 16)
    (hcap : ps.length ≤ cap) (hx : elemB x = true) (hall : ∀ p, p ∈ ps → elemB p.1 = true ∧ elemB p.2 = true) (hnd : (ps.map (·.1)).Nodup) :
    Calls Tryz.prog 76 #[.slice A ps.length cap, .int .i64 x] w fun e w' =>
      e = .returned (.tuple #[.int .i64 (nv x ps (ps.length - 1) 0), .int .i64 0]) ∧ Below w.heap.size w w' := by
  have H := Lib.hid (interp_prs A cap ps x w hc h1 h16 hcap hx hall hnd)
  clear hc hall hx hnd
  go_enter Tryz.func76, Tryz.ntmps76
  go_wp2_with fail
  refine H.out.mono ?_
  rintro e w' ⟨rfl, hb⟩
  go_wp2
  go_ret2
  exact ⟨rfl, hb⟩
end

section
open Go.RowKit

/-- A block of pairs of ints that the call made. -/
def PArr (w : World) (B T n : Nat) (f : Nat → Int × Int) : Prop :=
  ∃ cs : Array Value, w.heap[B]? = some (.cells cs T (0, 0)) ∧ cs.size = n * 2 ∧ ∀ j, j < n → cs[j * 2]? = some (.int .i64 (f j).1) ∧ cs[j * 2 + 1]? = some (.int .i64 (f j).2)

theorem PArr.lt {w : World} {B T n : Nat} {f : Nat → Int × Int} (h : PArr w B T n f) : B < w.heap.size := by
  obtain ⟨cs, h1, _⟩ := h
  exact (Array.getElem?_eq_some_iff.1 h1).1
theorem PArr.cell {w : World} {B T n : Nat} {f : Nat → Int × Int} (h : PArr w B T n f) (j : Nat) (hj : j < n) : w.cell? ⟨B, j * 2, none⟩ = some (.int .i64 (f j).1) ∧ w.cell? ⟨B, j * 2 + 1, none⟩ = some (.int .i64 (f j).2) := by
  obtain ⟨cs, h1, h2, h3⟩ := h
  rw [cell_of_row w B _ cs T (0, 0) h1, cell_of_row w B _ cs T (0, 0) h1]; exact h3 j hj
theorem PArr.frozen {w : World} {B T n : Nat} {f : Nat → Int × Int} (h : PArr w B T n f) (j : Nat) : w.frozen? ⟨B, j, none⟩ = false := by
  obtain ⟨cs, h1, h2, h3⟩ := h
  exact frozen_of_row w B j cs T h1
theorem PArr.grown {w w' : World} {B T n : Nat} {f : Nat → Int × Int} (h : PArr w B T n f) {row : Option Nat} (hg : w.grownBy w' row) (hne : some B ≠ row) : PArr w' B T n f := by
  have hlt := h.lt
  obtain ⟨cs, h1, h2⟩ := h
  exact ⟨cs, (hg.block B hlt hne).trans h1, h2⟩
theorem PArr.below {w w' : World} {B T n : Nat} {f : Nat → Int × Int} (h : PArr w B T n f) (hb : Below w.heap.size w w') : PArr w' B T n f := by
  have hlt := h.lt
  obtain ⟨cs, h1, h2⟩ := h
  exact ⟨cs, (hb.block B hlt).trans h1, h2⟩
theorem PArr.set {w : World} {B T n : Nat} {f : Nat → Int × Int} (h : PArr w B T n f) (i : Nat) (p : Int × Int) :
    PArr ((w.setCell ⟨B, i * 2, none⟩ (.int .i64 p.1)).setCell ⟨B, i * 2 + 1, none⟩ (.int .i64 p.2)) B T n (fun j => if j = i then p else f j) := by
  obtain ⟨cs, h1, h2, h3⟩ := h
  refine ⟨(cs.setIfInBounds (i * 2) (.int .i64 p.1)).setIfInBounds (i * 2 + 1) (.int .i64 p.2), heap_setCell_same _ B _ _ T _ (heap_setCell_same w B _ cs T _ h1), by simpa using h2, fun j hj => ?_⟩
  by_cases hji : j = i
  · subst hji
    constructor
    · rw [Array.getElem?_setIfInBounds_ne (by omega), Array.getElem?_setIfInBounds_self_of_lt (by omega)]; simp
    · rw [Array.getElem?_setIfInBounds_self_of_lt (by simp; omega)]; simp
  · simp only [hji, if_false]
    constructor
    · rw [Array.getElem?_setIfInBounds_ne (by omega), Array.getElem?_setIfInBounds_ne (by omega)]; exact (h3 j hj).1
    · rw [Array.getElem?_setIfInBounds_ne (by omega), Array.getElem?_setIfInBounds_ne (by omega)]; exact (h3 j hj).2

theorem PArr.own {w : World} {B T n base : Nat} {f : Nat → Int × Int} (h : PArr w B T n f) (hb : base ≤ B) (hn : n ≤ maxLen) :
    w.ownsRow base T 2 (.slice (some ⟨B, 0, none⟩) n n) n (flat2 ((List.range n).map f)) := by
  obtain ⟨cs, h1, h2, h3⟩ := h
  refine ⟨by rw [flat2_length]; simp, .inr ⟨B, n, cs, rfl, hb, h1, Nat.le_refl _, hn, h2, ?_⟩⟩
  rw [List.take_of_length_le (by simp [h2])]
  apply List.ext_getElem?
  intro j
  by_cases hj : j < n * 2
  · have hq : j / 2 < n := by omega
    obtain ⟨g1, g2⟩ := h3 (j / 2) hq
    obtain ⟨k1, k2⟩ := flat2_at ((List.range n).map f) (j / 2) (f (j / 2)) (by simp [hq])
    rcases Nat.mod_two_eq_zero_or_one j with hm | hm
    · rw [show j / 2 * 2 = j by omega] at g1 k1
      rw [k1, Array.getElem?_toList, g1]
    · rw [show j / 2 * 2 + 1 = j by omega] at g2 k2
      rw [k2, Array.getElem?_toList, g2]
  · rw [List.getElem?_eq_none (by simp [h2]; omega), List.getElem?_eq_none (by rw [flat2_length]; simp; omega)]

theorem PArr.of_made {w : World} {base T n g : Nat} (h : w.ownsRow base T 2 (.slice (some ⟨g, 0, none⟩) n n) n (madeCells #[.int .i64 0, .int .i64 0] (n * 2)).toList) : PArr w g T n (fun _ => (0, 0)) := by
  obtain ⟨h1, h2⟩ := h
  rcases h2 with ⟨h2, _⟩ | ⟨g', cap, cur, hv, _, hg, hn, _, hs, ht⟩
  · simp at h2
  · simp only [Value.slice.injEq, Option.some.injEq, Addr.mk.injEq, and_true, true_and] at hv
    obtain ⟨rfl, rfl⟩ := hv
    rw [List.take_of_length_le (by simp [hs])] at ht
    have e : cur = madeCells #[.int .i64 0, .int .i64 0] (n * 2) := Array.toList_inj.1 ht
    refine ⟨cur, hg, hs, fun j hj => ?_⟩
    rw [e]
    constructor
    · simp [madeCells, show j * 2 < n * 2 by omega]
    · simp [madeCells, show j * 2 + 1 < n * 2 by omega, show (j * 2 + 1) % 2 = 1 by omega]

theorem own_mono {w : World} {base base' : Nat} {e : TypeId} {size n : Nat} {v : Value} {xs : List Value} (h : w.ownsRow base e size v n xs) (hb : base' ≤ base) : w.ownsRow base' e size v n xs := by
  obtain ⟨h1, h2⟩ := h
  refine ⟨h1, ?_⟩
  rcases h2 with h2 | ⟨g, cap, cur, hv, hg, r⟩
  · exact .inl h2
  · exact .inr ⟨g, cap, cur, hv, Nat.le_trans hb hg, r⟩

theorem info_int : (Tryz.prog.info? 3).map (fun i => (i.zero, i.size, i.bytes)) = some (some (.int .i64 0), 1, 8) := by kernel_rfl
theorem info_share : (Tryz.prog.info? 37).map (fun i => (i.zero, i.size, i.bytes)) = some (some (.agg #[.int .i64 0, .int .i64 0]), 2, 16) := by kernel_rfl

/-- The shares of the polynomial with the coefficients p. -/
def shs (p : List Int) (m : Nat) : List (Int × Int) := (List.range m).map fun (i : Nat) => ((i : Int) + 1, evp p ((i : Int) + 1))

theorem shs_length (p : List Int) (m : Nat) : (shs p m).length = m := by simp [shs]

set_option maxRecDepth 100000 in
set_option maxRecDepth 100000 in
set_option maxHeartbeats 1600000 in
theorem split_any (secret : Int) (n m : Nat) (A : Option Addr) (c : Nat) (random : List Int) (w : World) (hA : Ints w A random) (h1 : 1 ≤ n) (h2 : n ≤ m) (h3 : m ≤ 16) (hn : random.length + 1 ≤ n) (hn' : n ≤ random.length + 1)
    (hall : (secret :: random).all elemB = true) :
    Calls Tryz.prog 40 #[.int .i64 secret, .int .i64 n, .int .i64 m, .slice A random.length c] w fun e w' =>
      ∃ v, e = .returned (.tuple #[v, .int .i64 0]) ∧ w'.ownsRow w.heap.size 37 2 v m (flat2 (shs (secret :: random) m)) ∧ Below w.heap.size w w' := by
  have HA := Lib.hid hA; clear hA
  have HALL := Lib.hid hall; clear hall
  have hmf : ∀ (fn : Fn) (first cap : Array Value) (w : World), (Instr.makeFunc fn first cap).run Tryz.prog w = .ok (.func fn first cap) w := fun _ _ _ _ => rfl
  have hb1 : ((random.length : Int) != (n : Int) - 1) = false := by simp; omega
  have hb2 : ((random.length : Int) == (n : Int) - 1) = true := by simp; omega
  obtain ⟨i0, hi0, hz0, hz1, hz2⟩ := info_parts info_int
  have hown0 := World.ownsRow_lit (base := w.heap.size) (e := 3) (size := 1) w #[Value.int .i64 secret] 1 (Nat.le_refl _) (by simp [maxLen]) rfl
  have HO := Lib.hid hown0; clear hown0
  go_enter Tryz.func40, Tryz.ntmps40
  go_wp2_with (at_builtin; refine wpList_app _ rfl (.tmp 41) (.tmp 42) 96 22 rfl w.heap.size 3 3 i0 (.int .i64 0) 1 8 Tryz.underlying96 Tryz.underlying22 hi0 hz0 hz1 hz2 rfl (by omega) _ 1 _ rfl HO.out A random.length c _ rfl (HA.out.below (below_alloc (Below.refl _ _) _)) (ints_oneCell _ _) (by simp only [maxLen]; omega) (by omega) (by simp) ?_)
  intro v1 w1 hown1 hg1
  obtain ⟨A1, c1, hv1, hc1, hm1, hrd1⟩ := Rd.of_own hown1
  obtain ⟨p, hp⟩ : ∃ p, p = secret :: random := ⟨_, rfl⟩
  have hpl : 1 + random.length = p.length := by rw [hp]; simp; omega
  rw [hpl] at hv1 hrd1
  have hp1 : p.length ≤ 16 := by omega
  subst hv1
  have hI1 : Ints w1 A1 p := by rw [hp] at hrd1 ⊢; exact hrd1
  have hB1 : Below w.heap.size w w1 := (below_alloc (Below.refl _ _) _).grown hg1 (by simp) (by simp [Value.ownBlock])
  clear hown1 hg1 hrd1 hpl
  have HI1 := Lib.hid hI1; clear hI1
  have HB1 := Lib.hid hB1; clear hB1
  rw [← hp] at HALL
  have HP := Lib.hid hp
  clear hp HO HA hn hn' hb1 hb2
  go_wp2_with fail
  go_loop [46] (fun u => ∃ k : Nat, k ≤ p.length ∧ u = .int .i64 k) (fun u => p.length - (intOf u).toNat)
  case atStart => exact ⟨0, Nat.zero_le _, rfl⟩
  case round =>
    obtain ⟨k, hk, rfl⟩ := hrel
    by_cases hlt : k < p.length
    · obtain ⟨x, hx⟩ := get_some p k hlt
      obtain ⟨b, off, rfl, hcell⟩ := HI1.out.at_ hx
      have hex : elemB x = true := List.all_eq_true.1 HALL.out x (List.mem_of_getElem? hx)
      have HEX := Lib.hid hex; clear hex hx
      go_wp2_with fail
      refine (selement_any _ _).mono ?_
      rintro e w' ⟨rfl, rfl⟩
      rw [HEX.out]
      go_wp2
      go_round
      case rel => exact ⟨k + 1, by omega, by go_num⟩
      case measure => simp [intOf]; omega
    · obtain ⟨i1, hi1, hy0, hy1, hy2⟩ := info_parts info_share
      go_wp2_with (at_make; refine wpList_make_full _ rfl (.tmp 56) (.tmp 56) 28 rfl w.heap.size 37 i1 _ 2 Tryz.underlying28 hi1 hy0 hy1 _ _ _ _ m rfl rfl rfl rfl (by rw [hy2]; omega) (by simp only [maxLen]; omega) HB1.out.size ?_)
      intro w2 hown2 hg2
      have hP0 := Lib.hid (PArr.of_made hown2)
      have hB2 := Lib.hid ((Below.refl w1.heap.size w1).grown hg2 (Nat.le_refl _) (by simp))
      clear hown2 hg2
      go_wp2_with fail
      go_loopw [15, 59] (fun _ u59 wr => ∃ (i : Nat) (f : Nat → Int × Int), i ≤ m ∧ u59 = .int .i64 i ∧ Below w1.heap.size w1 wr ∧ PArr wr w1.heap.size 37 m f ∧ (∀ j : Nat, j < i → f j = ((j : Int) + 1, evp p ((j : Int) + 1)))) (fun _ u59 _ => m - (intOf u59).toNat)
      case atStart => exact ⟨0, _, Nat.zero_le _, rfl, hB2.out, hP0.out, by simp⟩
      case round =>
        obtain ⟨i, f, hi, rfl, hB, hP, hf⟩ := hrel
        have HB := Lib.hid hB; clear hB
        have HPA := Lib.hid hP; clear hP
        have HF := Lib.hid hf; clear hf
        by_cases hli : i < m
        · have hc := HPA.out.cell i hli
          have hc1 := hc.1
          have hc2 := hc.2
          have hf1 := HPA.out.frozen (i * 2)
          have hf2 := HPA.out.frozen (i * 2 + 1)
          clear hc
          have hex : elemB ((i : Int) + 1) = true := by rw [elemB_iff]; omega
          have hp := Lib.hid (polyat_any A1 c1 p ((i : Int) + 1) wr (HI1.out.below HB.out) hp1 HALL.out hex)
          clear hex
          go_wp2_with fail
          refine hp.out.mono ?_
          rintro e w' ⟨rfl, rfl⟩
          go_wp2
          go_roundw
          case rel =>
            refine ⟨i + 1, _, by omega, by go_num, ((HB.out).setCell (p := ⟨w1.heap.size, i * 2, none⟩) (Nat.le_refl _) _).setCell (p := ⟨w1.heap.size, i * 2 + 1, none⟩) (Nat.le_refl _) _, HPA.out.set i ((i : Int) + 1, evp p ((i : Int) + 1)), fun j hj => ?_⟩
            by_cases hji : j = i
            · subst hji; simp
            · simp only [hji, if_false]; exact HF.out j (by omega)
          case measure => simp [intOf]; omega
        · have him : i = m := by omega
          have hown := HPA.out.own (Nat.le_refl _) (by simp only [maxLen]; omega)
          have he : (List.range m).map f = shs p m := by
            unfold shs
            apply List.map_congr_left
            intro j hj
            exact HF.out j (by have := List.mem_range.1 hj; omega)
          rw [he] at hown
          have HOWN := Lib.hid hown
          clear hown him he
          go_wp2
          go_ret2
          rw [← HP.out]
          exact ⟨_, rfl, own_mono HOWN.out HB1.out.size, HB1.out.trans (HB.out.mono HB1.out.size)⟩
end

section
open Go.RowKit

set_option maxHeartbeats 2000000 in
theorem rmix (x : UInt64) (w : World) : Calls Tryz.prog 86 #[.int .u64 x.toNat] w fun e w' => e = .returned (.int .u64 (mix64 x).toNat) ∧ w = w' := by
  have hx := x.toNat_lt
  go_enter Tryz.func86, Tryz.ntmps86
  go_wp2
  go_ret
  exact ⟨ret_int (mix_walk x), rfl⟩

theorem or_add (a : UInt64) (c : UInt8) : (((a <<< 8).toNat : Int) + (c.toNat : Int)) = ((a <<< 8 ||| c.toUInt64).toNat : Int) := by
  have hc := c.toNat_lt
  have e : (8 : UInt64).toNat % 64 = 8 := rfl
  have h1 : (a <<< 8).toNat = (a.toNat % 2 ^ 56) <<< 8 := by
    rw [UInt64.toNat_shiftLeft, e, Nat.shiftLeft_eq, Nat.shiftLeft_eq]
    omega
  rw [UInt64.toNat_or, UInt8.toNat_toUInt64, h1, ← Nat.shiftLeft_add_eq_or_of_lt (by simpa using hc)]
  omega
theorem or_zero (a : UInt64) : (a <<< 8 ||| (0 : UInt8).toUInt64) = a <<< 8 := by
  have e : (0 : UInt8).toUInt64 = 0 := rfl
  rw [e, UInt64.or_zero]
theorem pblk_at (t : ByteArray) (k j : Nat) (hj : j < 8) : (pblk t k)[j]? = some (if h : 8 * k + j < t.size then t[8 * k + j] else 0) := by
  unfold pblk
  have hl : (t.data.toList.drop (8 * k)).length = t.size - 8 * k := by rw [List.length_drop]; rfl
  by_cases h : 8 * k + j < t.size
  · rw [dif_pos h, List.getElem?_append_left (by rw [List.length_take, hl]; omega), List.getElem?_take, if_pos hj, List.getElem?_drop]
    exact List.getElem?_eq_getElem (by simpa using h)
  · rw [dif_neg h, List.getElem?_append_right (by rw [List.length_take, hl]; omega), List.getElem?_replicate_of_lt (by rw [List.length_take, hl]; omega)]
theorem ext1 (d : Nat) (h : d < 16) : hexs.extract d (d + 1) = ⟨#[hexd d]⟩ := by
  match d, h with
  | 0, _ => rfl
  | 1, _ => rfl
  | 2, _ => rfl
  | 3, _ => rfl
  | 4, _ => rfl
  | 5, _ => rfl
  | 6, _ => rfl
  | 7, _ => rfl
  | 8, _ => rfl
  | 9, _ => rfl
  | 10, _ => rfl
  | 11, _ => rfl
  | 12, _ => rfl
  | 13, _ => rfl
  | 14, _ => rfl
  | 15, _ => rfl
  | d + 16, h => omega
theorem cons_ba (c : UInt8) (l : List UInt8) : (⟨#[c]⟩ : ByteArray) ++ ⟨l.toArray⟩ = ⟨(c :: l).toArray⟩ := by
  apply ByteArray.ext
  rw [ByteArray.data_append]
  apply Array.toList_inj.1
  simp

set_option maxRecDepth 100000 in
set_option maxHeartbeats 8000000 in
theorem rsum (t : ByteArray) (ht : t.size ≤ 1000000000) (w : World) :
    Calls Tryz.prog 59 #[.string t] w fun e w' => e = .returned (.string (dg t)) ∧ w = w' := by
  obtain ⟨s0, hs0⟩ : ∃ s, 1442695040888963407 ^^^ UInt64.ofNat t.size = s := ⟨_, rfl⟩
  have e0 : bits .xor .u64 1442695040888963407 (t.size : Int) = (s0.toNat : Int) := by
    have h1 := bits_xor_u64 1442695040888963407 (UInt64.ofNat t.size)
    have h2 : ((UInt64.ofNat t.size).toNat : Int) = (t.size : Int) := by
      rw [UInt64.toNat_ofNat']; omega
    rw [h2, hs0] at h1
    exact h1
  have HS0 := Lib.hid hs0
  clear hs0
  go_enter Tryz.func59, Tryz.ntmps59
  go_wp2_with fail
  clear e0
  go_loop [3, 4] (fun u3 u4 => ∃ k : Nat, k ≤ t.size / 8 + 1 ∧ u4 = .int .i64 (8 * k : Nat) ∧ u3 = .int .u64 (absorb s0 t k).toNat) (fun _ u4 => t.size + 8 - (intOf u4).toNat)
  case atStart => exact ⟨0, Nat.zero_le _, rfl, rfl⟩
  case round =>
  obtain ⟨k, hk, rfl, rfl⟩ := hrel
  obtain ⟨st, hst⟩ : ∃ st, absorb s0 t k = st := ⟨_, rfl⟩
  rw [hst]
  have HST := Lib.hid hst
  clear hst
  by_cases hlt : 8 * k ≤ t.size
  · obtain ⟨q, hq⟩ : ∃ q, 8 * k = q := ⟨_, rfl⟩
    have hq1 : q ≤ t.size := by omega
    rw [hq]
    have HQ := Lib.hid hq
    clear hq hlt
    go_wp2_with fail
    go_loop [5, 6] (fun u5 u6 => ∃ j : Nat, j ≤ 8 ∧ u6 = .int .i64 (q + j : Nat) ∧ u5 = .int .u64 (blk64 ((pblk t k).take j)).toNat) (fun _ u6 => q + 8 - (intOf u6).toNat)
    case atStart => exact ⟨0, Nat.zero_le _, rfl, rfl⟩
    case round =>
    obtain ⟨j, hj, rfl, rfl⟩ := hrel
    obtain ⟨n, hn⟩ : ∃ n, blk64 ((pblk t k).take j) = n := ⟨_, rfl⟩
    rw [hn]
    have HN := Lib.hid hn
    clear hn
    obtain ⟨i, hi⟩ : ∃ i, q + j = i := ⟨_, rfl⟩
    rw [hi]
    have hi1 : i ≤ q + 8 := by omega
    by_cases hj8 : j < 8
    · have hi2 : i < q + 8 := by omega
      have hpa := pblk_at t k j hj8
      rw [HQ.out, hi] at hpa
      have HI := Lib.hid hi
      by_cases hin : i < t.size
      · rw [dif_pos hin] at hpa
        have hsn := take_snoc (pblk t k) j _ hpa
        have HSN := Lib.hid hsn
        have e1 : IntKind.u64.wrap ((n.toNat : Int) * 256) = ((n <<< 8).toNat : Int) := shl8_u64 n
        obtain ⟨m, hm⟩ : ∃ m, n <<< 8 = m := ⟨_, rfl⟩
        have hoa := or_add n t[i]
        rw [hm] at e1 hoa
        have hm64 := m.toNat_lt
        have hc8 := t[i].toNat_lt
        have HM := Lib.hid hm
        have HOA := Lib.hid hoa
        clear hm hpa hsn hi hoa
        go_wp2_with fail
        go_round
        case rel => exact ⟨j + 1, by omega, by rw [← HI.out]; go_num, by rw [HSN.out, blk_snoc, HN.out, HM.out, HOA.out, cast_u64]⟩
        case measure => simp [intOf]; omega
      · rw [dif_neg hin] at hpa
        have hsn := take_snoc (pblk t k) j _ hpa
        have HSN := Lib.hid hsn
        have e1 : IntKind.u64.wrap ((n.toNat : Int) * 256) = ((n <<< 8).toNat : Int) := shl8_u64 n
        obtain ⟨m, hm⟩ : ∃ m, n <<< 8 = m := ⟨_, rfl⟩
        rw [hm] at e1
        have hm64 := m.toNat_lt
        have HM := Lib.hid hm
        clear hm hpa hsn hi
        go_wp2_with fail
        go_round
        case rel => exact ⟨j + 1, by omega, by rw [← HI.out]; go_num, by rw [HSN.out, blk_snoc, HN.out, or_zero, HM.out]⟩
        case measure => simp [intOf]; omega
    · have hj88 : j = 8 := by omega
      have HE : Hid (blk64 (pblk t k) = n) := Lib.hid (by rw [← HN.out, List.take_of_length_le (by rw [pblk_len]; omega)])
      have hi8 : i = q + 8 := by omega
      subst hi8
      clear hi hj88
      go_wp2_with fail
      rw [bits_xor_u64]
      refine (rmix _ w).mono ?_
      rintro e w1 ⟨rfl, rfl⟩
      have HMX : Hid (mix64 (st ^^^ n) = absorb s0 t (k + 1)) := Lib.hid (by rw [absorb, HST.out, HE.out])
      rw [HMX.out]
      go_wp2_with fail
      go_round
      case rel => exact ⟨k + 1, by have := HQ.out; omega, by rw [← HQ.out]; go_num, rfl⟩
      case measure => simp [intOf]; omega
  · obtain rfl : k = t.size / 8 + 1 := by omega
    obtain ⟨u, hu⟩ : ∃ u, st.toNat = u := ⟨_, rfl⟩
    have hu64 : u < 18446744073709551616 := by rw [← hu]; exact st.toNat_lt
    have HD : Hid (dg t = ⟨(hexk u 16).toArray⟩) := Lib.hid (by rw [dg, dgs, HS0.out, HST.out, hu])
    rw [hu]
    clear hu
    go_wp2_with fail
    go_loop [3, 7, 8] (fun u3 u7 u8 => ∃ i : Nat, i ≤ 16 ∧ u8 = .int .i64 i ∧ u7 = .string ⟨(hexk u i).toArray⟩ ∧ u3 = .int .u64 ((u / 16 ^ i : Nat) : Int)) (fun _ _ u8 => 16 - (intOf u8).toNat)
    case atStart => exact ⟨0, Nat.zero_le _, rfl, rfl, by simp⟩
    case round =>
    obtain ⟨i, hi, rfl, rfl, rfl⟩ := hrel
    by_cases h16 : i < 16
    · obtain ⟨x, hx⟩ : ∃ x, u / 16 ^ i = x := ⟨_, rfl⟩
      have hx64 : x < 18446744073709551616 := by rw [← hx]; exact Nat.lt_of_le_of_lt (Nat.div_le_self _ _) hu64
      rw [hx]
      obtain ⟨r, hr⟩ : ∃ r, (⟨(hexk u i).toArray⟩ : ByteArray) = r := ⟨_, rfl⟩
      have hrz : r.size ≤ 16 := by rw [← hr]; show (hexk u i).length ≤ 16; rw [hexk_len]; exact hi
      rw [hr]
      obtain ⟨d, hd⟩ : ∃ d, x % 16 = d := ⟨_, rfl⟩
      have hd16 : d < 16 := by omega
      have e1 : (x : Int) % 16 = (d : Int) := by omega
      have HX := Lib.hid hx
      have HR := Lib.hid hr
      have HDD := Lib.hid hd
      clear hx hr hd
      go_wp2_with fail
      go_round
      case rel => exact ⟨i + 1, by omega, by go_num, (show Value.string (hexs.extract d (d + 1) ++ r) = _ by rw [ext1 d hd16, ← HR.out, cons_ba, hexk, HX.out, HDD.out]), by rw [Nat.pow_succ, ← Nat.div_div_eq_div_mul, HX.out]; go_num⟩
      case measure => simp [intOf]; omega
    · obtain rfl : i = 16 := by omega
      go_wp2
      go_ret
      exact ⟨by rw [HD.out]; rfl, rfl⟩
end

section
open Go.RowKit

def tens : ByteArray := ⟨#[48, 49, 50, 51, 52, 53, 54, 55, 56, 57]⟩
theorem ext10 (d : Nat) (h : d < 10) : tens.extract d (d + 1) = ⟨#[UInt8.ofNat (48 + d)]⟩ := by
  match d, h with
  | 0, _ => rfl
  | 1, _ => rfl
  | 2, _ => rfl
  | 3, _ => rfl
  | 4, _ => rfl
  | 5, _ => rfl
  | 6, _ => rfl
  | 7, _ => rfl
  | 8, _ => rfl
  | 9, _ => rfl
  | d + 10, h => omega
/-- What the loop keeps: the digits of n are those of m ahead of r; with m = 0 they are r. -/
def dgt (n m : Nat) (r : List UInt8) : Prop := (0 < m → Go.Lib.decDigits n = Go.Lib.decDigits m ++ r) ∧ (m = 0 → Go.Lib.decDigits n = r)
theorem dgt_start (n : Nat) : dgt n (n / 10) [UInt8.ofNat (48 + n % 10)] := by
  refine ⟨fun h => ?_, fun h => ?_⟩
  · rw [Go.Lib.decDigits, dif_neg (by omega)]
  · rw [Go.Lib.decDigits, dif_pos (by omega), Nat.mod_eq_of_lt (by omega)]
theorem dgt_step {n m : Nat} {r : List UInt8} (hm : 0 < m) (h : dgt n m r) : dgt n (m / 10) (UInt8.ofNat (48 + m % 10) :: r) := by
  have h1 := dgt_start m
  refine ⟨fun hp => ?_, fun hp => ?_⟩
  · rw [h.1 hm, h1.1 hp, List.append_assoc]; rfl
  · rw [h.1 hm, h1.2 hp]; rfl
theorem dgt_len {n m : Nat} {r : List UInt8} (hn : n < 18446744073709551616) (h : dgt n m r) : r.length ≤ 20 := by
  have h1 := dec_len n 19 (by have : (10 : Nat) ^ (19 + 1) = 100000000000000000000 := rfl; omega)
  rcases Nat.eq_zero_or_pos m with h0 | h0
  · rw [← h.2 h0]; exact h1
  · rw [h.1 h0, List.length_append] at h1; omega

set_option maxRecDepth 100000 in
set_option maxHeartbeats 2000000 in
theorem rdigits (n : Nat) (hn : n < 18446744073709551616) (w : World) :
    Calls Tryz.prog 83 #[.int .u64 n] w fun e w' => e = .returned (.string (dec n)) ∧ w = w' := by
  obtain ⟨d, hd⟩ : ∃ d, n % 10 = d := ⟨_, rfl⟩
  have e1 : (n : Int) % 10 = (d : Int) := by omega
  have hd10 : d < 10 := by omega
  have HS := Lib.hid (dgt_start n)
  rw [hd] at HS
  obtain ⟨m, hm⟩ : ∃ m, n / 10 = m := ⟨_, rfl⟩
  have e2 : (n : Int) / 10 = (m : Int) := by omega
  rw [hm] at HS
  have hm64 : m < 18446744073709551616 := by omega
  clear hd hm
  go_enter Tryz.func83, Tryz.ntmps83
  go_wp2_with fail
  clear e1 e2
  go_loop [0, 3] (fun u0 u3 => ∃ (m : Nat) (r : List UInt8), m < 18446744073709551616 ∧ u0 = .int .u64 (m : Int) ∧ u3 = .string ⟨r.toArray⟩ ∧ dgt n m r) (fun u0 _ => (intOf u0).toNat)
  case atStart => exact ⟨m, [UInt8.ofNat (48 + d)], hm64, rfl, (show Value.string (tens.extract d (d + 1)) = _ by rw [ext10 d hd10]), HS.out⟩
  case round =>
  obtain ⟨m, r, hm, rfl, rfl, hg⟩ := hrel
  have HG := Lib.hid hg
  clear hg
  by_cases h0 : 0 < m
  · obtain ⟨d, hd⟩ : ∃ d, m % 10 = d := ⟨_, rfl⟩
    have e1 : (m : Int) % 10 = (d : Int) := by omega
    have hd10 : d < 10 := by omega
    have HS := Lib.hid (dgt_step h0 HG.out)
    rw [hd] at HS
    clear hd
    have hz := dgt_len hn HG.out
    go_wp2_with fail
    go_round
    case rel => exact ⟨m / 10, UInt8.ofNat (48 + d) :: r, by omega, by go_num, (show Value.string (tens.extract d (d + 1) ++ ⟨r.toArray⟩) = _ by rw [ext10 d hd10, cons_ba]), HS.out⟩
    case measure => simp [intOf]; omega
  · obtain rfl : m = 0 := by omega
    have HE := Lib.hid (HG.out.2 rfl)
    go_wp2
    go_ret
    exact ⟨by rw [dec, HE.out]; rfl, rfl⟩

theorem rdecimal (n : Nat) (hn : n ≤ 9223372036854775807) (w : World) :
    Calls Tryz.prog 56 #[.int .i64 n] w fun e w' => e = .returned (.string (dec n)) ∧ w = w' := by
  have HD := Lib.hid (rdigits n (by omega) w)
  have hn0 : (0 : Int) ≤ (n : Int) := by omega
  go_enter Tryz.func56, Tryz.ntmps56
  go_wp2_with fail
  refine HD.out.mono ?_
  rintro e w1 ⟨rfl, rfl⟩
  go_wp2
  go_ret
  exact ⟨rfl, rfl⟩

/-! ### Same -/
end

section
open Go.RowKit

theorem row_below {w w' : World} {B e size n : Nat} {v : Value} {xs : List Value} (h : w.ownsRow B e size v n xs) (hb : Below w.heap.size w w') : w'.ownsRow B e size v n xs := by
  refine ⟨h.1, ?_⟩
  rcases h.2 with hn | ⟨g, cap, cur, rfl, hg, hgg, rest⟩
  · exact .inl hn
  · exact .inr ⟨g, cap, cur, rfl, hg, by rw [hb.block g (Array.getElem?_eq_some_iff.1 hgg).1]; exact hgg, rest⟩
theorem row_own {w : World} {B e size n : Nat} {v : Value} {xs : List Value} (h : w.ownsRow B e size v n xs) : ∀ k, v.ownBlock = some k → B ≤ k := fun k hk => (h.lt k hk).1

theorem conv_row (w : World) (B n : Nat) (v : Value) (l : List UInt8) (h : w.ownsRow B 5 1 v n (Go.Lib.byteCells l)) :
    (convert 54 9 v).run Tryz.prog w = .ok (.string ⟨l.toArray⟩) w := by
  have hn : l.length = n := by have := h.1; rw [Go.Lib.byteCells_length] at this; omega
  rcases h.2 with ⟨rfl, h0⟩ | ⟨g, cap, cur, rfl, hg, hgg, h1, h2, h3, h4⟩
  · have hl : l = [] := List.eq_nil_of_length_eq_zero (by omega)
    subst hl
    exact Go.Lib.run_convert_nil_bytes w _ _ _ _ Tryz.underlying54 Tryz.underlying5 Tryz.underlying9
  · have := run_convert_bytes_back (P := Tryz.prog) w 54 9 5 ⟨g, 0, none⟩ cap l Tryz.underlying54 Tryz.underlying5 Tryz.underlying9 (Go.Lib.bytes_of_row hgg (by rw [hn]; first | exact h4 | simpa using h4))
    rw [hn] at this
    exact this

set_option maxRecDepth 100000 in
set_option maxHeartbeats 8000000 in
theorem rjoined (A : Option Addr) (c : Nat) (l : List ByteArray) (w : World) (h : Strs w A l) (hl : l.length ≤ 30) (hs : ∀ s ∈ l, s.size ≤ 200) :
    Calls Tryz.prog 32 #[.slice A l.length c] w fun e w' => e = .returned (.string ⟨(jn l).toArray⟩) ∧ Below w.heap.size w w' := by
  obtain ⟨i0, hi, hz0, hz1, hz2⟩ := info_parts info_byte
  have HI := Lib.hid (And.intro hi (And.intro hz0 (And.intro hz1 hz2)))
  clear hi hz0 hz1 hz2
  have HH := Lib.hid h
  have HSZ := Lib.hid hs
  have HJ := Lib.hid (jn_few l hs)
  clear h hs
  go_enter Tryz.func32, Tryz.ntmps32
  go_wp2_with fail
  go_loop [3, 4] (fun u3 u4 => ∃ k N : Nat, k ≤ l.length ∧ N ≤ 221 * k ∧ u4 = .int .i64 k ∧ u3 = .int .i64 N) (fun _ u4 => l.length - (intOf u4).toNat)
  case atStart => exact ⟨0, 0, Nat.zero_le _, Nat.zero_le _, rfl, rfl⟩
  case round =>
  obtain ⟨k, N, hk, hN, rfl, rfl⟩ := hrel
  by_cases hlt : k < l.length
  · obtain ⟨s, hs⟩ := get_some l k hlt
    obtain ⟨b, off, rfl, c0⟩ := HH.out.at_ hs
    have hs2 : s.size ≤ 200 := HSZ.out s (List.mem_of_getElem? hs)
    obtain ⟨z, hz⟩ : ∃ z, s.size = z := ⟨_, rfl⟩
    rw [hz] at hs2
    clear hs
    go_wp2_with fail
    go_round
    case rel => exact ⟨k + 1, N + (z + 21), by omega, by omega, by go_num, by go_num⟩
    case measure => simp [intOf]; omega
  · obtain rfl : k = l.length := by omega
    have hN2 : N ≤ 6630 := by omega
    clear hN hk
    go_wp2_with (at_make; refine wpList_make_own _ rfl _ _ 54 rfl w.heap.size 5 i0 (.int .u8 0) 1 Tryz.underlying54 HI.out.1 HI.out.2.1 HI.out.2.2.1 .i64 .i64 _ N rfl rfl rfl (by rw [HI.out.2.2.2]; omega) (by unfold maxLen; omega) (Nat.le_refl _) ?_)
    intro w1 hown hgrow
    have HB1 : Hid (Below w.heap.size w w1) := Lib.hid ((Below.refl _ w).grown hgrow (Nat.le_refl _) (fun j hj => by cases hj))
    have HO1 := Lib.hid hown
    clear hown hgrow
    go_wp2_with fail
    go_loopw [5, 6] (fun u5 u6 wr => ∃ k : Nat, k ≤ l.length ∧ u6 = .int .i64 k ∧ wr.ownsRow w.heap.size 5 1 u5 (jn (l.take k)).length (Go.Lib.byteCells (jn (l.take k))) ∧ Below w.heap.size w wr) (fun _ u6 _ => l.length - (intOf u6).toNat)
    case atStart => exact ⟨0, Nat.zero_le _, rfl, HO1.out, HB1.out⟩
    case round =>
    obtain ⟨k, hk, rfl, hown, hbel⟩ := hrel
    have HOWN := Lib.hid hown
    have HBE := Lib.hid hbel
    clear hown hbel
    by_cases hlt : k < l.length
    · obtain ⟨s, hs⟩ := get_some l k hlt
      obtain ⟨b, off, rfl, c0⟩ := (HH.out.below HBE.out).at_ hs
      have hs2 : s.size ≤ 200 := HSZ.out s (List.mem_of_getElem? hs)
      have hbl : b < wr.heap.size := by
        have := lt_of_cell c0
        simpa using this
      have hsn := jn_snoc hs
      have hle := jn_le l (k + 1)
      have hsz : (jn (l.take k)).length + (Go.Lib.decDigits s.size).length + 1 + s.size ≤ 1000000 := by
        have hj := HJ.out
        rw [hsn] at hle
        simp only [List.length_append, List.length_cons, List.length_nil] at hle
        have : s.data.toList.length = s.size := rfl
        omega
      have HA := Lib.hid hs
      have HSN := Lib.hid hsn
      have HS2 := Lib.hid hsz
      have HBS : Hid (w.heap.size ≤ wr.heap.size) := Lib.hid HBE.out.size
      have HDC := Lib.hid (rdecimal s.size (by omega) wr)
      have hdz : (dec s.size).size = (Go.Lib.decDigits s.size).length := rfl
      have HDZ := Lib.hid hdz
      clear hs hsn hle hsz hdz
      go_wp2_with fail
      refine HDC.out.mono ?_
      rintro e w2 ⟨rfl, rfl⟩
      go_wp2_with (at_builtin; refine Go.Lib.wpList_append_own_string _ rfl _ _ 54 9 rfl w.heap.size 5 i0 Tryz.underlying54 Tryz.underlying9 HI.out.1 HI.out.2.1 HI.out.2.2.1 HI.out.2.2.2 _ _ _ rfl HOWN.out (dec s.size) rfl (by have := HS2.out; rw [HDZ.out]; unfold maxLen; omega) (by have := HS2.out; rw [HDZ.out]; omega) HBS.out ?_)
      intro v1 w1 hown1 hgrow1 _
      have HB1 := Lib.hid (HBE.out.grown hgrow1 HBS.out (row_own HOWN.out))
      have HO1 := Lib.hid hown1
      clear hown1 hgrow1
      go_wp2_with (at_builtin; refine wpList_append_own _ rfl _ _ 54 rfl w.heap.size 5 i0 (.int .u8 0) 1 1 Tryz.underlying54 HI.out.1 HI.out.2.1 HI.out.2.2.1 HI.out.2.2.2 rfl (by decide) _ _ _ rfl (HO1.out.alloc _) ⟨w1.heap.size, 0, none⟩ 1 1 [.int .u8 58] rfl rfl ?c1 ?c2 ?c3 ?c4 ?c5 ?_)
      case c1 =>
        intro j u hj
        match j, hj with
        | 0, hj => simp at hj; subst hj; simp [Addr.add]
      case c2 => intro u hu; simp at hu; subst hu; rfl
      case c3 => have := HS2.out; rw [HDZ.out]; unfold maxLen; omega
      case c4 => have := HS2.out; rw [HDZ.out]; omega
      case c5 => have := HB1.out.size; simp; omega
      intro v2 w2 hown2 hgrow2 _
      have HB2 := Lib.hid ((HB1.out.alloc (by first | exact HB1.out.size | rfl) _).grown hgrow2 (by have := HB1.out.size; simp; omega) (row_own HO1.out))
      have HO2 := Lib.hid hown2
      clear hown2 hgrow2
      obtain ⟨b2, off2, he, c2⟩ := (HH.out.below HB2.out).at_ HA.out
      cases he
      go_wp2_with (at_builtin; refine Go.Lib.wpList_append_own_string _ rfl _ _ 54 9 rfl w.heap.size 5 i0 Tryz.underlying54 Tryz.underlying9 HI.out.1 HI.out.2.1 HI.out.2.2.1 HI.out.2.2.2 _ _ _ rfl HO2.out s rfl (by have := HS2.out; rw [HDZ.out]; unfold maxLen; omega) (by have := HS2.out; rw [HDZ.out]; omega) HB2.out.size ?_)
      intro v3 w3 hown3 hgrow3 _
      have HB3 := Lib.hid (HB2.out.grown hgrow3 HB2.out.size (row_own HO2.out))
      have hfin : w3.ownsRow w.heap.size 5 1 v3 (jn (l.take (k + 1))).length (Go.Lib.byteCells (jn (l.take (k + 1)))) := by
        have e1 : (jn (l.take (k + 1))).length = (jn (l.take k)).length + (dec s.size).size + 1 + s.size := by
          rw [HSN.out, HDZ.out]; simp only [List.length_append, List.length_singleton]; rfl
        have e2 : Go.Lib.byteCells (jn (l.take (k + 1))) = Go.Lib.byteCells (jn (l.take k)) ++ Go.Lib.strCells (dec s.size) ++ [.int .u8 58] ++ Go.Lib.strCells s := by
          rw [HSN.out]; simp [Go.Lib.byteCells, Go.Lib.strCells, dec]
        rw [e1, e2]; simp only [List.append_assoc, List.singleton_append]; exact hown3
      have HF := Lib.hid hfin
      clear hown3 hgrow3 hfin
      go_wp2_with fail
      go_roundw
      case rel => exact ⟨k + 1, by omega, by go_num, HF.out, HB3.out⟩
      case measure => simp [intOf]; omega
    · obtain rfl : k = l.length := by omega
      rw [List.take_length] at HOWN
      have hcv := conv_row _ _ _ _ _ HOWN.out
      go_wp2
      go_ret
      exact ⟨rfl, HBE.out⟩

theorem rlist (A : Option Addr) (c : Nat) (l : List ByteArray) (w : World) (h : Strs w A l) (hl : l.length ≤ 30) (hs : ∀ s ∈ l, s.size ≤ 200) :
    Calls Tryz.prog 61 #[.slice A l.length c] w fun e w' => e = .returned (.string (dg ⟨(jn l).toArray⟩)) ∧ Below w.heap.size w w' := by
  have HJ := Lib.hid (rjoined A c l w h hl hs)
  have hz : (⟨(jn l).toArray⟩ : ByteArray).size ≤ 1000000000 := by
    have := jn_few l hs
    show (jn l).length ≤ _
    omega
  have HS : Hid (∀ w', Calls Tryz.prog 59 #[.string ⟨(jn l).toArray⟩] w' fun e w'' => e = .returned (.string (dg ⟨(jn l).toArray⟩)) ∧ w' = w'') := Lib.hid (fun w' => rsum _ hz w')
  clear h hs hz
  obtain ⟨t, ht⟩ : ∃ t, (⟨(jn l).toArray⟩ : ByteArray) = t := ⟨_, rfl⟩
  rw [ht] at HJ HS ⊢
  clear ht
  go_enter Tryz.func61, Tryz.ntmps61
  go_wp2_with fail
  refine HJ.out.mono ?_
  rintro e w1 ⟨rfl, hb1⟩
  have HB1 := Lib.hid hb1
  clear hb1
  go_wp2_with fail
  refine (HS.out w1).mono ?_
  rintro e w2 ⟨rfl, rfl⟩
  go_wp2
  go_ret
  exact ⟨rfl, HB1.out⟩
end

section
open Go.RowKit

set_option maxHeartbeats 4000000 in
theorem offset1 (s i g : Nat) (hs : s < 2147483647) (hi : i ≤ 1000) (w : World) (hc : w.cell? ⟨g, 0, none⟩ = some (.int .i64 s)) (hT : Tabs w) :
    Calls Tryz.prog 87 #[.int .i64 i, .pointer (some ⟨g, 0, none⟩)] w fun e w' => e = .returned (.int .i64 ((offN s i : Nat) : Int)) ∧ Below w.heap.size w w' := by
  have HT : Hid (∀ W, Below w.heap.size w W → Tabs W) := Lib.hid (fun W hW => hT.below hW)
  have H1 := Lib.hid (itoa_any s (by omega) w hT)
  have H2 : Hid (∀ W, Below w.heap.size w W → _) := Lib.hid (fun W hW => itoa_any i (by omega) W (HT.out W hW))
  have hlen : (jn [bBlind, dec s, dec i]).length ≤ 1000000 := by
    have a1 := dec_len s 9 (by omega)
    have a2 := dec_len i 9 (by omega)
    have b1 := dec_len (dec s).size 9 (by have : (dec s).size = (Go.Lib.decDigits s).length := rfl; omega)
    have b2 := dec_len (dec i).size 9 (by have : (dec i).size = (Go.Lib.decDigits i).length := rfl; omega)
    have c1 : (dec s).data.toList.length = (Go.Lib.decDigits s).length := by simp [dec]
    have c2 : (dec i).data.toList.length = (Go.Lib.decDigits i).length := by simp [dec]
    have c3 : (jn [bBlind, dec s, dec i]).length = 7 + ((Go.Lib.decDigits (dec s).size).length + 1 + (Go.Lib.decDigits s).length) + ((Go.Lib.decDigits (dec i).size).length + 1 + (Go.Lib.decDigits i).length) := by
      rw [jn_cons, jn_cons, jn_cons]
      simp only [List.length_append, List.length_cons, c1, c2]
      have : (Go.Lib.decDigits bBlind.size).length = 1 := by
        show (Go.Lib.decDigits 5).length = 1
        rw [Go.Lib.decDigits]; rfl
      have e : bBlind.data.toList.length = 5 := by decide
      have e0 : (jn []).length = 0 := rfl
      omega
    omega
  have H3 : Hid (∀ (W : World), Below w.heap.size w W → Calls Tryz.prog 79 #[.slice (some ⟨W.heap.size, 0, none⟩) 3 3] (W.alloc (.cells #[.string ⟨#[98, 108, 105, 110, 100]⟩, .string (dec s), .string (dec i)] 9)) fun e w' => e = .returned (.string ⟨(hexk (dgs (blindT s i)).toNat 16).toArray⟩) ∧ Below W.heap.size W w') := Lib.hid (fun W hW => by
    have := list_any (some ⟨W.heap.size, 0, none⟩) 3 [bBlind, dec s, dec i] (W.alloc (.cells #[.string ⟨#[98, 108, 105, 110, 100]⟩, .string (dec s), .string (dec i)] 9)) (Strs_new _ _ _ _ _ rfl rfl) (HT.out _ (below_alloc hW _)) hlen (by simp)
    exact this.mono fun _ _ ⟨he, hb⟩ => ⟨he, below_trans (below_alloc (Below.refl _ _) _) hb⟩)
  have hd := (dgs (blindT s i)).toNat_lt
  have hoff : offN s i = (dgs (blindT s i)).toNat % 1000003 := rfl
  rw [hoff]
  generalize (dgs (blindT s i)).toNat = u at *
  have H4 : Hid (∀ (W : World), _) := Lib.hid (fun W => parse_any u (by omega) W)
  generalize dec s = ds at *
  generalize dec i = di at *
  have hr1 : ((u % 1000003 : Nat) : Int) = (u : Int) % 1000003 := by omega
  have hr2 : IntKind.i64.wrap ((u : Int) % 1000003) = (u : Int) % 1000003 := by rw [IntWalk.i64_in _ (by omega)]
  have HR1 := Lib.hid hr1
  have hcl := lt_of_cell hc
  clear hT hlen hd hoff hr1
  go_enter Tryz.func87, Tryz.ntmps87
  go_wp2_with fail
  refine (H1.out).mono ?_
  rintro e w1 ⟨rfl, hb⟩
  have HB1 := Lib.hid hb
  clear hb
  go_wp2_with fail
  refine (H2.out w1 HB1.out).mono ?_
  rintro e w2 ⟨rfl, hb⟩
  have HB2 := Lib.hid (below_trans HB1.out hb)
  clear hb
  go_wp2_with fail
  refine (H3.out w2 HB2.out).mono ?_
  rintro e w3 ⟨rfl, hb⟩
  have HB3 := Lib.hid (below_trans HB2.out hb)
  clear hb
  go_wp2_with fail
  refine (H4.out w3).mono ?_
  rintro e w4 ⟨rfl, hb⟩
  have HB4 := Lib.hid (below_trans HB3.out hb)
  clear hb
  go_wp2
  go_ret
  exact ⟨ret_int (by rw [HR1.out]), HB4.out⟩
theorem offsets_any (s : Int) (w : World) : Calls Tryz.prog 62 #[.int .i64 s] w fun e w' => e = .returned (.func (.func 87) #[] #[.pointer (some ⟨w.heap.size, 0, none⟩)]) ∧ w.alloc (.cells #[.int .i64 s] 3) = w' := by
  have hmf : ∀ (fn : Fn) (first cap : Array Value) (w : World), (Instr.makeFunc fn first cap).run Tryz.prog w = .ok (.func fn first cap) w := fun _ _ _ _ => rfl
  go_enter Tryz.func62, Tryz.ntmps62
  go_wp2
  go_ret
  exact ⟨rfl, rfl⟩

def mvR (most : Int) (v : Int) : Bool := decide (-1000000000 ≤ v) && decide (v ≤ most)
def mvOk (l : List Int) (secret most : Int) : Bool := decide (l.length ≤ 1000) && elemB secret && l.all (mvR most)
def mvA (l : List Int) (s : Nat) (sign : Int) : List Int := l.mapIdx fun i v => v + sign * (offN s i : Int)
def mvL (l : List Int) (secret most sign : Int) : List Int := if mvOk l secret most then mvA l secret.toNat sign else []
theorem mvA_length (l : List Int) (s : Nat) (sign : Int) : (mvA l s sign).length = l.length := by simp [mvA]
theorem mvA_get {l : List Int} {i : Nat} {x : Int} (s : Nat) (sign : Int) (h : l[i]? = some x) : (mvA l s sign)[i]? = some (x + sign * (offN s i : Int)) := by simp [mvA, h]

set_option maxRecDepth 100000 in
set_option maxHeartbeats 16000000 in
theorem moved_any (A : Option Addr) (c : Nat) (l : List Int) (secret most sign : Int) (w : World) (hA : Ints w A l) (hmax : l.length ≤ 9223372036854775807) (hT : Tabs w) (hmost : -1000000000 ≤ most ∧ most ≤ 2000000000) (hsign : sign = 1 ∨ sign = -1) :
    Calls Tryz.prog 39 #[.slice A l.length c, .int .i64 secret, .int .i64 most, .int .i64 sign] w fun e w' =>
      ∃ v, e = .returned (.tuple #[v, .int .i64 (if mvOk l secret most then 0 else 1)]) ∧ w'.ownsRow w.heap.size 3 1 v (mvL l secret most sign).length ((mvL l secret most sign).map (Value.int .i64)) ∧ Below w.heap.size w w' := by
  have hsg : -1 ≤ sign ∧ sign ≤ 1 := by omega
  obtain ⟨hsg1, hsg2⟩ := hsg
  obtain ⟨hm1, hm2⟩ := hmost
  clear hsign
  by_cases h1 : 1000 < l.length
  case pos =>
    have e : mvOk l secret most = false := by unfold mvOk; rw [decide_eq_false (by omega)]; rfl
    unfold mvL
    rw [e]
    have hi : (1000 : Int) < (l.length : Int) := by omega
    clear hA hT e
    go_enter Tryz.func39, Tryz.ntmps39
    go_wp2
    go_ret2
    exact ⟨_, rfl, ⟨rfl, .inl ⟨rfl, rfl⟩⟩, Below.refl _ _⟩
  case neg =>
  have d1 : decide (1000 < l.length) = false := decide_eq_false h1
  have d1' : decide ((1000 : Int) < (l.length : Int)) = false := decide_eq_false (by omega)
  by_cases h2 : elemB secret = true
  case neg =>
    have e : mvOk l secret most = false := by unfold mvOk; rw [Bool.eq_false_iff.2 h2]; simp
    unfold mvL
    rw [e]
    have hs : secret < 0 ∨ 2147483647 ≤ secret := by rw [elemB_iff] at h2; omega
    clear hA hT e h2
    by_cases h0 : secret < 0
    · have d2 : decide (secret < 0) = true := decide_eq_true h0
      go_enter Tryz.func39, Tryz.ntmps39
      go_wp2
      go_ret2
      exact ⟨_, rfl, ⟨rfl, .inl ⟨rfl, rfl⟩⟩, Below.refl _ _⟩
    · have h3 : 2147483647 ≤ secret := by omega
      have d2 : decide (secret < 0) = false := decide_eq_false h0
      have d3 : decide (2147483647 ≤ secret) = true := decide_eq_true h3
      go_enter Tryz.func39, Tryz.ntmps39
      go_wp2
      go_ret2
      exact ⟨_, rfl, ⟨rfl, .inl ⟨rfl, rfl⟩⟩, Below.refl _ _⟩
  case pos =>
  obtain ⟨s0, s1⟩ := (elemB_iff secret).1 h2
  obtain ⟨s, rfl⟩ : ∃ s : Nat, secret = (s : Int) := ⟨secret.toNat, by omega⟩
  obtain ⟨v, hv⟩ : ∃ v, l.all (mvR most) = v := ⟨_, rfl⟩
  have hok : mvOk l (s : Int) most = v := by unfold mvOk; rw [hv, h2, decide_eq_true (by omega)]; rfl
  have hlv : mvL l (s : Int) most sign = if v then mvA l s sign else [] := by unfold mvL; rw [hok, Int.toNat_natCast]
  rw [hok, hlv]
  have HV := Lib.hid hv
  have HA := Lib.hid hA
  have d2 : decide ((s : Int) < 0) = false := decide_eq_false (by omega)
  have d3 : decide (2147483647 ≤ (s : Int)) = false := decide_eq_false (by omega)
  obtain ⟨i0, hi0, hz0, hz1, hz2⟩ := info_parts info_int
  have HI := Lib.hid (And.intro hi0 (And.intro hz0 (And.intro hz1 hz2)))
  have HO1 : Hid (∀ (i g : Nat) (W : World), i ≤ 1000 → W.cell? ⟨g, 0, none⟩ = some (.int .i64 s) → Below w.heap.size w W → _) := Lib.hid (fun i g W hi hc hW => offset1 s i g (by omega) hi W hc (hT.below hW))
  have hml := mvA_length l s sign
  have HMG : Hid (∀ (i : Nat) (x : Int), l[i]? = some x → (mvA l s sign)[i]? = some (x + sign * (offN s i : Int))) := Lib.hid (fun i x h => mvA_get s sign h)
  generalize mvA l s sign = res at *
  clear hv hA hT hok hlv hi0 hz0 hz1 hz2 h2
  go_enter Tryz.func39, Tryz.ntmps39
  go_wp2_with fail
  refine (offsets_any (s : Int) w).mono ?_
  rintro e _ ⟨rfl, rfl⟩
  obtain ⟨w1, hw1⟩ : ∃ w1, w.alloc (.cells #[.int .i64 (s : Int)] 3) = w1 := ⟨_, rfl⟩
  have HC1 : Hid (w1.cell? ⟨w.heap.size, 0, none⟩ = some (.int .i64 s)) := Lib.hid (by rw [← hw1, World.cell?_alloc_at _ _ _ _ rfl]; rfl)
  have HB1 : Hid (Below w.heap.size w w1) := Lib.hid (by rw [← hw1]; exact below_alloc (Below.refl _ _) _)
  have HG1 : Hid (w.heap.size < w1.heap.size) := Lib.hid (by rw [← hw1]; simp)
  rw [hw1]
  clear hw1
  go_wp2_with (at_make; refine wpList_make_full _ rfl (.tmp 27) (.tmp 27) 22 rfl w1.heap.size 3 i0 _ 1 Tryz.underlying22 HI.out.1 HI.out.2.1 HI.out.2.2.1 _ _ _ _ l.length rfl rfl rfl rfl (by rw [HI.out.2.2.2]; omega) (by simp only [maxLen]; omega) (Nat.le_refl _) ?_)
  intro w2 hown2 hg2
  have HP0 := Lib.hid (IArr.of_made hown2)
  have HB2 := Lib.hid ((Below.refl w1.heap.size w1).grown hg2 (Nat.le_refl _) (by simp))
  clear hown2 hg2
  go_wp2_with fail
  go_loopw [12, 31] (fun _ u31 wr => ∃ (i : Nat) (r : List Int), i ≤ l.length ∧ u31 = .int .i64 i ∧ Below w1.heap.size w1 wr ∧ IArr wr w1.heap.size 3 r ∧ r.length = l.length ∧ r.take i = res.take i ∧ (l.take i).all (mvR most) = true) (fun _ u31 _ => l.length - (intOf u31).toNat)
  case atStart => exact ⟨0, _, Nat.zero_le _, rfl, HB2.out, HP0.out, by simp, by simp, rfl⟩
  case round =>
  obtain ⟨i, r, hi, rfl, hb, hP, hrl, hr, hall⟩ := hrel
  have HB := Lib.hid hb
  have HPA := Lib.hid hP
  have HR := Lib.hid hr
  have HRL := Lib.hid hrl
  have HALL := Lib.hid hall
  clear hb hP hr hall hrl
  by_cases hlt : i < l.length
  case pos =>
    obtain ⟨x, hx⟩ := get_some l i hlt
    have HX := Lib.hid hx
    clear hx
    obtain ⟨b, off, rfl, hcx⟩ := HA.out.at_ HX.out
    have HCX : Hid (∀ W, Below w.heap.size w W → W.cell? ⟨b, off + i, none⟩ = some (.int .i64 x)) := Lib.hid (fun W hW => kept_cell hW hcx)
    have HBW := Lib.hid (below_trans HB1.out HB.out)
    have hcw := HCX.out wr HBW.out
    have hcl := lt_of_cell hcw
    clear hcx
    cases hvx : mvR most x
    case false =>
      have hvf : v = false := by rw [← HV.out]; exact all_false_of (mvR most) l i x HX.out hvx
      subst hvf
      have hor : x < -1000000000 ∨ most < x := by
        have := hvx
        simp only [mvR, Bool.and_eq_false_iff, decide_eq_false_iff_not] at this
        omega
      clear hvx
      by_cases hx1 : x < -1000000000
      · have e1 : decide (x < -1000000000) = true := decide_eq_true hx1
        clear hor hx1 hm1 hm2 hsg1 hsg2
        repeat (first | go_values | go_skip | go_guarded | go_step | go_upon)
        go_ret2
        exact ⟨_, rfl, ⟨rfl, .inl ⟨rfl, rfl⟩⟩, HBW.out⟩
      · have e1 : decide (x < -1000000000) = false := decide_eq_false hx1
        have hx2 : most < x := by omega
        have e2 : decide (most < x) = true := decide_eq_true hx2
        clear hor
        go_wp2
        go_ret2
        exact ⟨_, rfl, ⟨rfl, .inl ⟨rfl, rfl⟩⟩, HBW.out⟩
    case true =>
    have HVX := Lib.hid hvx
    have hxr : -1000000000 ≤ x ∧ x ≤ most := by
      have := hvx
      simp only [mvR, Bool.and_eq_true, decide_eq_true_eq] at this
      exact this
    obtain ⟨hx1, hx2⟩ := hxr
    have e1 : decide (x < -1000000000) = false := decide_eq_false (by omega)
    have e2 : decide (most < x) = false := decide_eq_false (by omega)
    have hol := offN_lt s i
    have HNEW := Lib.hid (HMG.out i x HX.out)
    obtain ⟨y, hy⟩ : ∃ y, r[i]? = some y := get_some r i (by have := HRL.out; omega)
    have HY := Lib.hid hy
    have HCALL : Hid (∀ W, Below wr.heap.size wr W → Calls Tryz.prog 87 #[.int .i64 i, .pointer (some ⟨w.heap.size, 0, none⟩)] W fun e w' => e = .returned (.int .i64 ((offN s i : Nat) : Int)) ∧ Below W.heap.size W w') := Lib.hid (fun W hW => HO1.out i _ W (by omega) (kept_cell (below_trans HB.out hW) HC1.out) (below_trans HBW.out hW))
    clear hvx hy
    generalize offN s i = d at *
    have hpr : -1000003 < sign * (d : Int) ∧ sign * (d : Int) < 1000003 := by
      rcases (by omega : sign = -1 ∨ sign = 0 ∨ sign = 1) with h | h | h <;> rw [h] <;> omega
    obtain ⟨hp1, hp2⟩ := hpr
    have hw1 : IntKind.i64.wrap (sign * (d : Int)) = sign * (d : Int) := by rw [IntWalk.i64_in _ (by omega)]
    have hw2 : IntKind.i64.wrap (x + sign * (d : Int)) = x + sign * (d : Int) := by rw [IntWalk.i64_in _ (by omega)]
    clear hp1 hp2 hx1 hx2 hm1 hm2 hsg1 hsg2
    repeat (first | go_values | go_skip | go_guarded | go_step | go_upon)
    refine wp_region_held_drew (S := fun W => Below w.heap.size w W) (by kernel_rfl) (HBW.out.drew) (fun hS0 => ?_)
    refine wpAnyH_take (i := 0) (v := ?_) rfl (by kernel_rfl) (by kernel_rfl) (by kernel_rfl) (fun _ _ _ h => h) (Or.inl ⟨by kernel_rfl, ?hy⟩) hS0 ?rest
    case hy => (intro W hSw; clear hSw; go_simp; try with_reducible rfl)
    case rest =>
    refine wpAnyH_take (i := 1) (v := ?_) rfl (by kernel_rfl) (by kernel_rfl) (by kernel_rfl) (fun _ _ _ h => h) (Or.inl ⟨by kernel_rfl, ?hy⟩) hS0 ?rest
    case hy => (intro W hSw; clear hSw; go_simp; try with_reducible rfl)
    case rest =>
    refine wpAnyH_take (i := 2) (v := ?_) rfl (by kernel_rfl) (by kernel_rfl) (by kernel_rfl) (fun _ _ _ h => h) (Or.inl ⟨by kernel_rfl, ?hy⟩) hS0 ?rest
    case hy => (intro W hSw; clear hSw; go_simp; try with_reducible rfl)
    case rest =>
    refine wpAnyH_take (i := 3) (v := ?_) rfl (by kernel_rfl) (by kernel_rfl) (by kernel_rfl) (fun _ _ _ h => h) (Or.inl ⟨by kernel_rfl, ?hy⟩) hS0 ?rest
    case hy => (intro W hSw; clear hSw; go_simp; try with_reducible rfl)
    case rest =>
    refine wpAnyH_take (i := 4) (v := ?_) rfl (by kernel_rfl) (by kernel_rfl) (by kernel_rfl) (fun _ _ _ h => h) (Or.inl ⟨by kernel_rfl, ?hy⟩) hS0 ?rest
    case hy => (intro W hSw; clear hSw; go_simp; try with_reducible rfl)
    case rest =>
    refine wpAnyH_take (i := 5) (v := ?_) rfl (by kernel_rfl) (by kernel_rfl) (by kernel_rfl) (fun _ _ _ h => h) (Or.inl ⟨by kernel_rfl, ?hy⟩) hS0 ?rest
    case hy => (intro W hSw; have q := HCX.out W hSw; have ql := lt_of_cell q; clear hSw; go_simp; try with_reducible rfl)
    case rest =>
    refine wpAnyH_take (i := 6) (v := ?_) rfl (by kernel_rfl) (by kernel_rfl) (by kernel_rfl) (fun _ _ _ h => h) (Or.inl ⟨by kernel_rfl, ?hy⟩) hS0 ?rest
    case hy => (intro W hSw; clear hSw; go_simp; try with_reducible rfl)
    case rest =>
    refine wpAnyH_take (i := 7) (v := ?_) rfl (by kernel_rfl) (by kernel_rfl) (by kernel_rfl) (fun _ _ _ h => h) (Or.inl ⟨by kernel_rfl, ?hy⟩) hS0 ?rest
    case hy => (intro W hSw; clear hSw; go_simp; try with_reducible rfl)
    case rest =>
    refine wpAnyH_take (i := 8) (v := ?_) rfl (by kernel_rfl) (by kernel_rfl) (by kernel_rfl) (fun _ _ _ h => h) (Or.inl ⟨by kernel_rfl, ?hy⟩) hS0 ?rest
    case hy => (intro W hSw; clear hSw; go_simp; try with_reducible rfl)
    case rest =>
    refine wpAnyH_ready (rs := [9]) (by kernel_rfl) (by simp) ?_
    refine AllReadyH.cons rfl (fun K hK => ?_) (AllReadyH.nil)
    go_simp
    refine (HCALL.out _ (Below.refl _ _).drew).mono ?_
    rintro e W1 ⟨rfl, hb1⟩
    have HW1 : Hid (Below wr.heap.size wr W1) := Lib.hid (below_trans (Below.refl _ _).drew hb1)
    have HPB : Hid (IArr W1 w1.heap.size 3 r) := Lib.hid ((HPA.out.kept rfl : IArr wr.drew w1.heap.size 3 r).below hb1)
    clear hb1
    go_simp
    refine hK.out _ _ (below_trans HBW.out HW1.out) (fun hS1 => ?_)
    clear hK K
    refine wpAnyH_take (i := 10) (v := ?_) rfl (by kernel_rfl) (by kernel_rfl) (by kernel_rfl) (fun _ _ _ h => h) (Or.inl ⟨by kernel_rfl, ?hy⟩) hS1 ?rest
    case hy => (intro W hSw; clear hSw; go_simp; try with_reducible rfl)
    case rest =>
    refine wpAnyH_take (i := 11) (v := ?_) rfl (by kernel_rfl) (by kernel_rfl) (by kernel_rfl) (fun _ _ _ h => h) (Or.inl ⟨by kernel_rfl, ?hy⟩) hS1 ?rest
    case hy => (intro W hSw; clear hSw; go_simp; try with_reducible rfl)
    case rest =>
    refine wpAnyH_take (i := 12) (v := ?_) rfl (by kernel_rfl) (by kernel_rfl) (by kernel_rfl) (fun _ _ _ h => h) (Or.inl ⟨by kernel_rfl, ?hy⟩) hS1 ?rest
    case hy => (intro W hSw; clear hSw; go_simp; try with_reducible rfl)
    case rest =>
    refine wpAnyH_ready (rs := [13]) (by kernel_rfl) (by simp) ?_
    refine AllReadyH.cons rfl (fun K hK => ?_) (AllReadyH.nil)
    have c1 := HPB.out.cell i y HY.out
    have c2 := HPB.out.frozen i
    have c3 := HPB.out.lt
    have hS2 : Below w.heap.size w (W1.setCell ⟨w1.heap.size, i, none⟩ (.int .i64 (x + sign * (d : Int)))) := (below_trans HBW.out HW1.out).setCell (by have := HB1.out.size; simpa using this) _
    go_simp
    refine hK.out _ _ hS2 (fun hS3 => ?_)
    clear hK K c1 c2 c3
    refine wpAnyH_done (by kernel_rfl) ?_ _
    clear hS0 hS1 hS2 hS3
    go_wp2
    go_roundw
    case rel => exact ⟨i + 1, _, by omega, by go_num, (below_trans HB.out HW1.out).setCell (Nat.le_refl _) _, HPB.out.set i (x + sign * (d : Int)), by rw [List.length_set]; exact HRL.out, set_take_succ HR.out (by have := HRL.out; omega) HNEW.out, by rw [all_take_succ _ _ _ _ HX.out, HALL.out, HVX.out]; rfl⟩
    case measure => simp [intOf]; omega
  case neg =>
  obtain rfl : i = l.length := by omega
  have hvt : v = true := by rw [← HV.out]; have := HALL.out; rwa [List.take_length] at this
  subst hvt
  have hrr : r = res := by
    have := HR.out
    rwa [List.take_of_length_le (by have := HRL.out; omega), List.take_of_length_le (by omega)] at this
  have HOWN := Lib.hid (HPA.out.own (base := w1.heap.size) (Nat.le_refl _) (by simp only [maxLen]; have := HRL.out; omega))
  have HRR := Lib.hid hrr
  clear hrr
  go_wp2
  go_ret2
  have := own_mono HOWN.out HB1.out.size
  rw [HRL.out] at this
  have hrr := HRR.out
  subst hrr
  exact ⟨_, rfl, this, below_trans HB1.out HB.out⟩
def blL (l : List Int) (secret : Int) : List Int := mvL l secret 1000000000 1
def unL (l : List Int) (secret : Int) : List Int := mvL l secret 1001000002 (-1)
theorem blind_any (A : Option Addr) (c : Nat) (l : List Int) (secret : Int) (w : World) (hA : Ints w A l) (hmax : l.length ≤ 9223372036854775807) (hT : Tabs w) :
    Calls Tryz.prog 9 #[.slice A l.length c, .int .i64 secret] w fun e w' =>
      ∃ v, e = .returned (.tuple #[v, .int .i64 (if mvOk l secret 1000000000 then 0 else 1)]) ∧ w'.ownsRow w.heap.size 3 1 v (blL l secret).length ((blL l secret).map (Value.int .i64)) ∧ Below w.heap.size w w' := by
  have H := Lib.hid (moved_any A c l secret 1000000000 1 w hA hmax hT ⟨by omega, by omega⟩ (.inl rfl))
  unfold blL
  clear hA hT
  generalize (if mvOk l secret 1000000000 then (0 : Int) else 1) = er at *
  generalize mvL l secret 1000000000 1 = R at *
  go_enter Tryz.func9, Tryz.ntmps9
  go_wp2_with fail
  refine H.out.mono ?_
  rintro e w1 ⟨v, rfl, ho, hb⟩
  have HO := Lib.hid ho
  have HB := Lib.hid hb
  clear ho hb
  go_wp2
  go_ret2
  exact ⟨_, rfl, HO.out, HB.out⟩
theorem unblind_any (A : Option Addr) (c : Nat) (l : List Int) (secret : Int) (w : World) (hA : Ints w A l) (hmax : l.length ≤ 9223372036854775807) (hT : Tabs w) :
    Calls Tryz.prog 13 #[.slice A l.length c, .int .i64 secret] w fun e w' =>
      ∃ v, e = .returned (.tuple #[v, .int .i64 (if mvOk l secret 1001000002 then 0 else 1)]) ∧ w'.ownsRow w.heap.size 3 1 v (unL l secret).length ((unL l secret).map (Value.int .i64)) ∧ Below w.heap.size w w' := by
  have H := Lib.hid (moved_any A c l secret 1001000002 (-1) w hA hmax hT ⟨by omega, by omega⟩ (.inr rfl))
  unfold unL
  clear hA hT
  generalize (if mvOk l secret 1001000002 then (0 : Int) else 1) = er at *
  generalize mvL l secret 1001000002 (-1) = R at *
  go_enter Tryz.func13, Tryz.ntmps13
  go_wp2_with fail
  refine H.out.mono ?_
  rintro e w1 ⟨v, rfl, ho, hb⟩
  have HO := Lib.hid ho
  have HB := Lib.hid hb
  clear ho hb
  go_wp2
  go_ret2
  exact ⟨_, rfl, HO.out, HB.out⟩
end

section
open Go.RowKit

/-! ### plain: how often a place occurs -/
def cnt (l : List (Int × Int)) (k : Nat) (j : Nat) : Int := ((l.take k).map (·.1)).count (j : Int)

theorem cnt_zero (l : List (Int × Int)) (j : Nat) : cnt l 0 j = 0 := by simp [cnt]

theorem cnt_succ (l : List (Int × Int)) (k : Nat) (s : Int × Int) (hs : l[k]? = some s) (j : Nat) : cnt l (k + 1) j = cnt l k j + if (j : Int) = s.1 then 1 else 0 := by
  unfold cnt
  rw [take_snoc l k s hs, List.map_append, List.count_append]
  by_cases h : (j : Int) = s.1
  · simp [h]
  · have : ¬ s.1 = (j : Int) := fun e => h e.symm
    simp [h, this]

theorem cnt_le (l : List (Int × Int)) (k j : Nat) : 0 ≤ cnt l k j ∧ cnt l k j ≤ k := by
  unfold cnt
  have h1 := List.count_le_length (a := (j : Int)) (l := (l.take k).map (·.1))
  have h2 := List.length_take_le k l
  rw [List.length_map] at h1
  omega

theorem validB_iff (s : Int × Int) : validB s = true ↔ 1 ≤ s.1 ∧ s.1 ≤ 16 ∧ elemB s.2 = true := by
  simp [validB, and_assoc]

theorem nodup_of_cnt (l : List (Int × Int)) (hv : l.all validB = true) (h : ∀ j : Nat, j < 17 → cnt l l.length j ≤ 1) : (l.map (·.1)).Nodup := by
  rw [List.nodup_iff_count]
  intro a
  by_cases hm : a ∈ l.map (·.1)
  · obtain ⟨s, hs, rfl⟩ := List.mem_map.1 hm
    have := (validB_iff s).1 (List.all_eq_true.1 hv s hs)
    have h1 := h s.1.toNat (by omega)
    unfold cnt at h1
    rw [List.take_length, show ((s.1.toNat : Nat) : Int) = s.1 by omega] at h1
    omega
  · rw [List.count_eq_zero_of_not_mem hm]; omega

theorem dup_of_cnt (l : List (Int × Int)) (j : Nat) (h : 1 < cnt l l.length j) : ¬ (l.map (·.1)).Nodup := by
  intro hn
  have := List.nodup_iff_count.1 hn (j : Int)
  unfold cnt at h
  rw [List.take_length] at h
  omega

/-- What Join computes. -/
noncomputable def joinF (l : List (Int × Int)) (need : Int) : Int × Int := by
  classical exact
  if need < 1 ∨ 16 < need then (0, 1) else if l.all validB = false then (0, 1) else if ¬ (l.map (·.1)).Nodup then (0, 8)
  else if (l.length : Int) < need then (0, 25)
  else if (l.drop need.toNat).all (fun s => nv s.1 (l.take need.toNat) (need.toNat - 1) 0 == s.2) = false then (0, 24)
  else (nv 0 (l.take need.toNat) (need.toNat - 1) 0, 0)

theorem joinF_need (l : List (Int × Int)) (need : Int) (h : need < 1 ∨ 16 < need) : joinF l need = (0, 1) := by unfold joinF; rw [if_pos h]
theorem joinF_bad (l : List (Int × Int)) (need : Int) (h : 1 ≤ need) (h' : need ≤ 16) (hv : l.all validB = false) : joinF l need = (0, 1) := by
  unfold joinF; rw [if_neg (by omega), if_pos hv]
theorem joinF_dup (l : List (Int × Int)) (need : Int) (h : 1 ≤ need) (h' : need ≤ 16) (hv : l.all validB = true) (hd : ¬ (l.map (·.1)).Nodup) : joinF l need = (0, 8) := by
  unfold joinF; rw [if_neg (by omega), if_neg (by simp [hv]), if_pos hd]
theorem joinF_few (l : List (Int × Int)) (need : Int) (h : 1 ≤ need) (h' : need ≤ 16) (hv : l.all validB = true) (hd : (l.map (·.1)).Nodup) (hl : (l.length : Int) < need) : joinF l need = (0, 25) := by
  unfold joinF; rw [if_neg (by omega), if_neg (by simp [hv]), if_neg (by simpa using hd), if_pos hl]
theorem joinF_wrong (l : List (Int × Int)) (n : Nat) (h : 1 ≤ n) (h' : n ≤ 16) (hv : l.all validB = true) (hd : (l.map (·.1)).Nodup) (hl : n ≤ l.length)
    (k : Nat) (s : Int × Int) (hs : (l.drop n)[k]? = some s) (hw : ¬ nv s.1 (l.take n) (n - 1) 0 = s.2) : joinF l n = (0, 24) := by
  unfold joinF; rw [if_neg (by omega), if_neg (by simp [hv]), if_neg (by simpa using hd), if_neg (by omega), if_pos]
  rw [Int.toNat_natCast]
  exact all_false_of _ _ k s hs (by simpa using hw)
theorem joinF_ok (l : List (Int × Int)) (n : Nat) (h : 1 ≤ n) (h' : n ≤ 16) (hv : l.all validB = true) (hd : (l.map (·.1)).Nodup) (hl : n ≤ l.length)
    (hw : ∀ s, s ∈ l.drop n → nv s.1 (l.take n) (n - 1) 0 = s.2) : joinF l n = (nv 0 (l.take n) (n - 1) 0, 0) := by
  unfold joinF; rw [if_neg (by omega), if_neg (by simp [hv]), if_neg (by simpa using hd), if_neg (by omega), if_neg]
  · rw [Int.toNat_natCast]
  · rw [Int.toNat_natCast, Bool.not_eq_false, List.all_eq_true]
    intro s hs
    simpa using hw s hs

theorem Arr.zeros17 (w : World) (T : Nat) : Arr (w.alloc (.cells #[.int .i64 0, .int .i64 0, .int .i64 0, .int .i64 0, .int .i64 0, .int .i64 0, .int .i64 0, .int .i64 0, .int .i64 0, .int .i64 0, .int .i64 0, .int .i64 0, .int .i64 0, .int .i64 0, .int .i64 0, .int .i64 0, .int .i64 0] T)) w.heap.size T 17 (fun _ => 0) := by
  refine ⟨_, heap_alloc_new w _, rfl, fun j hj => ?_⟩
  match j, hj with
  | 0, _ | 1, _ | 2, _ | 3, _ | 4, _ | 5, _ | 6, _ | 7, _ | 8, _ | 9, _ | 10, _ | 11, _ | 12, _ | 13, _ | 14, _ | 15, _ | 16, _ => rfl
  | n + 17, h => omega

theorem info_point : (Tryz.prog.info? 74).map (fun i => (i.zero, i.size, i.bytes)) = some (some (.agg #[.int .i64 0, .int .i64 0]), 2, 16) := by kernel_rfl

set_option maxRecDepth 100000 in
set_option maxRecDepth 100000 in
set_option maxHeartbeats 8000000 in
theorem join_full (A : Option Addr) (c : Nat) (l : List (Int × Int)) (need : Int) (w : World) (hA : Prs w A l) (hlen : l.length ≤ 1000000) (hcap : l.length ≤ c) :
    Calls Tryz.prog 47 #[.slice A l.length c, .int .i64 need] w fun e w' =>
      e = .returned (.tuple #[.int .i64 (joinF l need).1, .int .i64 (joinF l need).2]) ∧ Below w.heap.size w w' := by
  by_cases hneed : need < 1 ∨ 16 < need
  · have hJ := Lib.hid (joinF_need l need hneed)
    rcases hneed with hneed | hneed
    · go_enter Tryz.func47, Tryz.ntmps47
      go_wp2
      go_ret2
      rw [hJ.out]
      exact ⟨rfl, Below.refl _ _⟩
    · go_enter Tryz.func47, Tryz.ntmps47
      go_wp2
      go_ret2
      rw [hJ.out]
      exact ⟨rfl, Below.refl _ _⟩
  have hn1 : 1 ≤ need := by omega
  have hn16 : need ≤ 16 := by omega
  clear hneed
  obtain ⟨n, rfl⟩ := Int.eq_ofNat_of_zero_le (show 0 ≤ need by omega)
  have HA := Lib.hid hA; clear hA
  go_enter Tryz.func47, Tryz.ntmps47
  go_wp2_with fail
  go_loopw [27] (fun u27 wr => ∃ (k : Nat) (f : Nat → Int), k ≤ l.length ∧ u27 = .int .i64 k ∧ Below w.heap.size w wr ∧ Arr wr w.heap.size 106 17 f ∧ (∀ j, j < 17 → f j = cnt l k j) ∧ (l.take k).all validB = true) (fun u27 _ => l.length - (intOf u27).toNat)
  case atStart => exact ⟨0, _, Nat.zero_le _, rfl, below_alloc (Below.refl _ _) _, Arr.zeros17 _ _, by simp [cnt_zero], rfl⟩
  case round =>
    obtain ⟨k, f, hk, rfl, hB, hAr, hf, hall⟩ := hrel
    have HB := Lib.hid hB; clear hB
    have HAR := Lib.hid hAr; clear hAr
    have HF := Lib.hid hf; clear hf
    have HALL := Lib.hid hall; clear hall
    have hlt0 := HAR.out.lt
    by_cases hlt : k < l.length
    · obtain ⟨s, hs⟩ := get_some l k hlt
      obtain ⟨b, off, rfl, hc1, hc2⟩ := (HA.out.below HB.out).at_ hs
      have HS := Lib.hid hs; clear hs
      cases hv : validB s
      · have hj := joinF_bad l n hn1 hn16 (all_false_of validB l k s HS.out hv)
        have HJ := Lib.hid hj; clear hj
        have HV := Lib.hid hv; clear hv
        go_wp2_with fail
        refine (valid_any s.1 s.2 _).mono ?_
        rintro e w' ⟨rfl, rfl⟩
        rw [HV.out]
        go_wp2
        go_ret2
        rw [HJ.out]
        exact ⟨rfl, below_alloc (below_alloc HB.out _) _⟩
      · obtain ⟨x1, x16, -⟩ := (validB_iff s).1 hv
        have HV := Lib.hid hv; clear hv
        have hcx := HAR.out.cell s.1.toNat (by omega)
        have hfx := HAR.out.frozen s.1.toNat
        have hb1 := cnt_le l k s.1.toNat
        rw [← HF.out s.1.toNat (by omega)] at hb1
        obtain ⟨b1, b2⟩ := hb1
        have hix : (0 : Int) ≤ s.1 := by omega
        have hix2 : s.1 < 17 := by omega
        go_wp2_with fail
        refine (valid_any s.1 s.2 _).mono ?_
        rintro e w' ⟨rfl, rfl⟩
        rw [HV.out]
        go_wp2
        go_roundw
        case rel =>
          refine ⟨k + 1, _, by omega, by go_num, (((HB.out).setCell (p := ⟨w.heap.size, s.1.toNat, none⟩) (Nat.le_refl _) _).alloc (by have := HB.out.size; simp; omega) _).alloc (by have := HB.out.size; simp; omega) _,
            ((HAR.out.set s.1.toNat (f s.1.toNat + 1)).alloc _).alloc _, fun j hj => ?_, by rw [all_take_succ validB l k s HS.out, HALL.out, HV.out]; rfl⟩
          rw [cnt_succ l k s HS.out j]
          by_cases hji : j = s.1.toNat
          · subst hji
            simp only [if_true]
            rw [if_pos (by omega), HF.out _ hj]
          · simp only [hji, if_false]
            rw [if_neg (by omega), HF.out _ hj]; omega
        case measure => simp [intOf]; omega
    · have hkl : l.length ≤ k := by omega
      have hall : l.all validB = true := by have := HALL.out; rwa [List.take_of_length_le hkl] at this
      have hfc : ∀ j, j < 17 → f j = cnt l l.length j := fun j hj => by rw [HF.out j hj]; unfold cnt; rw [List.take_of_length_le hkl, List.take_length]
      have HFC := Lib.hid hfc; clear hfc
      have HVA := Lib.hid hall; clear hall
      obtain ⟨cs, hcs, hcz, hcj⟩ := HAR.out
      have HCS := Lib.hid hcs; clear hcs
      have HCZ := Lib.hid hcz; clear hcz
      have HCJ := Lib.hid hcj; clear hcj
      go_wp2_with (refine wpList_load_row rfl 106 _ rfl w.heap.size rfl 106 cs _ _ HCS.out Tryz.underlying106 rfl (by rw [HCZ.out]; kernel_rfl) ?_)
      go_loop [10, 42] (fun _ u42 => ∃ i : Nat, i ≤ 17 ∧ u42 = .int .i64 i ∧ ∀ j, j < i → f j ≤ 1) (fun _ u42 => 17 - (intOf u42).toNat)
      case atStart => exact ⟨0, by omega, rfl, by simp⟩
      case round =>
        obtain ⟨i, hi, rfl, hle⟩ := hrel
        have HLE := Lib.hid hle; clear hle
        by_cases hlt2 : i < 17
        · obtain ⟨i0, hi0, hz0, hz1, hz2⟩ := info_parts info_int
          have hix := run_index_agg 106 3 17 .i64 i0 cs .i64 i _ Tryz.underlying106 Tryz.underlying3 hi0 hz1 hlt2 (HCJ.out i hlt2) wr
          clear hi0 hz0 hz1 hz2
          by_cases h1 : 1 < f i
          · have hj := joinF_dup l n hn1 hn16 HVA.out (dup_of_cnt l i (by rw [← HFC.out i hlt2]; exact h1))
            have HJ := Lib.hid hj; clear hj
            go_wp2
            go_ret2
            rw [HJ.out]
            exact ⟨rfl, HB.out⟩
          · have h1' : f i ≤ 1 := by omega
            go_wp2
            go_round
            case rel =>
              refine ⟨i + 1, by omega, by go_num, fun j hj => ?_⟩
              by_cases hji : j = i
              · subst hji; exact h1'
              · exact HLE.out j (by omega)
            case measure => simp [intOf]; omega
        · have hnd := nodup_of_cnt l HVA.out (fun j hj => by rw [← HFC.out j hj]; exact HLE.out j (by omega))
          have HND := Lib.hid hnd; clear hnd
          by_cases hfew : l.length < n
          · have hj := joinF_few l n hn1 hn16 HVA.out HND.out (by omega)
            have HJ := Lib.hid hj; clear hj
            go_wp2
            go_ret2
            rw [HJ.out]
            exact ⟨rfl, HB.out⟩
          · have hnl : n ≤ l.length := by omega
            obtain ⟨b, off, rfl, hcells⟩ := HA.out.2 (by omega)
            have HCE := Lib.hid hcells; clear hcells
            go_wp2_with fail
            obtain ⟨w3, rfl⟩ : ∃ w3 : World, w3 = wr := ⟨_, rfl⟩
            obtain ⟨i2, hi2, hy0, hy1, hy2⟩ := info_parts info_point
            have HI2 := Lib.hid (And.intro hi2 (And.intro hy0 (And.intro hy1 hy2)))
            clear hi2 hy0 hy1 hy2
            go_loopw [11, 56] (fun u11 u56 wr => ∃ q : Nat, q ≤ n ∧ u56 = .int .i64 q ∧ Below w3.heap.size w3 wr ∧ wr.ownsRow w3.heap.size 74 2 u11 q (flat2 (l.take q))) (fun _ u56 _ => n - (intOf u56).toNat)
            case atStart => exact ⟨0, Nat.zero_le _, rfl, Below.refl _ _, World.ownsRow_nil _ _ _ _⟩
            case round =>
              obtain ⟨q, hq, rfl, hB3, hO3⟩ := hrel
              have HB3 := Lib.hid hB3; clear hB3
              have HO3 := Lib.hid hO3; clear hO3
              by_cases hqn : q < n
              · obtain ⟨s, hs⟩ := get_some l q (by omega)
                obtain ⟨h1, h2⟩ := flat2_at l q s hs
                have hc1 := kept_cell HB3.out (kept_cell HB.out (HCE.out _ _ h1))
                have hc2 := kept_cell HB3.out (kept_cell HB.out (HCE.out _ _ h2))
                rw [← Nat.add_assoc] at hc2
                have HS := Lib.hid hs; clear hs h1 h2
                go_wp2_with (at_builtin; refine wpList_app _ rfl (.tmp 60) (.tmp 66) 107 107 rfl w3.heap.size 74 74 i2 _ 2 16 Tryz.underlying107 Tryz.underlying107 HI2.out.1 HI2.out.2.1 HI2.out.2.2.1 HI2.out.2.2.2 rfl (by omega) _ q _ rfl ((HO3.out.alloc _).alloc _) _ 1 1 [.int .i64 s.1, .int .i64 s.2] rfl (Rd_new (wr.alloc _) #[.int .i64 s.1, .int .i64 s.2] _ 2 1 _ rfl (by simp)) (by simp [Value.oneCell']) (by simp only [maxLen]; omega) (by omega) (by have := HB3.out.size; simp; omega) ?_)
                intro v1 w4 hown4 hg4
                have hB4 : Below w3.heap.size w3 w4 := (below_alloc (below_alloc HB3.out _) _).grown hg4 (by have := HB3.out.size; simp; omega) (fun j hj => (HO3.out.lt j hj).1)
                have e4 : flat2 (l.take q) ++ [.int .i64 s.1, .int .i64 s.2] = flat2 (l.take (q + 1)) := by rw [take_snoc l q s HS.out, flat2_append]; rfl
                rw [e4] at hown4
                have HOWN4 := Lib.hid hown4
                have HB4 := Lib.hid hB4
                clear hown4 hB4 hg4 e4
                go_wp2
                go_roundw
                case rel => exact ⟨q + 1, by omega, by go_num, HB4.out, HOWN4.out⟩
                case measure => simp [intOf]; omega
              · obtain rfl : q = n := by omega
                obtain ⟨A3, c3, rfl, hc3, hm3, hrd3⟩ := Rd.of_own HO3.out
                have eql : (l.take q).length = q := List.length_take_of_le hnl
                have hP3 : Prs wr A3 (l.take q) := by
                  unfold Prs; rw [eql]; exact hrd3
                have helem : ∀ p, p ∈ l → elemB p.1 = true ∧ elemB p.2 = true := fun p hp => by
                  have := (validB_iff p).1 (List.all_eq_true.1 HVA.out p hp)
                  exact ⟨by rw [elemB_iff]; omega, this.2.2⟩
                have hcall : ∀ (x : Int), elemB x = true → ∀ W, Below wr.heap.size wr W → Calls Tryz.prog 76 #[.slice A3 q c3, .int .i64 x] W fun e w' =>
                    e = .returned (.tuple #[.int .i64 (nv x (l.take q) (q - 1) 0), .int .i64 0]) ∧ Below W.heap.size W w' := by
                  intro x hx W hW
                  have h := pointsat_any A3 c3 (l.take q) x W (hP3.below hW) (by rw [eql]; omega) (by rw [eql]; omega) (by rw [eql]; exact hc3) hx (fun p hp => helem p (List.mem_of_mem_take hp))
                    ((HND.out).sublist ((List.take_sublist q l).map _))
                  rw [eql] at h
                  exact h
                have HCALL := Lib.hid hcall
                have HEL := Lib.hid helem
                have HB0 := Lib.hid (HB.out.trans (HB3.out.mono HB.out.size))
                clear hP3 hrd3 hcall helem eql
                obtain ⟨w5, rfl⟩ : ∃ w5 : World, w5 = wr := ⟨_, rfl⟩
                by_cases hcq : c = q
                · obtain rfl := hcq
                  have hj := joinF_ok l c (by omega) (by omega) HVA.out HND.out hnl (by intro s hs; rw [List.drop_eq_nil_of_le hcap] at hs; cases hs)
                  have HJ := Lib.hid hj; clear hj
                  go_wp2_with fail
                  refine wp_loop_rounds 1 ?_
                  rw [rounds_succ]
                  have hz : ¬ ((0 : Int) < (l.length : Int) - (c : Int)) := by omega
                  go_wp2_with fail
                  refine (HCALL.out 0 rfl _ (Below.refl _ _)).mono ?_
                  rintro e w6 ⟨rfl, hb6⟩
                  have HB6 := Lib.hid hb6; clear hb6
                  go_wp2
                  go_ret2
                  rw [HJ.out]
                  exact ⟨rfl, below_trans HB0.out HB6.out⟩
                · go_wp2_with fail
                  go_loopw [17, 18, 75] (fun _ _ u75 wr => ∃ r : Nat, r ≤ l.length - q ∧ u75 = .int .i64 r ∧ Below w5.heap.size w5 wr ∧ ∀ s, s ∈ (l.drop q).take r → nv s.1 (l.take q) (q - 1) 0 = s.2) (fun _ _ u75 _ => l.length - (intOf u75).toNat)
                  case atStart => exact ⟨0, Nat.zero_le _, rfl, Below.refl _ _, by simp⟩
                  case round =>
                    obtain ⟨r, hr, rfl, hB5, hok⟩ := hrel
                    have HB5 := Lib.hid hB5; clear hB5
                    have HOK := Lib.hid hok; clear hok
                    by_cases hrl : r < l.length - q
                    · obtain ⟨s, hs⟩ := get_some l (q + r) (by omega)
                      have hsd : (l.drop q)[r]? = some s := by rw [List.getElem?_drop]; exact hs
                      obtain ⟨h1, h2⟩ := flat2_at l (q + r) s hs
                      have hc1 := kept_cell HB5.out (kept_cell HB0.out (kept_cell (Below.refl _ _) (HCE.out _ _ h1)))
                      have hc2 := kept_cell HB5.out (kept_cell HB0.out (kept_cell (Below.refl _ _) (HCE.out _ _ h2)))
                      rw [show off + (q + r) * 2 = off + q * 2 + r * 2 by omega] at hc1
                      rw [show off + ((q + r) * 2 + 1) = off + q * 2 + r * 2 + 1 by omega] at hc2
                      have hex := (HEL.out s (List.mem_of_getElem? hs)).1
                      have hca := Lib.hid (HCALL.out s.1 hex _ (below_alloc HB5.out (.cells #[.int .i64 s.1, .int .i64 s.2] 37)))
                      have HSD := Lib.hid hsd
                      clear hs hsd h1 h2 hex
                      go_wp2_with fail
                      refine hca.out.mono ?_
                      rintro e w6 ⟨rfl, hb6⟩
                      have hsz : wr.heap.size < w6.heap.size := by have := hb6.size; simp at this; omega
                      have hcy : w6.cell? ⟨wr.heap.size, 1, none⟩ = some (.int .i64 s.2) := below_cell hb6 (by simp) (by rw [World.cell?_alloc_at _ _ _ _ rfl]; rfl)
                      have hb7 := below_trans (below_alloc HB5.out _) hb6
                      have HB7 := Lib.hid hb7
                      clear hb6 hb7
                      by_cases hy : nv s.1 (l.take q) (q - 1) 0 = s.2
                      · have HY := Lib.hid hy
                        have hy' : (nv s.1 (l.take q) (q - 1) 0 == s.2) = true := by simpa using hy
                        have hy'' : (nv s.1 (l.take q) (q - 1) 0 != s.2) = false := by simpa using hy
                        clear hy
                        go_wp2
                        go_roundw
                        case rel =>
                          refine ⟨r + 1, by omega, by go_num, HB7.out, fun t ht => ?_⟩
                          rw [take_snoc _ r s HSD.out] at ht
                          rcases List.mem_append.1 ht with ht | ht
                          · exact HOK.out t ht
                          · rw [List.mem_singleton.1 ht]; exact HY.out
                        case measure => simp [intOf]; omega
                      · have hj := joinF_wrong l q (by omega) (by omega) HVA.out HND.out hnl r s HSD.out hy
                        have HJ := Lib.hid hj; clear hj
                        have hy' : (nv s.1 (l.take q) (q - 1) 0 == s.2) = false := by simpa using hy
                        have hy'' : (nv s.1 (l.take q) (q - 1) 0 != s.2) = true := by simpa using hy
                        clear hy
                        go_wp2
                        go_ret2
                        rw [HJ.out]
                        exact ⟨rfl, below_trans HB0.out HB7.out⟩
                    · have hall : ∀ s, s ∈ l.drop q → nv s.1 (l.take q) (q - 1) 0 = s.2 := by
                        have := HOK.out
                        rwa [List.take_of_length_le (by rw [List.length_drop]; omega)] at this
                      have hj := joinF_ok l q (by omega) (by omega) HVA.out HND.out hnl hall
                      have HJ := Lib.hid hj; clear hj hall
                      go_wp2_with fail
                      refine (HCALL.out 0 rfl _ HB5.out).mono ?_
                      rintro e w6 ⟨rfl, hb6⟩
                      have HB6 := Lib.hid hb6; clear hb6
                      go_wp2
                      go_ret2
                      rw [HJ.out]
                      exact ⟨rfl, below_trans HB0.out (below_trans HB5.out HB6.out)⟩
end

section
section
abbrev F := Fin 2147483647

def phi (a : Int) : F := ⟨(a % 2147483647).toNat, by omega⟩

theorem phi_add (a b : Int) : phi (a + b) = phi a + phi b := by
  apply Fin.ext
  rw [Fin.val_add]
  simp only [phi]; omega
theorem phi_sub (a b : Int) : phi (a - b) = phi a - phi b := by
  have h : phi (a - b) + phi b = phi a := by rw [← phi_add]; congr 1; omega
  rw [← h]; grind
theorem phi_mul (a b : Int) : phi (a * b) = phi a * phi b := by
  apply Fin.ext
  rw [Fin.val_mul]
  simp only [phi]
  have h0 : 0 ≤ a % 2147483647 := by omega
  have h1 : 0 ≤ b % 2147483647 := by omega
  obtain ⟨m, hm⟩ := Int.eq_ofNat_of_zero_le h0
  obtain ⟨n, hn⟩ := Int.eq_ofNat_of_zero_le h1
  rw [Int.mul_emod, hm, hn]
  simp only [Int.toNat_natCast]
  omega
theorem phi_emod (a : Int) : phi (a % 2147483647) = phi a := by
  apply Fin.ext
  simp only [phi]; omega
theorem phi_p : phi 2147483647 = 0 := rfl
theorem phi_zero : phi 0 = 0 := rfl
theorem phi_one : phi 1 = 1 := rfl
theorem phi_inj {a b : Int} (ha : 0 ≤ a) (ha' : a < 2147483647) (hb : 0 ≤ b) (hb' : b < 2147483647) (h : phi a = phi b) : a = b := by
  have := congrArg Fin.val h
  simp only [phi] at this; omega
theorem phi_mns (a b : Int) : phi (mns a b) = phi a - phi b := by
  unfold mns
  rw [phi_emod, phi_add, phi_sub, phi_p]; grind

theorem phi_inv (a : Int) (h0 : 0 < a) (h1 : a < 2147483647) : phi (invp a) * phi a = 1 := by
  rw [← phi_mul, ← phi_emod, (invp_spec a h0 h1).2.2]; rfl

theorem phi_ne {a b : Int} (ha : 0 ≤ a) (ha' : a < 2147483647) (hb : 0 ≤ b) (hb' : b < 2147483647) (h : a ≠ b) : phi a ≠ phi b := fun e => h (phi_inj ha ha' hb hb' e)

theorem phi_surj (x : F) : ∃ a : Int, 0 ≤ a ∧ a < 2147483647 ∧ phi a = x :=
  ⟨(x.val : Int), by omega, by omega, by apply Fin.ext; simp only [phi]; omega⟩

/-- In the field: an element that isn't 0 has an inverse. -/
theorem f_inv (x : F) (h : x ≠ 0) : ∃ y : F, y * x = 1 := by
  obtain ⟨a, a0, a1, rfl⟩ := phi_surj x
  have : a ≠ 0 := fun e => h (by rw [e]; rfl)
  exact ⟨_, phi_inv a (by omega) a1⟩

theorem f_cancel (x y : F) (h : x ≠ 0) (e : x * y = 0) : y = 0 := by
  obtain ⟨z, hz⟩ := f_inv x h
  have : z * (x * y) = 0 := by rw [e]; grind
  have e2 : z * (x * y) = (z * x) * y := by grind
  rw [e2, hz] at this; grind

/-- The value of a polynomial, the constant first. -/
def ev : List F → F → F
  | [], _ => 0
  | c :: l, x => ev l x * x + c

theorem phi_evp (l : List Int) (x : Int) : phi (evp l x) = ev (l.map phi) (phi x) := by
  induction l with
  | nil => rfl
  | cons c l ih => rw [evp, phi_emod, phi_add, phi_mul, ih]; rfl

/-- Divided differences. -/
def dd : List F → List F → F
  | [], _ => 0
  | _ :: _, [] => 0
  | c :: l, [a] => c + a * dd l [a]
  | _ :: l, a :: b :: T => a * dd l (a :: b :: T) + dd l (b :: T)

theorem dd_nil (S : List F) : dd [] S = 0 := by cases S <;> rfl
theorem dd_none (cs : List F) : dd cs [] = 0 := by cases cs <;> rfl
theorem dd_one (cs : List F) (x : F) : dd cs [x] = ev cs x := by
  induction cs with
  | nil => rfl
  | cons c l ih => rw [dd, ih, ev]; grind

theorem dd_step (cs : List F) (a b : F) (T : List F) : (a - b) * dd cs (a :: b :: T) = dd cs (a :: T) - dd cs (b :: T) := by
  induction cs generalizing T with
  | nil => simp only [dd_nil]; grind
  | cons c l ih =>
    cases T with
    | nil => have := ih []; simp only [dd] at *; grind
    | cons t T => have := ih (t :: T); simp only [dd] at *; grind

theorem dd_swap (cs : List F) (a b : F) (T : List F) : dd cs (a :: b :: T) = dd cs (b :: a :: T) := by
  induction cs generalizing T with
  | nil => rfl
  | cons c l ih => have h1 := ih T; have h2 := dd_step l a b T; simp only [dd]; grind

theorem dd_perm {S S' : List F} (h : S.Perm S') : ∀ cs, dd cs S = dd cs S' := by
  induction h with
  | nil => intro cs; rfl
  | swap a b l => intro cs; exact dd_swap cs b a l
  | trans _ _ h1 h2 => intro cs; exact (h1 cs).trans (h2 cs)
  | @cons a S S' hp ih =>
    intro cs
    induction cs with
    | nil => simp only [dd_nil]
    | cons c l ihl =>
      cases S with
      | nil => rw [List.nil_perm.1 hp]
      | cons s S =>
        cases S' with
        | nil => exact absurd hp (by simp)
        | cons s' S' => simp only [dd]; rw [ihl, ih l]

theorem dd_long (cs S : List F) (h : cs.length < S.length) : dd cs S = 0 := by
  induction cs generalizing S with
  | nil => exact dd_nil S
  | cons c l ih =>
    match S, h with
    | [a], h => simp at h
    | a :: b :: T, h => simp only [dd]; rw [ih (a :: b :: T) (by simp at h ⊢; omega), ih (b :: T) (by simp at h ⊢; omega)]; grind

def prd (x : F) : List F → F
  | [] => 1
  | a :: l => (x - a) * prd x l

theorem prd_append (x : F) (l m : List F) : prd x (l ++ m) = prd x l * prd x m := by
  induction l with
  | nil => simp only [List.nil_append, prd]; grind
  | cons a l ih => simp only [List.cons_append, prd, ih]; grind
end

section
def nodes (ps : List (Int × Int)) (j k : Nat) : List F := ((ps.drop j).take k).map fun p => phi p.1

theorem nodes_cons (ps : List (Int × Int)) (j k : Nat) (p : Int × Int) (h : ps[j]? = some p) : nodes ps j (k + 1) = phi p.1 :: nodes ps (j + 1) k := by
  obtain ⟨hj, rfl⟩ := List.getElem?_eq_some_iff.1 h
  unfold nodes
  rw [List.drop_eq_getElem_cons hj]; rfl

theorem nodes_snoc (ps : List (Int × Int)) (j k : Nat) (p : Int × Int) (h : ps[j + k]? = some p) : nodes ps j (k + 1) = nodes ps j k ++ [phi p.1] := by
  unfold nodes
  rw [take_snoc (ps.drop j) k p (by rw [List.getElem?_drop]; exact h)]; simp

/-- The list of a slice of points: elements of the field, different places. -/
structure Good (ps : List (Int × Int)) : Prop where
  elems : ∀ p, p ∈ ps → elemB p.1 = true ∧ elemB p.2 = true
  nodup : (ps.map (·.1)).Nodup

theorem nev_alg (f x a b u vi vj m d1 d2 d3 : F) (hu : u * (a - b) = 1) (i1 : f - vi = (x - a) * m * d1) (i2 : f - vj = m * ((x - b) * 1) * d2) (h4 : (a - b) * d3 = d1 - d2) :
    f - ((x - b) * vi - (x - a) * vj) * u = (x - a) * (m * ((x - b) * 1)) * d3 := by
  have e1 : f - ((x - b) * vi - (x - a) * vj) * u = ((x - b) * (f - vi) - (x - a) * (f - vj)) * u + f * (1 - u * (a - b)) := by grind
  rw [e1, i1, i2, hu]
  have e2 : ((x - b) * ((x - a) * m * d1) - (x - a) * (m * ((x - b) * 1) * d2)) * u + f * (1 - 1) = (x - a) * m * (x - b) * u * (d1 - d2) := by grind
  rw [e2, ← h4]
  have e3 : (x - a) * m * (x - b) * u * ((a - b) * d3) = (x - a) * m * (x - b) * (u * (a - b)) * d3 := by grind
  rw [e3, hu]; grind

theorem neville (ps : List (Int × Int)) (hg : Good ps) (C : List F) (hC : ∀ p, p ∈ ps → phi p.2 = ev C (phi p.1)) (x : Int) :
    ∀ k j, j + k < ps.length → ev C (phi x) - phi (nv x ps k j) = prd (phi x) (nodes ps j (k + 1)) * dd C (nodes ps j (k + 1) ++ [phi x]) := by
  intro k
  induction k with
  | zero =>
    intro j hj
    obtain ⟨p, hp⟩ := get_some ps j (by omega)
    have h1 := hC p (List.mem_of_getElem? hp)
    have h2 := dd_step C (phi x) (phi p.1) []
    rw [nodes_cons ps j 0 p hp]
    simp only [nv, hp, Option.getD_some, nodes, List.take_zero, List.map_nil, List.cons_append, List.nil_append, prd]
    rw [dd_one, dd_one] at h2
    rw [h1, dd_swap]
    grind
  | succ k ih =>
    intro j hj
    obtain ⟨p, hp⟩ := get_some ps j (by omega)
    obtain ⟨q, hq⟩ := get_some ps (j + (k + 1)) (by omega)
    have i1 := ih j (by omega)
    have i2 := ih (j + 1) (by omega)
    have hne : p.1 ≠ q.1 := nodup_ne hg.nodup j (j + (k + 1)) _ _ (by simp [hp]) (by simp [hq]) (by omega)
    have hpe := (elemB_iff _).1 (hg.elems p (List.mem_of_getElem? hp)).1
    have hqe := (elemB_iff _).1 (hg.elems q (List.mem_of_getElem? hq)).1
    have hm := mns_range p.1 q.1
    have hmp := mns_pos p.1 q.1 hpe.1 hpe.2 hqe.1 hqe.2 hne
    have hu := phi_inv (mns p.1 q.1) hmp hm.2
    rw [phi_mns] at hu
    have hn : phi (nv x ps (k + 1) j) = ((phi x - phi q.1) * phi (nv x ps k j) - (phi x - phi p.1) * phi (nv x ps k (j + 1))) * phi (invp (mns p.1 q.1)) := by
      simp only [nv, hp, hq, Option.getD_some, nst]
      rw [phi_emod, phi_mul, phi_mns, phi_emod, phi_emod, phi_mul, phi_mul, phi_mns, phi_mns]
    rw [nodes_cons ps j k p hp] at i1
    rw [nodes_snoc ps (j + 1) k q (by rw [show j + 1 + k = j + (k + 1) by omega]; exact hq)] at i2
    have e3 : nodes ps j (k + 1 + 1) = phi p.1 :: (nodes ps (j + 1) k ++ [phi q.1]) := by
      rw [nodes_cons ps j (k + 1) p hp, nodes_snoc ps (j + 1) k q (by rw [show j + 1 + k = j + (k + 1) by omega]; exact hq)]
    rw [e3, hn]
    generalize nodes ps (j + 1) k = M at *
    have p1 : dd C (phi p.1 :: (M ++ [phi q.1]) ++ [phi x]) = dd C (phi p.1 :: phi q.1 :: (M ++ [phi x])) := by
      apply dd_perm
      rw [List.cons_append, List.append_assoc]
      exact List.Perm.cons _ (by simp)
    have p2 : dd C (M ++ [phi q.1] ++ [phi x]) = dd C (phi q.1 :: (M ++ [phi x])) := by
      apply dd_perm
      rw [List.append_assoc]
      simp
    have h4 := dd_step C (phi p.1) (phi q.1) (M ++ [phi x])
    rw [p1]
    rw [p2, prd_append] at i2
    simp only [prd, List.cons_append] at i1 i2 ⊢
    rw [prd_append]
    simp only [prd]
    exact nev_alg _ _ _ _ _ _ _ _ _ _ _ hu i1 i2 h4

/-- Interpolation through at least as many points of a polynomial as it has coefficients gives its values. -/
theorem nv_ev (ps : List (Int × Int)) (hg : Good ps) (C : List F) (hC : ∀ p, p ∈ ps → phi p.2 = ev C (phi p.1)) (x : Int) (hl : C.length ≤ ps.length) (h0 : 0 < ps.length) :
    phi (nv x ps (ps.length - 1) 0) = ev C (phi x) := by
  have h := neville ps hg C hC x (ps.length - 1) 0 (by omega)
  have hn : (nodes ps 0 (ps.length - 1 + 1)).length = ps.length := by
    unfold nodes
    rw [List.drop_zero, List.length_map, List.length_take]; omega
  rw [dd_long C _ (by rw [List.length_append, hn]; simp; omega)] at h
  grind

theorem nv_evp (ps : List (Int × Int)) (hg : Good ps) (c : List Int) (hC : ∀ p, p ∈ ps → p.2 = evp c p.1) (x : Int) (hl : c.length ≤ ps.length) (h0 : 0 < ps.length) :
    nv x ps (ps.length - 1) 0 = evp c x := by
  have h := nv_ev ps hg (c.map phi) (fun p hp => by rw [← phi_evp, ← hC p hp]) x (by simpa using hl) h0
  rw [← phi_evp] at h
  have r1 := nv_range x ps hg.elems (ps.length - 1) 0
  have r2 := evp_range c x
  exact phi_inj r1.1 r1.2 r2.1 r2.2 h

/-! ### interpolation exists -/
def addP : List F → List F → List F
  | [], m => m
  | a :: l, [] => a :: l
  | a :: l, b :: m => (a + b) :: addP l m
theorem ev_addP (l m : List F) (x : F) : ev (addP l m) x = ev l x + ev m x := by
  induction l generalizing m with
  | nil => simp only [addP, ev]; grind
  | cons a l ih =>
    cases m with
    | nil => simp only [addP, ev]; grind
    | cons b m => simp only [addP, ev, ih]; grind
theorem length_addP (l m : List F) (n : Nat) (h1 : l.length ≤ n) (h2 : m.length ≤ n) : (addP l m).length ≤ n := by
  induction l generalizing m n with
  | nil => exact h2
  | cons a l ih =>
    cases m with
    | nil => exact h1
    | cons b m =>
      cases n with
      | zero => simp at h1
      | succ n => simp only [addP, List.length_cons] at *; have := ih m n (by omega) (by omega); omega
theorem ev_smul (c : F) (l : List F) (x : F) : ev (l.map (c * ·)) x = c * ev l x := by
  induction l with
  | nil => simp only [List.map_nil, ev]; grind
  | cons a l ih => simp only [List.map_cons, ev, ih]; grind

/-- The polynomial that is zero at the nodes. -/
def zeroP : List F → List F
  | [] => [1]
  | a :: S => addP (0 :: zeroP S) ((zeroP S).map ((-a) * ·))
theorem ev_zeroP (S : List F) (x : F) : ev (zeroP S) x = prd x S := by
  induction S with
  | nil => simp only [zeroP, ev, prd]; grind
  | cons a S ih => simp only [zeroP, ev_addP, ev_smul, ev, ih, prd]; grind
theorem length_zeroP (S : List F) : (zeroP S).length ≤ S.length + 1 := by
  induction S with
  | nil => simp [zeroP]
  | cons a S ih =>
    simp only [zeroP, List.length_cons]
    exact length_addP _ _ _ (by simp; omega) (by simp; omega)
theorem prd_ne (x : F) (S : List F) (h : ∀ a, a ∈ S → x ≠ a) : prd x S ≠ 0 := by
  induction S with
  | nil => simp only [prd]; decide
  | cons a S ih =>
    intro e
    simp only [prd] at e
    have h1 : x - a ≠ 0 := fun h0 => h a (by simp) (by grind)
    exact ih (fun b hb => h b (by simp [hb])) (f_cancel _ _ h1 e)
theorem prd_zero (x : F) (S : List F) (h : x ∈ S) : prd x S = 0 := by
  induction S with
  | nil => cases h
  | cons a S ih =>
    simp only [prd]
    rcases List.mem_cons.1 h with rfl | h
    · grind
    · rw [ih h]; grind

theorem interp_exists (ps : List (F × F)) (hnd : (ps.map (·.1)).Nodup) : ∃ C : List F, C.length ≤ ps.length ∧ ∀ p, p ∈ ps → ev C p.1 = p.2 := by
  induction ps with
  | nil => exact ⟨[], by simp, by simp⟩
  | cons p ps ih =>
    rw [List.map_cons, List.nodup_cons] at hnd
    obtain ⟨C, hl, hC⟩ := ih hnd.2
    have hne : prd p.1 (ps.map (·.1)) ≠ 0 := prd_ne _ _ fun a ha e => hnd.1 (e ▸ ha)
    obtain ⟨u, hu⟩ := f_inv _ hne
    refine ⟨addP C ((zeroP (ps.map (·.1))).map (((p.2 - ev C p.1) * u) * ·)), length_addP _ _ _ (by simp; omega) (by have := length_zeroP (ps.map (·.1)); simp at this ⊢; omega), ?_⟩
    intro q hq
    rw [ev_addP, ev_smul, ev_zeroP]
    rcases List.mem_cons.1 hq with rfl | hq
    · grind
    · rw [hC q hq, prd_zero _ _ (List.mem_map_of_mem hq)]; grind
end

section
/-- A list of shares of the polynomial p at different places. -/
structure On (p : List Int) (l : List (Int × Int)) : Prop where
  place : ∀ s, s ∈ l → 1 ≤ s.1 ∧ s.1 ≤ 16
  value : ∀ s, s ∈ l → s.2 = evp p s.1
  nodup : (l.map (·.1)).Nodup

theorem On.valid {p : List Int} {l : List (Int × Int)} (h : On p l) : l.all validB = true := by
  rw [List.all_eq_true]
  intro s hs
  rw [validB_iff, elemB_iff, h.value s hs]
  have := h.place s hs
  have := evp_range p s.1
  omega

theorem good_of (l : List (Int × Int)) (hv : l.all validB = true) (hn : (l.map (·.1)).Nodup) : Good l :=
  ⟨fun s hs => by
    have := (validB_iff s).1 (List.all_eq_true.1 hv s hs)
    exact ⟨by rw [elemB_iff]; omega, this.2.2⟩, hn⟩

theorem Good.take {l : List (Int × Int)} (h : Good l) (n : Nat) : Good (l.take n) :=
  ⟨fun s hs => h.elems s (List.mem_of_mem_take hs), h.nodup.sublist ((List.take_sublist n l).map _)⟩

theorem On.good {p : List Int} {l : List (Int × Int)} (h : On p l) : Good l := good_of l h.valid h.nodup

theorem On.sublist {p : List Int} {l m : List (Int × Int)} (h : On p l) (hs : m.Sublist l) : On p m :=
  ⟨fun s hm => h.place s (hs.mem hm), fun s hm => h.value s (hs.mem hm), h.nodup.sublist (hs.map _)⟩

theorem On.nv_take {p : List Int} {l : List (Int × Int)} (h : On p l) (hp : p.length ≤ l.length) (h0 : 0 < l.length) (x : Int) : nv x l (l.length - 1) 0 = evp p x :=
  nv_evp l h.good p h.value x hp h0

/-- Enough shares are joined to the constant. -/
theorem joinF_on (p : List Int) (n : Nat) (l : List (Int × Int)) (h : On p l) (hn : 1 ≤ n) (hn' : n ≤ 16) (hp : p.length ≤ n) (hl : n ≤ l.length) : joinF l n = (evp p 0, 0) := by
  have ht : (l.take n).length = n := List.length_take_of_le hl
  have hv : ∀ x, nv x (l.take n) (n - 1) 0 = evp p x := by
    intro x
    have := (h.sublist (List.take_sublist n l)).nv_take (by omega) (by omega) x
    rwa [ht] at this
  rw [joinF_ok l n hn hn' h.valid h.nodup hl (fun s hs => by rw [hv, h.value s (List.mem_of_mem_drop hs)]), hv]

theorem joinF_on_few (p : List Int) (n : Nat) (l : List (Int × Int)) (h : On p l) (hn : 1 ≤ n) (hn' : n ≤ 16) (hl : l.length < n) : joinF l n = (0, 25) :=
  joinF_few l n (by omega) (by omega) h.valid h.nodup (by omega)

/-- More than enough shares, one of them with another value: ErrProof. -/
theorem joinF_on_wrong (p : List Int) (n : Nat) (l : List (Int × Int)) (h : On p l) (hn : 1 ≤ n) (hn' : n ≤ 16) (hp : p.length ≤ n) (hl : n < l.length)
    (k : Nat) (s : Int × Int) (hs : l[k]? = some s) (y : Int) (y0 : 0 ≤ y) (y1 : y < 2147483647) (hy : y ≠ s.2) : joinF (l.set k (s.1, y)) n = (0, 24) := by
  have hk : k < l.length := (List.getElem?_eq_some_iff.1 hs).1
  have hsm := List.mem_of_getElem? hs
  have hmap : (l.set k (s.1, y)).map (·.1) = l.map (·.1) := by
    apply List.ext_getElem?
    intro i
    by_cases hi : i = k
    · subst hi
      rw [List.getElem?_map, List.getElem?_map, hs, List.getElem?_set_self hk]; rfl
    · rw [List.getElem?_map, List.getElem?_map, List.getElem?_set_ne (fun e => hi e.symm)]
  have hv : (l.set k (s.1, y)).all validB = true := by
    rw [List.all_eq_true]
    intro t ht
    rcases List.mem_or_eq_of_mem_set ht with ht | rfl
    · exact List.all_eq_true.1 h.valid t ht
    · have hp := h.place s hsm
      rw [validB_iff, elemB_iff]; simp only; omega
  have hnd : ((l.set k (s.1, y)).map (·.1)).Nodup := by rw [hmap]; exact h.nodup
  have hg := good_of _ hv hnd
  have hlen : (l.set k (s.1, y)).length = l.length := by simp
  have hgk : (l.set k (s.1, y))[k]? = some (s.1, y) := by simp [hk]
  by_cases hall : ∀ t, t ∈ (l.set k (s.1, y)).drop n → nv t.1 ((l.set k (s.1, y)).take n) (n - 1) 0 = t.2
  · exfalso
    generalize hl' : l.set k (s.1, y) = l' at *
    have ht : (l'.take n).length = n := List.length_take_of_le (by omega)
    have hphi : (((l'.take n).map fun p => (phi p.1, phi p.2)).map (·.1)).Nodup := by
      have e : ((l'.take n).map fun p => (phi p.1, phi p.2)).map (·.1) = ((l'.take n).map (·.1)).map phi := by rw [List.map_map, List.map_map]; rfl
      rw [e]
      refine List.pairwise_map.2 (List.Pairwise.imp_of_mem ?_ (hg.take n).nodup)
      intro a b ha hb hab
      obtain ⟨pa, hpa, rfl⟩ := List.mem_map.1 ha
      obtain ⟨pb, hpb, rfl⟩ := List.mem_map.1 hb
      have r1 := (elemB_iff _).1 ((hg.take n).elems pa hpa).1
      have r2 := (elemB_iff _).1 ((hg.take n).elems pb hpb).1
      exact phi_ne r1.1 r1.2 r2.1 r2.2 hab
    obtain ⟨C, hCl, hC⟩ := interp_exists _ hphi
    have hCt : ∀ t, t ∈ l'.take n → phi t.2 = ev C (phi t.1) := fun t ht => (hC _ (List.mem_map_of_mem (f := fun p : Int × Int => (phi p.1, phi p.2)) ht)).symm
    have hnv : ∀ x, phi (nv x (l'.take n) (n - 1) 0) = ev C (phi x) := by
      intro x
      have := nv_ev (l'.take n) (hg.take n) C hCt x (by simpa using hCl) (by omega)
      rwa [ht] at this
    have hCall : ∀ t, t ∈ l' → phi t.2 = ev C (phi t.1) := by
      intro t ht'
      rw [← List.take_append_drop n l'] at ht'
      rcases List.mem_append.1 ht' with h1 | h1
      · exact hCt t h1
      · rw [← hnv, hall t h1]
    -- the others, which lie on p too
    have hsub : ((l'.eraseIdx k).take n).Sublist l' := (List.take_sublist _ _).trans (List.eraseIdx_sublist _ _)
    have hql : ((l'.eraseIdx k).take n).length = n := by
      rw [List.length_take_of_le]; rw [List.length_eraseIdx_of_lt (by omega)]; omega
    have hqon : ∀ t, t ∈ (l'.eraseIdx k).take n → t.2 = evp p t.1 := by
      intro t ht'
      have hm := List.mem_of_mem_take ht'
      obtain ⟨i, hi⟩ := List.getElem?_of_mem hm
      rw [List.getElem?_eraseIdx] at hi
      rw [← hl'] at hi
      split at hi
      · rw [List.getElem?_set_ne (by omega)] at hi
        exact h.value t (List.mem_of_getElem? hi)
      · rw [List.getElem?_set_ne (by omega)] at hi
        exact h.value t (List.mem_of_getElem? hi)
    have hqg : Good ((l'.eraseIdx k).take n) := ⟨fun t ht => hg.elems t (hsub.mem ht), hg.nodup.sublist (hsub.map _)⟩
    have h1 := nv_evp _ hqg p hqon s.1 (by omega) (by omega)
    have h2 := nv_ev _ hqg C (fun t ht => hCall t (hsub.mem ht)) s.1 (by rw [hql]; rw [List.length_map, ht] at hCl; exact hCl) (by omega)
    rw [h1] at h2
    have h3 := hCall (s.1, y) (List.mem_of_getElem? hgk)
    simp only at h3
    rw [← h2, ← h.value s hsm] at h3
    have hr := evp_range p s.1
    rw [← h.value s hsm] at hr
    exact hy (phi_inj y0 y1 hr.1 hr.2 h3)
  · obtain ⟨t, ht⟩ := Classical.not_forall.1 hall
    have ht1 : t ∈ (l.set k (s.1, y)).drop n := Classical.byContradiction fun e => ht fun h' => absurd h' e
    have ht2 : ¬ nv t.1 ((l.set k (s.1, y)).take n) (n - 1) 0 = t.2 := fun e => ht fun _ => e
    obtain ⟨i, hi⟩ := List.getElem?_of_mem ht1
    exact joinF_wrong _ n hn hn' hv hnd (by omega) i t hi ht2
end
end

section
open Go.RowKit

theorem good_phi {l : List (Int × Int)} (hg : Good l) : ((l.map fun p => (phi p.1, phi p.2)).map (·.1)).Nodup := by
  have e : (l.map fun p => (phi p.1, phi p.2)).map (·.1) = (l.map (·.1)).map phi := by rw [List.map_map, List.map_map]; rfl
  rw [e]
  refine List.pairwise_map.2 (List.Pairwise.imp_of_mem ?_ hg.nodup)
  intro a b ha hb hab
  obtain ⟨pa, hpa, rfl⟩ := List.mem_map.1 ha
  obtain ⟨pb, hpb, rfl⟩ := List.mem_map.1 hb
  have r1 := (elemB_iff _).1 (hg.elems pa hpa).1
  have r2 := (elemB_iff _).1 (hg.elems pb hpb).1
  exact phi_ne r1.1 r1.2 r2.1 r2.2 hab

/-- The shares lie on a polynomial of the field. -/
def OnC (C : List F) (l : List (Int × Int)) : Prop := ∀ s, s ∈ l → phi s.2 = ev C (phi s.1)

theorem onC_nv {l : List (Int × Int)} {n : Nat} (hg : Good l) (hn : 1 ≤ n) (hl : n ≤ l.length) {C : List F} (hC : C.length ≤ n) (h : OnC C (l.take n)) (x : Int) :
    phi (nv x (l.take n) (n - 1) 0) = ev C (phi x) := by
  have ht : (l.take n).length = n := List.length_take_of_le hl
  have := nv_ev (l.take n) (hg.take n) C h x (by omega) (by omega)
  rwa [ht] at this

theorem joinF_onC {l : List (Int × Int)} {n : Nat} (hv : l.all validB = true) (hnd : (l.map (·.1)).Nodup) (hn : 1 ≤ n) (hn' : n ≤ 16) (hl : n ≤ l.length) {C : List F} (hC : C.length ≤ n) (h : OnC C l) :
    joinF l n = (nv 0 (l.take n) (n - 1) 0, 0) := by
  have hg := good_of l hv hnd
  refine joinF_ok l n hn hn' hv hnd hl (fun s hs => ?_)
  have h1 := onC_nv hg hn hl hC (fun s hs => h s (List.mem_of_mem_take hs)) s.1
  have hsl := List.mem_of_mem_drop hs
  rw [← h s hsl] at h1
  have r1 := nv_range s.1 (l.take n) (hg.take n).elems (n - 1) 0
  have r2 := (elemB_iff _).1 (hg.elems s hsl).2
  exact phi_inj r1.1 r1.2 r2.1 r2.2 h1

theorem onC_of {l : List (Int × Int)} {n : Nat} (hg : Good l) (hn : 1 ≤ n) (hl : n ≤ l.length) (hw : ∀ s, s ∈ l.drop n → nv s.1 (l.take n) (n - 1) 0 = s.2) : ∃ C : List F, C.length ≤ n ∧ OnC C l := by
  obtain ⟨C, hCl, hC⟩ := interp_exists _ (good_phi (hg.take n))
  have hct : OnC C (l.take n) := fun t ht => (hC _ (List.mem_map_of_mem (f := fun p : Int × Int => (phi p.1, phi p.2)) ht)).symm
  have hcn : C.length ≤ n := by rw [List.length_map, List.length_take] at hCl; omega
  refine ⟨C, hcn, fun s hs => ?_⟩
  rw [← List.take_append_drop n l] at hs
  rcases List.mem_append.1 hs with h1 | h1
  · exact hct s h1
  · rw [← onC_nv hg hn hl hcn hct, hw s h1]

theorem joinF_perm {l m : List (Int × Int)} (h : l.Perm m) (need : Int) : joinF l need = joinF m need := by
  by_cases hneed : need < 1 ∨ 16 < need
  · rw [joinF_need l need hneed, joinF_need m need hneed]
  have hn1 : 1 ≤ need := by omega
  have hn16 : need ≤ 16 := by omega
  have hall : l.all validB = m.all validB := by
    rw [Bool.eq_iff_iff, List.all_eq_true, List.all_eq_true]
    exact ⟨fun k s hs => k s (h.mem_iff.2 hs), fun k s hs => k s (h.mem_iff.1 hs)⟩
  cases hv : l.all validB
  · rw [joinF_bad l need hn1 hn16 hv, joinF_bad m need hn1 hn16 (by rw [← hall]; exact hv)]
  have hv' : m.all validB = true := by rw [← hall]; exact hv
  have hnd : (l.map (·.1)).Nodup ↔ (m.map (·.1)).Nodup := (h.map _).nodup_iff
  by_cases hd : (l.map (·.1)).Nodup
  case neg => rw [joinF_dup l need hn1 hn16 hv hd, joinF_dup m need hn1 hn16 hv' (fun k => hd (hnd.2 k))]
  have hd' := hnd.1 hd
  have hlen := h.length_eq
  by_cases hfew : (l.length : Int) < need
  · rw [joinF_few l need hn1 hn16 hv hd hfew, joinF_few m need hn1 hn16 hv' hd' (by omega)]
  obtain ⟨n, rfl⟩ := Int.eq_ofNat_of_zero_le (show 0 ≤ need by omega)
  have hgl := good_of l hv hd
  have hgm := good_of m hv' hd'
  -- on one polynomial, in whatever order
  have key : ∀ (a b : List (Int × Int)), a.Perm b → a.all validB = true → b.all validB = true → (a.map (·.1)).Nodup → (b.map (·.1)).Nodup → n ≤ a.length → n ≤ b.length →
      (∀ s, s ∈ a.drop n → nv s.1 (a.take n) (n - 1) 0 = s.2) → joinF a n = joinF b n := by
    intro a b hab va vb da db la lb hw
    obtain ⟨C, hC, hon⟩ := onC_of (good_of a va da) (by omega) la hw
    have honb : OnC C b := fun s hs => hon s (hab.mem_iff.2 hs)
    rw [joinF_onC va da (by omega) (by omega) la hC hon, joinF_onC vb db (by omega) (by omega) lb hC honb]
    have h1 := onC_nv (good_of a va da) (by omega) la hC (fun s hs => hon s (List.mem_of_mem_take hs)) 0
    have h2 := onC_nv (good_of b vb db) (by omega) lb hC (fun s hs => honb s (List.mem_of_mem_take hs)) 0
    have r1 := nv_range 0 (a.take n) ((good_of a va da).take n).elems (n - 1) 0
    have r2 := nv_range 0 (b.take n) ((good_of b vb db).take n).elems (n - 1) 0
    rw [phi_inj r1.1 r1.2 r2.1 r2.2 (h1.trans h2.symm)]
  by_cases hw : ∀ s, s ∈ l.drop n → nv s.1 (l.take n) (n - 1) 0 = s.2
  · exact key l m h hv hv' hd hd' (by omega) (by omega) hw
  by_cases hw' : ∀ s, s ∈ m.drop n → nv s.1 (m.take n) (n - 1) 0 = s.2
  · exact (key m l h.symm hv' hv hd' hd (by omega) (by omega) hw').symm
  have bad : ∀ (a : List (Int × Int)), a.all validB = true → (a.map (·.1)).Nodup → n ≤ a.length → ¬ (∀ s, s ∈ a.drop n → nv s.1 (a.take n) (n - 1) 0 = s.2) → joinF a n = (0, 24) := by
    intro a va da la hno
    obtain ⟨t, ht⟩ := Classical.not_forall.1 hno
    have ht1 : t ∈ a.drop n := Classical.byContradiction fun e => ht fun h' => absurd h' e
    have ht2 : ¬ nv t.1 (a.take n) (n - 1) 0 = t.2 := fun e => ht fun _ => e
    obtain ⟨i, hi⟩ := List.getElem?_of_mem ht1
    exact joinF_wrong a n (by omega) (by omega) va da la i t hi ht2
  rw [bad l hv hd (by omega) hw, bad m hv' hd' (by omega) hw']
end

section
open Go.RowKit Go.Maps

def shD (a b : Int) : DataW Unit := .agg [.lit (.int .i64 a), .lit (.int .i64 b)]
def shR (v : Value) : Option (DataW Unit × List MemPlace) :=
  match v with
  | .agg ⟨[.int .i64 a, .int .i64 b]⟩ => some (shD a b, [])
  | _ => none
theorem shR_mk (a b : Int) : shR (.agg #[.int .i64 a, .int .i64 b]) = some (shD a b, []) := rfl
theorem shR_inv {v : Value} {a b : Int} {ps : List MemPlace} (h : shR v = some (shD a b, ps)) : v = .agg #[.int .i64 a, .int .i64 b] := by
  unfold shR at h
  split at h
  · next x y =>
    simp only [Option.some.injEq, Prod.mk.injEq, shD, DataW.agg.injEq, List.cons.injEq, DataW.lit.injEq, Lit.int.injEq, true_and, and_true] at h
    obtain ⟨⟨rfl, rfl⟩, -⟩ := h
    rfl
  · cases h

/-- The share with a given place, among those offered. -/
def fnd (S : List (Int × Int)) (y : Int) : Option (Int × Int) := S.find? (fun s => s.1 == y)
theorem fnd_none {S : List (Int × Int)} {y : Int} : fnd S y = none ↔ y ∉ S.map (·.1) := by
  unfold fnd
  rw [List.find?_eq_none]
  constructor
  · intro h hm
    obtain ⟨s, hs, rfl⟩ := List.mem_map.1 hm
    exact h s hs (by simp)
  · intro h s hs he
    exact h (List.mem_map.2 ⟨s, hs, by simpa using he⟩)
theorem fnd_some {S : List (Int × Int)} {y : Int} {s : Int × Int} (h : fnd S y = some s) : s ∈ S ∧ s.1 = y := by
  unfold fnd at h
  exact ⟨List.mem_of_find?_eq_some h, by have := List.find?_some h; simpa using this⟩
theorem fnd_snoc (S : List (Int × Int)) (s : Int × Int) (y : Int) : fnd (S ++ [s]) y = (fnd S y).or (if s.1 = y then some s else none) := by
  unfold fnd
  rw [List.find?_append]
  congr 1
  by_cases h : s.1 = y
  · rw [if_pos h]; simp [h]
  · rw [if_neg h]; simp [h]

def Offs (w : World) (B n : Nat) (S : List (Int × Int)) : Prop :=
  ∃ D : DataW Unit, w.ownsMap Tryz.prog 3 shR B n D ∧ IsMap D ∧ (∀ y : Int, Maps.has D (.int .i64 y) = (fnd S y).isSome) ∧ ∀ (y : Int) (z : DataW Unit), D.atKey (.int .i64 y) z = match fnd S y with | some s => shD s.1 s.2 | none => z

theorem intKeyedO : Keyed Tryz.prog 3 := int_keyed Tryz.underlying3

theorem Offs.made (w : World) : Offs (w.alloc (.map #[] 0)) w.heap.size 0 [] :=
  ⟨_, World.ownsMap_made _ _ _ _, ⟨[], rfl⟩, fun y => rfl, fun y z => rfl⟩
theorem Offs.kept {w w' : World} {B n : Nat} {S : List (Int × Int)} (h : Offs w B n S) (hb : w'.heap[B]? = w.heap[B]?) : Offs w' B n S := by
  obtain ⟨D, ⟨es, clock, h1, h2⟩, h3⟩ := h
  exact ⟨D, ⟨es, clock, hb.trans h1, h2⟩, h3⟩
theorem Offs.lt {w : World} {B n : Nat} {S : List (Int × Int)} (h : Offs w B n S) : B < w.heap.size := by
  obtain ⟨D, h1, _⟩ := h
  exact h1.lt
theorem Offs.below {w w' : World} {B n : Nat} {S : List (Int × Int)} (h : Offs w B n S) (hb : Below w.heap.size w w') : Offs w' B n S := h.kept (hb.block B h.lt)

theorem zeroShare (w : World) : (zeroValue 37).run Tryz.prog w = .ok (.agg #[.int .i64 0, .int .i64 0]) w := by kernel_rfl

set_option maxRecDepth 100000 in
theorem Offs.look {w : World} {B n : Nat} {S : List (Int × Int)} (h : Offs w B n S) (y : Int) (hy : (Lit.int .i64 y).wf = true) :
    (Instr.lookup 82 (.map (some B)) (.int .i64 y) true).run Tryz.prog w = .ok (.tuple #[match fnd S y with | some s => .agg #[.int .i64 s.1, .int .i64 s.2] | none => .agg #[.int .i64 0, .int .i64 0], .bool (fnd S y).isSome]) w := by
  obtain ⟨D, h1, h2, h3, h4⟩ := h
  obtain ⟨v, ps, hr, hv⟩ := h1.look_ok intKeyedO Tryz.underlying82 (zeroShare w) (shR_mk 0 0) (keyOf_int_mk Tryz.underlying3 hy)
  rw [h4] at hv
  rw [hr, h3]
  congr 4
  cases hf : fnd S y with
  | none => rw [hf] at hv; exact shR_inv hv
  | some s => rw [hf] at hv; exact shR_inv hv

set_option maxRecDepth 100000 in
theorem Offs.put {w : World} {B n : Nat} {S : List (Int × Int)} (h : Offs w B n S) (s : Int × Int) (hy : (Lit.int .i64 s.1).wf = true) (hn : n < 100000) (hno : fnd S s.1 = none) :
    ∃ w', (Instr.mapUpdate 82 (.map (some B)) (.int .i64 s.1) (.agg #[.int .i64 s.1, .int .i64 s.2])).run Tryz.prog w = .ok () w' ∧ Offs w' B (n + 1) (S ++ [s]) ∧ w.grownBy w' (some B) := by
  obtain ⟨D, h1, h2, h3, h4⟩ := h
  obtain ⟨w', hr, ho, hg⟩ := h1.update intKeyedO Tryz.underlying82 (by unfold maxLen; omega) (keyOf_int_mk Tryz.underlying3 hy) (shR_mk s.1 s.2)
  refine ⟨w', hr, ⟨_, ho, ?_, ?_, ?_⟩, hg⟩
  · obtain ⟨es, rfl⟩ := h2
    exact ⟨_, rfl⟩
  · intro y
    rw [fnd_snoc]
    by_cases hys : y = s.1
    · subst hys
      rw [has_put_same h2 (by trivial), hno]; simp
    · rw [has_put_other (by simpa using hys), h3 y, if_neg (fun e => hys e.symm), Option.or_none]
  · intro y z
    rw [fnd_snoc]
    by_cases hys : y = s.1
    · subst hys
      rw [atKey_put_same h2 (by trivial), hno]; simp
    · rw [atKey_put_other (by simpa using hys), h4 y z, if_neg (fun e => hys e.symm), Option.or_none]
end

section
open Go.RowKit

def bNode : ByteArray := ⟨#[110, 111, 100, 101]⟩
def bLeaf : ByteArray := ⟨#[108, 101, 97, 102]⟩
def bEmpty : ByteArray := ⟨#[101, 109, 112, 116, 121]⟩
/-- The joined text of a list. -/
def jb (l : List ByteArray) : ByteArray := ⟨(jn l).toArray⟩
def nd (a b : ByteArray) : ByteArray := dg (jb [bNode, a, b])
def lf (s : ByteArray) : ByteArray := dg (jb [bLeaf, s])
def em : ByteArray := dg (jb [bEmpty])

/-! ### half -/
def hf (n : Nat) : Nat := if n ≤ 1 then 1 else 2 ^ Nat.log2 (n - 1)
theorem hf_pos (n : Nat) : 1 ≤ hf n := by
  unfold hf; split
  · exact Nat.le_refl _
  · exact Nat.one_le_two_pow
theorem hf_lt (n : Nat) (h : 2 ≤ n) : hf n < n := by
  unfold hf
  rw [if_neg (by omega)]
  have := Nat.log2_self_le (n := n - 1) (by omega)
  omega
theorem hf_le (n : Nat) : n ≤ 2 * hf n := by
  unfold hf
  split
  · omega
  · have := Nat.lt_log2_self (n := n - 1)
    rw [Nat.pow_succ] at this
    omega
theorem hf_eq (n j : Nat) (h1 : 2 ^ j < n ∨ j = 0) (h2 : n ≤ 2 * 2 ^ j) : hf n = 2 ^ j := by
  unfold hf
  split
  · rcases h1 with h1 | rfl
    · have := Nat.one_le_two_pow (n := j); omega
    · rfl
  · rename_i hn
    congr 1
    apply (Nat.log2_eq_iff (by omega)).2
    rw [Nat.pow_succ]
    rcases h1 with h1 | rfl
    · omega
    · simp at h2 ⊢; omega
theorem hf_mid (n m : Nat) (h1 : hf n < m) (h2 : m ≤ n) : hf m = hf n := by
  have h3 := hf_le n
  have h4 : ∃ j, hf n = 2 ^ j := by
    unfold hf; split
    · exact ⟨0, rfl⟩
    · exact ⟨_, rfl⟩
  obtain ⟨j, hj⟩ := h4
  rw [hj] at h1 h3 ⊢
  exact hf_eq m j (.inl h1) (by omega)

/-! ### the root -/
def rt (l : List ByteArray) : ByteArray :=
  if _h : 2 ≤ l.length then nd (rt (l.take (hf l.length))) (rt (l.drop (hf l.length))) else l.headD em
termination_by l.length
decreasing_by
  all_goals
    have h1 := hf_lt l.length _h
    have h2 := hf_pos l.length
    simp only [List.length_take, List.length_drop]; omega
theorem rt_two (l : List ByteArray) (h : 2 ≤ l.length) : rt l = nd (rt (l.take (hf l.length))) (rt (l.drop (hf l.length))) := by rw [rt, dif_pos h]
theorem rt_one (x : ByteArray) : rt [x] = x := by rw [rt, dif_neg (by simp)]; rfl
theorem rt_nil : rt [] = em := by rw [rt, dif_neg (by simp)]; rfl
theorem rt_split (l : List ByteArray) (k : Nat) (h : 2 ≤ l.length) (hk : hf l.length = k) : rt l = nd (rt (l.take k)) (rt (l.drop k)) := by rw [rt_two l h, hk]

def allD (l : List ByteArray) : Bool := l.all isD
theorem allD_take {l : List ByteArray} (h : allD l = true) (k : Nat) : allD (l.take k) = true := by
  simp only [allD, List.all_eq_true] at h ⊢
  exact fun x hx => h x (List.mem_of_mem_take hx)
theorem allD_drop {l : List ByteArray} (h : allD l = true) (k : Nat) : allD (l.drop k) = true := by
  simp only [allD, List.all_eq_true] at h ⊢
  exact fun x hx => h x (List.mem_of_mem_drop hx)
theorem isD_nd (a b : ByteArray) : isD (nd a b) = true := isD_dg _
theorem isD_em : isD em = true := isD_dg _
theorem isD_rt (l : List ByteArray) (h : allD l = true) : isD (rt l) = true := by
  by_cases h2 : 2 ≤ l.length
  · rw [rt_two l h2]; exact isD_nd _ _
  · match l, h2 with
    | [], _ => rw [rt_nil]; exact isD_em
    | [x], _ => rw [rt_one]; simpa [allD] using h
    | x :: y :: l, h2 => simp at h2
theorem isD_16 {s : ByteArray} (h : isD s = true) : s.size = 16 := by
  rcases Nat.decEq s.size 16 with h2 | h2
  · exfalso
    simp [isD, h2] at h
  · exact h2

/-! ### the strings that are digested -/
def Col (T : List ByteArray) : Prop := ∃ x ∈ T, ∃ y ∈ T, x ≠ y ∧ dg x = dg y
theorem Col.mono {T U : List ByteArray} (h : Col T) (hs : ∀ x, x ∈ T → x ∈ U) : Col U := by
  obtain ⟨x, hx, y, hy, h⟩ := h
  exact ⟨x, hs x hx, y, hs y hy, h⟩
def txt (l : List ByteArray) : List ByteArray :=
  if _h : 2 ≤ l.length then txt (l.take (hf l.length)) ++ txt (l.drop (hf l.length)) ++ [jb [bNode, rt (l.take (hf l.length)), rt (l.drop (hf l.length))]]
  else if l.length = 0 then [jb [bEmpty]] else []
termination_by l.length
decreasing_by
  all_goals
    have h1 := hf_lt l.length _h
    have h2 := hf_pos l.length
    simp only [List.length_take, List.length_drop]; omega
theorem txt_two (l : List ByteArray) (h : 2 ≤ l.length) : txt l = txt (l.take (hf l.length)) ++ txt (l.drop (hf l.length)) ++ [jb [bNode, rt (l.take (hf l.length)), rt (l.drop (hf l.length))]] := by rw [txt, dif_pos h]
theorem txt_one (x : ByteArray) : txt [x] = [] := by rw [txt, dif_neg (by simp), if_neg (by simp)]
theorem txt_nil : txt [] = [jb [bEmpty]] := by rw [txt, dif_neg (by simp), if_pos (by simp)]

theorem jb_inj {l m : List ByteArray} (h : jb l = jb m) : l = m := (jn_ba l m).1 h
/-- Two nodes with one digest: their parts are equal, or their strings collide. -/
theorem nd_bind (a b c d : ByteArray) (T : List ByteArray) (h : nd a b = nd c d) (h1 : jb [bNode, a, b] ∈ T) (h2 : jb [bNode, c, d] ∈ T) : (a = c ∧ b = d) ∨ Col T := by
  by_cases e : jb [bNode, a, b] = jb [bNode, c, d]
  · have := jb_inj e
    simp only [List.cons.injEq, and_true, true_and] at this
    exact .inl this
  · exact .inr ⟨_, h1, _, h2, e, h⟩

theorem roots_bind (a b : List ByteArray) (hl : a.length = b.length) (h : rt a = rt b) : a = b ∨ Col (txt a ++ txt b) := by
  obtain ⟨n, hn⟩ : ∃ n, a.length = n := ⟨_, rfl⟩
  induction n using Nat.strongRecOn generalizing a b with
  | _ n ih =>
    by_cases h2 : 2 ≤ a.length
    · have hb2 : 2 ≤ b.length := by omega
      obtain ⟨k, hk⟩ : ∃ k, hf a.length = k := ⟨_, rfl⟩
      have hkb : hf b.length = k := by rw [← hl]; exact hk
      have k1 := hf_lt a.length h2
      have k2 := hf_pos a.length
      rw [rt_two a h2, rt_two b hb2, hk, hkb] at h
      rw [txt_two a h2, txt_two b hb2, hk, hkb]
      rcases nd_bind _ _ _ _ _ h (List.mem_append.2 (.inl (List.mem_append.2 (.inr List.mem_cons_self)))) (List.mem_append.2 (.inr (List.mem_append.2 (.inr List.mem_cons_self)))) with ⟨e1, e2⟩ | hc
      · rcases ih (a.take k).length (by rw [List.length_take]; omega) (a.take k) (b.take k) (by rw [List.length_take, List.length_take]; omega) e1 rfl with f1 | hc
        · rcases ih (a.drop k).length (by rw [List.length_drop]; omega) (a.drop k) (b.drop k) (by rw [List.length_drop, List.length_drop]; omega) e2 rfl with f2 | hc
          · left
            rw [← List.take_append_drop k a, f1, f2, List.take_append_drop]
          · right
            exact hc.mono (fun x hx => by simp only [List.mem_append] at hx ⊢; rcases hx with hx | hx <;> simp [hx])
        · right
          exact hc.mono (fun x hx => by simp only [List.mem_append] at hx ⊢; rcases hx with hx | hx <;> simp [hx])
      · exact .inr hc
    · match a, b, hl, h2, h with
      | [], [], _, _, _ => exact .inl rfl
      | [x], [y], _, _, h => rw [rt_one, rt_one] at h; exact .inl (by rw [h])
      | x :: y :: l, _, _, h2, _ => simp at h2
      | [], y :: m, hl, _, _ => simp at hl
      | [x], y :: z :: m, hl, _, _ => simp at hl
      | [x], [], hl, _, _ => simp at hl

/-! ### paths -/
def pt (l : List ByteArray) (i : Nat) : List ByteArray :=
  if _h : 2 ≤ l.length then
    if i < hf l.length then pt (l.take (hf l.length)) i ++ [rt (l.drop (hf l.length))] else pt (l.drop (hf l.length)) (i - hf l.length) ++ [rt (l.take (hf l.length))]
  else []
termination_by l.length
decreasing_by
  all_goals
    have h1 := hf_lt l.length _h
    have h2 := hf_pos l.length
    simp only [List.length_take, List.length_drop]; omega
theorem pt_lt (l : List ByteArray) (i : Nat) (h : 2 ≤ l.length) (hi : i < hf l.length) : pt l i = pt (l.take (hf l.length)) i ++ [rt (l.drop (hf l.length))] := by rw [pt, dif_pos h, if_pos hi]
theorem pt_ge (l : List ByteArray) (i : Nat) (h : 2 ≤ l.length) (hi : ¬ i < hf l.length) : pt l i = pt (l.drop (hf l.length)) (i - hf l.length) ++ [rt (l.take (hf l.length))] := by rw [pt, dif_pos h, if_neg hi]
theorem pt_one (l : List ByteArray) (i : Nat) (h : ¬ 2 ≤ l.length) : pt l i = [] := by rw [pt, dif_neg h]

def plen (n i : Nat) : Nat := if _h : 2 ≤ n then 1 + (if i < hf n then plen (hf n) i else plen (n - hf n) (i - hf n)) else 0
termination_by n
decreasing_by
  all_goals
    have h1 := hf_lt n _h
    have h2 := hf_pos n
    omega
theorem plen_lt (n i : Nat) (h : 2 ≤ n) (hi : i < hf n) : plen n i = 1 + plen (hf n) i := by rw [plen, dif_pos h, if_pos hi]
theorem plen_ge (n i : Nat) (h : 2 ≤ n) (hi : ¬ i < hf n) : plen n i = 1 + plen (n - hf n) (i - hf n) := by rw [plen, dif_pos h, if_neg hi]
theorem plen_one (n i : Nat) (h : ¬ 2 ≤ n) : plen n i = 0 := by rw [plen, dif_neg h]

def upv (n i : Nat) (s : ByteArray) (p : List ByteArray) : ByteArray :=
  if _h : 2 ≤ n then
    if i < hf n then nd (upv (hf n) i s p.dropLast) (p.getLastD ByteArray.empty) else nd (p.getLastD ByteArray.empty) (upv (n - hf n) (i - hf n) s p.dropLast)
  else s
termination_by n
decreasing_by
  all_goals
    have h1 := hf_lt n _h
    have h2 := hf_pos n
    omega
theorem upv_lt (n i : Nat) (s : ByteArray) (p : List ByteArray) (h : 2 ≤ n) (hi : i < hf n) : upv n i s p = nd (upv (hf n) i s p.dropLast) (p.getLastD ByteArray.empty) := by rw [upv, dif_pos h, if_pos hi]
theorem upv_ge (n i : Nat) (s : ByteArray) (p : List ByteArray) (h : 2 ≤ n) (hi : ¬ i < hf n) : upv n i s p = nd (p.getLastD ByteArray.empty) (upv (n - hf n) (i - hf n) s p.dropLast) := by rw [upv, dif_pos h, if_neg hi]
theorem upv_one (n i : Nat) (s : ByteArray) (p : List ByteArray) (h : ¬ 2 ≤ n) : upv n i s p = s := by rw [upv, dif_neg h]

def ptx (n i : Nat) (s : ByteArray) (p : List ByteArray) : List ByteArray :=
  if _h : 2 ≤ n then
    if i < hf n then ptx (hf n) i s p.dropLast ++ [jb [bNode, upv (hf n) i s p.dropLast, p.getLastD ByteArray.empty]]
    else ptx (n - hf n) (i - hf n) s p.dropLast ++ [jb [bNode, p.getLastD ByteArray.empty, upv (n - hf n) (i - hf n) s p.dropLast]]
  else []
termination_by n
decreasing_by
  all_goals
    have h1 := hf_lt n _h
    have h2 := hf_pos n
    omega
theorem ptx_lt (n i : Nat) (s : ByteArray) (p : List ByteArray) (h : 2 ≤ n) (hi : i < hf n) : ptx n i s p = ptx (hf n) i s p.dropLast ++ [jb [bNode, upv (hf n) i s p.dropLast, p.getLastD ByteArray.empty]] := by rw [ptx, dif_pos h, if_pos hi]
theorem ptx_ge (n i : Nat) (s : ByteArray) (p : List ByteArray) (h : 2 ≤ n) (hi : ¬ i < hf n) : ptx n i s p = ptx (n - hf n) (i - hf n) s p.dropLast ++ [jb [bNode, p.getLastD ByteArray.empty, upv (n - hf n) (i - hf n) s p.dropLast]] := by rw [ptx, dif_pos h, if_neg hi]
theorem ptx_one (n i : Nat) (s : ByteArray) (p : List ByteArray) (h : ¬ 2 ≤ n) : ptx n i s p = [] := by rw [ptx, dif_neg h]

theorem pt_len (l : List ByteArray) (i : Nat) : (pt l i).length = plen l.length i := by
  obtain ⟨n, hn⟩ : ∃ n, l.length = n := ⟨_, rfl⟩
  induction n using Nat.strongRecOn generalizing l i with
  | _ n ih =>
    by_cases h : 2 ≤ l.length
    · have k1 := hf_lt l.length h
      have k2 := hf_pos l.length
      by_cases hi : i < hf l.length
      · have e : (l.take (hf l.length)).length = hf l.length := by rw [List.length_take]; omega
        rw [pt_lt l i h hi, plen_lt _ i h hi, List.length_append, ih _ (by rw [e]; omega) _ i rfl, e, List.length_singleton]; omega
      · have e : (l.drop (hf l.length)).length = l.length - hf l.length := by rw [List.length_drop]
        rw [pt_ge l i h hi, plen_ge _ i h hi, List.length_append, ih _ (by rw [e]; omega) _ _ rfl, e, List.length_singleton]; omega
    · rw [pt_one l i h, plen_one _ i h]; rfl
theorem pt_up (l : List ByteArray) (i : Nat) (s : ByteArray) (hs : l[i]? = some s) : upv l.length i s (pt l i) = rt l := by
  obtain ⟨n, hn⟩ : ∃ n, l.length = n := ⟨_, rfl⟩
  induction n using Nat.strongRecOn generalizing l i with
  | _ n ih =>
    by_cases h : 2 ≤ l.length
    · have k1 := hf_lt l.length h
      have k2 := hf_pos l.length
      rw [rt_two l h]
      by_cases hi : i < hf l.length
      · have e : (l.take (hf l.length)).length = hf l.length := by rw [List.length_take]; omega
        have := ih _ (by rw [e]; omega) (l.take (hf l.length)) i (by rw [List.getElem?_take, if_pos hi, hs]) rfl
        rw [e] at this
        rw [upv_lt _ _ _ _ h hi, pt_lt l i h hi, List.dropLast_concat, List.getLastD_concat, this]
      · have e : (l.drop (hf l.length)).length = l.length - hf l.length := by rw [List.length_drop]
        have := ih _ (by rw [e]; omega) (l.drop (hf l.length)) (i - hf l.length) (by rw [List.getElem?_drop, ← hs]; congr 1; omega) rfl
        rw [e] at this
        rw [upv_ge _ _ _ _ h hi, pt_ge l i h hi, List.dropLast_concat, List.getLastD_concat, this]
    · rw [upv_one _ _ _ _ h]
      match l, h, i, hs with
      | [], _, i, hs => simp at hs
      | [x], _, 0, hs => rw [rt_one]; simpa using hs.symm
      | [x], _, i + 1, hs => simp at hs
      | x :: y :: l, h, _, _ => simp at h
theorem path_bind (l : List ByteArray) (i : Nat) (s t : ByteArray) (p : List ByteArray) (ht : l[i]? = some t) (h : upv l.length i s p = rt l) : s = t ∨ Col (txt l ++ ptx l.length i s p) := by
  obtain ⟨n, hn⟩ : ∃ n, l.length = n := ⟨_, rfl⟩
  induction n using Nat.strongRecOn generalizing l i p with
  | _ n ih =>
    by_cases h2 : 2 ≤ l.length
    · have k1 := hf_lt l.length h2
      have k2 := hf_pos l.length
      rw [rt_two l h2] at h
      rw [txt_two l h2]
      by_cases hi : i < hf l.length
      · have e : (l.take (hf l.length)).length = hf l.length := by rw [List.length_take]; omega
        rw [upv_lt _ _ _ _ h2 hi] at h
        rw [ptx_lt _ _ _ _ h2 hi]
        rcases nd_bind _ _ _ _ _ h (List.mem_append.2 (.inr (List.mem_append.2 (.inr List.mem_cons_self)))) (List.mem_append.2 (.inl (List.mem_append.2 (.inr List.mem_cons_self)))) with ⟨e1, _⟩ | hc
        · rcases ih _ (by rw [e]; omega) (l.take (hf l.length)) i p.dropLast (by rw [List.getElem?_take, if_pos hi, ht]) (by rw [e]; exact e1) rfl with hh | hc
          · exact .inl hh
          · right
            rw [e] at hc
            exact hc.mono (fun x hx => by simp only [List.mem_append] at hx ⊢; rcases hx with hx | hx <;> simp [hx])
        · exact .inr hc
      · have e : (l.drop (hf l.length)).length = l.length - hf l.length := by rw [List.length_drop]
        rw [upv_ge _ _ _ _ h2 hi] at h
        rw [ptx_ge _ _ _ _ h2 hi]
        rcases nd_bind _ _ _ _ _ h (List.mem_append.2 (.inr (List.mem_append.2 (.inr List.mem_cons_self)))) (List.mem_append.2 (.inl (List.mem_append.2 (.inr List.mem_cons_self)))) with ⟨_, e1⟩ | hc
        · rcases ih _ (by rw [e]; omega) (l.drop (hf l.length)) (i - hf l.length) p.dropLast (by rw [List.getElem?_drop, ← ht]; congr 1; omega) (by rw [e]; exact e1) rfl with hh | hc
          · exact .inl hh
          · right
            rw [e] at hc
            exact hc.mono (fun x hx => by simp only [List.mem_append] at hx ⊢; rcases hx with hx | hx <;> simp [hx])
        · exact .inr hc
    · rw [upv_one _ _ _ _ h2] at h
      left
      match l, h2, i, ht, h with
      | [], _, i, hs, _ => simp at hs
      | [x], _, 0, hs, h => rw [rt_one] at h; rw [h]; simpa using hs
      | [x], _, i + 1, hs, _ => simp at hs
      | x :: y :: l, h2, _, _, _ => simp at h2
end

section
open Go.RowKit

/-! ### links: m of the n first elements, 1 ≤ m ≤ n -/
def lk (l : List ByteArray) (m : Nat) (whole : Bool) : List ByteArray :=
  if _h : m < l.length ∧ 2 ≤ l.length then
    if m ≤ hf l.length then lk (l.take (hf l.length)) m whole ++ [rt (l.drop (hf l.length))] else lk (l.drop (hf l.length)) (m - hf l.length) false ++ [rt (l.take (hf l.length))]
  else if whole then [] else [rt l]
termination_by l.length
decreasing_by
  all_goals
    have h1 := hf_lt l.length _h.2
    have h2 := hf_pos l.length
    simp only [List.length_take, List.length_drop]; omega
theorem lk_end (l : List ByteArray) (m : Nat) (whole : Bool) (h : ¬ m < l.length) : lk l m whole = if whole then [] else [rt l] := by rw [lk, dif_neg (fun e => h e.1)]
theorem lk_le (l : List ByteArray) (m : Nat) (whole : Bool) (h1 : m < l.length) (h2 : 2 ≤ l.length) (h : m ≤ hf l.length) : lk l m whole = lk (l.take (hf l.length)) m whole ++ [rt (l.drop (hf l.length))] := by rw [lk, dif_pos ⟨h1, h2⟩, if_pos h]
theorem lk_gt (l : List ByteArray) (m : Nat) (whole : Bool) (h1 : m < l.length) (h2 : 2 ≤ l.length) (h : ¬ m ≤ hf l.length) : lk l m whole = lk (l.drop (hf l.length)) (m - hf l.length) false ++ [rt (l.take (hf l.length))] := by rw [lk, dif_pos ⟨h1, h2⟩, if_neg h]

def llen (n m : Nat) (whole : Bool) : Nat :=
  if _h : m < n ∧ 2 ≤ n then 1 + (if m ≤ hf n then llen (hf n) m whole else llen (n - hf n) (m - hf n) false) else if whole then 0 else 1
termination_by n
decreasing_by
  all_goals
    have h1 := hf_lt n _h.2
    have h2 := hf_pos n
    omega
theorem llen_end (n m : Nat) (whole : Bool) (h : ¬ m < n) : llen n m whole = if whole then 0 else 1 := by rw [llen, dif_neg (fun e => h e.1)]
theorem llen_le (n m : Nat) (whole : Bool) (h1 : m < n) (h2 : 2 ≤ n) (h : m ≤ hf n) : llen n m whole = 1 + llen (hf n) m whole := by rw [llen, dif_pos ⟨h1, h2⟩, if_pos h]
theorem llen_gt (n m : Nat) (whole : Bool) (h1 : m < n) (h2 : 2 ≤ n) (h : ¬ m ≤ hf n) : llen n m whole = 1 + llen (n - hf n) (m - hf n) false := by rw [llen, dif_pos ⟨h1, h2⟩, if_neg h]

def bothv (n m : Nat) (whole : Bool) (old : ByteArray) (p : List ByteArray) : ByteArray × ByteArray :=
  if _h : m < n ∧ 2 ≤ n then
    if m ≤ hf n then ((bothv (hf n) m whole old p.dropLast).1, nd (bothv (hf n) m whole old p.dropLast).2 (p.getLastD ByteArray.empty))
    else (nd (p.getLastD ByteArray.empty) (bothv (n - hf n) (m - hf n) false old p.dropLast).1, nd (p.getLastD ByteArray.empty) (bothv (n - hf n) (m - hf n) false old p.dropLast).2)
  else if whole then (old, old) else (p.getLastD ByteArray.empty, p.getLastD ByteArray.empty)
termination_by n
decreasing_by
  all_goals
    have h1 := hf_lt n _h.2
    have h2 := hf_pos n
    omega
theorem bothv_end (n m : Nat) (whole : Bool) (old : ByteArray) (p : List ByteArray) (h : ¬ m < n) : bothv n m whole old p = if whole then (old, old) else (p.getLastD ByteArray.empty, p.getLastD ByteArray.empty) := by rw [bothv, dif_neg (fun e => h e.1)]
theorem bothv_le (n m : Nat) (whole : Bool) (old : ByteArray) (p : List ByteArray) (h1 : m < n) (h2 : 2 ≤ n) (h : m ≤ hf n) :
    bothv n m whole old p = ((bothv (hf n) m whole old p.dropLast).1, nd (bothv (hf n) m whole old p.dropLast).2 (p.getLastD ByteArray.empty)) := by rw [bothv, dif_pos ⟨h1, h2⟩, if_pos h]
theorem bothv_gt (n m : Nat) (whole : Bool) (old : ByteArray) (p : List ByteArray) (h1 : m < n) (h2 : 2 ≤ n) (h : ¬ m ≤ hf n) :
    bothv n m whole old p = (nd (p.getLastD ByteArray.empty) (bothv (n - hf n) (m - hf n) false old p.dropLast).1, nd (p.getLastD ByteArray.empty) (bothv (n - hf n) (m - hf n) false old p.dropLast).2) := by rw [bothv, dif_pos ⟨h1, h2⟩, if_neg h]

def ltx (n m : Nat) (whole : Bool) (old : ByteArray) (p : List ByteArray) : List ByteArray :=
  if _h : m < n ∧ 2 ≤ n then
    if m ≤ hf n then ltx (hf n) m whole old p.dropLast ++ [jb [bNode, (bothv (hf n) m whole old p.dropLast).2, p.getLastD ByteArray.empty]]
    else ltx (n - hf n) (m - hf n) false old p.dropLast ++ [jb [bNode, p.getLastD ByteArray.empty, (bothv (n - hf n) (m - hf n) false old p.dropLast).1]] ++ [jb [bNode, p.getLastD ByteArray.empty, (bothv (n - hf n) (m - hf n) false old p.dropLast).2]]
  else []
termination_by n
decreasing_by
  all_goals
    have h1 := hf_lt n _h.2
    have h2 := hf_pos n
    omega
theorem ltx_end (n m : Nat) (whole : Bool) (old : ByteArray) (p : List ByteArray) (h : ¬ m < n) : ltx n m whole old p = [] := by rw [ltx, dif_neg (fun e => h e.1)]
theorem ltx_le (n m : Nat) (whole : Bool) (old : ByteArray) (p : List ByteArray) (h1 : m < n) (h2 : 2 ≤ n) (h : m ≤ hf n) :
    ltx n m whole old p = ltx (hf n) m whole old p.dropLast ++ [jb [bNode, (bothv (hf n) m whole old p.dropLast).2, p.getLastD ByteArray.empty]] := by rw [ltx, dif_pos ⟨h1, h2⟩, if_pos h]
theorem ltx_gt (n m : Nat) (whole : Bool) (old : ByteArray) (p : List ByteArray) (h1 : m < n) (h2 : 2 ≤ n) (h : ¬ m ≤ hf n) :
    ltx n m whole old p = ltx (n - hf n) (m - hf n) false old p.dropLast ++ [jb [bNode, p.getLastD ByteArray.empty, (bothv (n - hf n) (m - hf n) false old p.dropLast).1]] ++ [jb [bNode, p.getLastD ByteArray.empty, (bothv (n - hf n) (m - hf n) false old p.dropLast).2]] := by rw [ltx, dif_pos ⟨h1, h2⟩, if_neg h]

theorem lk_len (l : List ByteArray) (m : Nat) (whole : Bool) (hm : 1 ≤ m) : (lk l m whole).length = llen l.length m whole := by
  obtain ⟨n, hn⟩ : ∃ n, l.length = n := ⟨_, rfl⟩
  induction n using Nat.strongRecOn generalizing l m whole with
  | _ n ih =>
    by_cases h : m < l.length
    · have h2 : 2 ≤ l.length := by omega
      have k1 := hf_lt l.length h2
      have k2 := hf_pos l.length
      have e : (l.take (hf l.length)).length = hf l.length := by rw [List.length_take]; omega
      have e2 : (l.drop (hf l.length)).length = l.length - hf l.length := by rw [List.length_drop]
      by_cases hm2 : m ≤ hf l.length
      · rw [lk_le _ _ _ h h2 hm2, llen_le _ _ _ h h2 hm2, List.length_append, ih _ (by rw [e]; omega) _ m whole hm rfl, e, List.length_singleton]; omega
      · rw [lk_gt _ _ _ h h2 hm2, llen_gt _ _ _ h h2 hm2, List.length_append, ih _ (by rw [e2]; omega) _ _ false (by omega) rfl, e2, List.length_singleton]; omega
    · rw [lk_end _ _ _ h, llen_end _ _ _ h]
      cases whole <;> rfl

/-- The root of the first m, as the tree of all parts them. -/
theorem rt_gt (l : List ByteArray) (m : Nat) (hm : ¬ m ≤ hf l.length) (h : m ≤ l.length) : rt (l.take m) = nd (rt (l.take (hf l.length))) (rt ((l.drop (hf l.length)).take (m - hf l.length))) := by
  have k2 := hf_pos l.length
  have e : (l.take m).length = m := by rw [List.length_take]; omega
  have e2 : hf (l.take m).length = hf l.length := by rw [e]; exact hf_mid _ _ (by omega) h
  rw [rt_split (l.take m) (hf l.length) (by rw [e]; omega) e2, List.take_take, List.drop_take]
  congr 2
  congr 1
  omega
theorem rt_le (l : List ByteArray) (m : Nat) (hm : m ≤ hf l.length) : (l.take (hf l.length)).take m = l.take m := by
  rw [List.take_take]; congr 1; omega

theorem link_both (l : List ByteArray) (m : Nat) (whole : Bool) (old : ByteArray) (hm : 1 ≤ m) (hml : m ≤ l.length) (ho : whole = true → old = rt (l.take m)) : bothv l.length m whole old (lk l m whole) = (rt (l.take m), rt l) := by
  obtain ⟨n, hn⟩ : ∃ n, l.length = n := ⟨_, rfl⟩
  induction n using Nat.strongRecOn generalizing l m whole with
  | _ n ih =>
    by_cases h : m < l.length
    · have h2 : 2 ≤ l.length := by omega
      have k1 := hf_lt l.length h2
      have k2 := hf_pos l.length
      have e : (l.take (hf l.length)).length = hf l.length := by rw [List.length_take]; omega
      have e2 : (l.drop (hf l.length)).length = l.length - hf l.length := by rw [List.length_drop]
      by_cases hm2 : m ≤ hf l.length
      · have := ih _ (by rw [e]; omega) (l.take (hf l.length)) m whole hm (by omega) (by rw [rt_le l m hm2]; exact ho) rfl
        rw [e, rt_le l m hm2] at this
        rw [lk_le _ _ _ h h2 hm2, bothv_le _ _ _ _ _ h h2 hm2, List.dropLast_concat, List.getLastD_concat, this, ← rt_two l h2]
      · have := ih _ (by rw [e2]; omega) (l.drop (hf l.length)) (m - hf l.length) false (by omega) (by omega) (by simp) rfl
        rw [e2] at this
        rw [lk_gt _ _ _ h h2 hm2, bothv_gt _ _ _ _ _ h h2 hm2, List.dropLast_concat, List.getLastD_concat, this, ← rt_two l h2, ← rt_gt l m hm2 hml]
    · have e : l.take m = l := List.take_of_length_le (by omega)
      rw [lk_end _ _ _ h, bothv_end _ _ _ _ _ h, e]
      rw [e] at ho
      cases whole
      · rfl
      · rw [if_pos rfl, ho rfl]

theorem link_bind (l : List ByteArray) (m : Nat) (whole : Bool) (old x : ByteArray) (p : List ByteArray) (hm : 1 ≤ m) (hml : m ≤ l.length) (h : bothv l.length m whole old p = (x, rt l)) : x = rt (l.take m) ∨ Col (txt l ++ ltx l.length m whole old p) := by
  obtain ⟨n, hn⟩ : ∃ n, l.length = n := ⟨_, rfl⟩
  induction n using Nat.strongRecOn generalizing l m whole p x with
  | _ n ih =>
    by_cases hlt : m < l.length
    · have h2 : 2 ≤ l.length := by omega
      have k1 := hf_lt l.length h2
      have k2 := hf_pos l.length
      have e : (l.take (hf l.length)).length = hf l.length := by rw [List.length_take]; omega
      have e2 : (l.drop (hf l.length)).length = l.length - hf l.length := by rw [List.length_drop]
      rw [txt_two l h2]
      by_cases hm2 : m ≤ hf l.length
      · rw [bothv_le _ _ _ _ _ hlt h2 hm2, rt_two l h2, Prod.mk.injEq] at h
        rw [ltx_le _ _ _ _ _ hlt h2 hm2]
        rcases nd_bind _ _ _ _ _ h.2 (List.mem_append.2 (.inr (List.mem_append.2 (.inr List.mem_cons_self)))) (List.mem_append.2 (.inl (List.mem_append.2 (.inr List.mem_cons_self)))) with ⟨e1, _⟩ | hc
        · have := ih _ (by rw [e]; omega) (l.take (hf l.length)) m whole x p.dropLast hm (by omega) (by rw [e, ← e1, ← h.1]) rfl
          rw [rt_le l m hm2, e] at this
          rcases this with hh | hc
          · exact .inl hh
          · exact .inr (hc.mono (fun x hx => by simp only [List.mem_append] at hx ⊢; rcases hx with hx | hx <;> simp [hx]))
        · exact .inr hc
      · rw [bothv_gt _ _ _ _ _ hlt h2 hm2, rt_two l h2, Prod.mk.injEq] at h
        rw [ltx_gt _ _ _ _ _ hlt h2 hm2]
        rcases nd_bind _ _ _ _ _ h.2 (List.mem_append.2 (.inr (List.mem_append.2 (.inr List.mem_cons_self)))) (List.mem_append.2 (.inl (List.mem_append.2 (.inr List.mem_cons_self)))) with ⟨e0, e1⟩ | hc
        · have := ih _ (by rw [e2]; omega) (l.drop (hf l.length)) (m - hf l.length) false (bothv (l.length - hf l.length) (m - hf l.length) false old p.dropLast).1 p.dropLast (by omega) (by omega) (by rw [e2, ← e1]) rfl
          rw [e2] at this
          rcases this with hh | hc
          · left
            rw [← h.1, e0, hh, ← rt_gt l m hm2 hml]
          · exact .inr (hc.mono (fun x hx => by simp only [List.mem_append] at hx ⊢; rcases hx with hx | hx <;> simp [hx]))
        · exact .inr hc
    · have e : l.take m = l := List.take_of_length_le (by omega)
      rw [bothv_end _ _ _ _ _ hlt] at h
      rw [e]
      left
      cases whole
      · simp only [Bool.false_eq_true, if_false, Prod.mk.injEq] at h; rw [← h.1, h.2]
      · simp only [if_true, Prod.mk.injEq] at h; rw [← h.1, h.2]

/-! ### lengths -/
def bdig (n : Nat) : Nat := if n = 0 then 0 else 1 + bdig (n / 2)
theorem bdig_pos (n : Nat) (h : 0 < n) : bdig n = 1 + bdig (n / 2) := by rw [bdig, if_neg (by omega)]
theorem bdig_pow (n j : Nat) (h : 2 ^ j ≤ n) : j + 1 ≤ bdig n := by
  induction j generalizing n with
  | zero => rw [bdig_pos n (by simp at h; omega)]; omega
  | succ j ih =>
    have h0 : 0 < n := by have := Nat.one_le_two_pow (n := j + 1); omega
    rw [bdig_pos n h0]
    have := ih (n / 2) (by rw [Nat.pow_succ] at h; omega)
    omega
theorem hf_pow (n : Nat) : ∃ j, hf n = 2 ^ j := by
  unfold hf; split
  · exact ⟨0, rfl⟩
  · exact ⟨_, rfl⟩
/-- A tree of n ≤ 2^j elements has paths of at most j. -/
theorem plen_pow (j n i : Nat) (h : n ≤ 2 ^ j) : plen n i ≤ j := by
  induction j generalizing n i with
  | zero => rw [plen_one n i (by simp at h; omega)]; exact Nat.zero_le _
  | succ j ih =>
    by_cases h2 : 2 ≤ n
    · have k1 := hf_lt n h2
      have k2 := hf_le n
      obtain ⟨a, ha⟩ := hf_pow n
      rw [Nat.pow_succ] at h
      have h3 : hf n ≤ 2 ^ j := by
        rw [ha] at k1 ⊢
        apply Nat.pow_le_pow_right (by decide)
        have : 2 ^ a < 2 ^ (j + 1) := by rw [Nat.pow_succ]; omega
        have := (Nat.pow_lt_pow_iff_right (by decide : 1 < 2)).1 this
        omega
      by_cases hi : i < hf n
      · rw [plen_lt n i h2 hi]; have := ih (hf n) i h3; omega
      · rw [plen_ge n i h2 hi]; have := ih (n - hf n) (i - hf n) (by omega); omega
    · rw [plen_one n i h2]; exact Nat.zero_le _
theorem llen_pow (j n m : Nat) (w : Bool) (h : n ≤ 2 ^ j) (hm : 1 ≤ m) : llen n m w ≤ j + 1 := by
  induction j generalizing n m w with
  | zero =>
    rw [llen_end n m w (by simp at h; omega)]; split <;> omega
  | succ j ih =>
    by_cases hl : m < n
    · have h2 : 2 ≤ n := by omega
      have k1 := hf_lt n h2
      have k2 := hf_le n
      obtain ⟨a, ha⟩ := hf_pow n
      rw [Nat.pow_succ] at h
      have h3 : hf n ≤ 2 ^ j := by
        rw [ha] at k1 ⊢
        apply Nat.pow_le_pow_right (by decide)
        have : 2 ^ a < 2 ^ (j + 1) := by rw [Nat.pow_succ]; omega
        have := (Nat.pow_lt_pow_iff_right (by decide : 1 < 2)).1 this
        omega
      by_cases hi : m ≤ hf n
      · rw [llen_le n m w hl h2 hi]; have := ih (hf n) m w h3 hm; omega
      · rw [llen_gt n m w hl h2 hi]; have := ih (n - hf n) (m - hf n) false (by omega) (by omega); omega
    · rw [llen_end n m w hl]; split <;> omega
theorem le_bdig (n : Nat) (h : 1 ≤ n) : ∃ j, n ≤ 2 ^ j ∧ j ≤ bdig n := by
  induction n using Nat.strongRecOn with
  | _ n ih =>
    by_cases h1 : n = 1
    · exact ⟨0, by omega, Nat.zero_le _⟩
    · obtain ⟨j, h2, h3⟩ := ih (n / 2) (by omega) (by omega)
      by_cases he : n % 2 = 0
      · exact ⟨j + 1, by rw [Nat.pow_succ]; omega, by rw [bdig_pos n (by omega)]; omega⟩
      · rcases Nat.lt_or_ge (n / 2) (2 ^ j) with h4 | h4
        · exact ⟨j + 1, by rw [Nat.pow_succ]; omega, by rw [bdig_pos n (by omega)]; omega⟩
        · have h5 : n / 2 = 2 ^ j := by omega
          have h6 := bdig_pow (n / 2) j (by omega)
          exact ⟨j + 2, by rw [Nat.pow_succ, Nat.pow_succ]; omega, by rw [bdig_pos n (by omega)]; omega⟩
theorem plen_bdig (n i : Nat) (h : 1 ≤ n) : plen n i ≤ bdig n := by
  obtain ⟨j, h1, h2⟩ := le_bdig n h
  exact Nat.le_trans (plen_pow j n i h1) h2
theorem llen_bdig (n m : Nat) (w : Bool) (h : 1 ≤ n) (hm : 1 ≤ m) : llen n m w ≤ bdig n + 1 := by
  obtain ⟨j, h1, h2⟩ := le_bdig n h
  exact Nat.le_trans (llen_pow j n m w h1 hm) (by omega)
theorem plen_zero (n i : Nat) : plen n i = 0 ↔ ¬ 2 ≤ n := by
  constructor
  · intro h h2
    by_cases hi : i < hf n
    · rw [plen_lt n i h2 hi] at h; omega
    · rw [plen_ge n i h2 hi] at h; omega
  · exact plen_one n i
theorem llen_zero (n m : Nat) (hm : 1 ≤ m) : llen n m true = 0 ↔ ¬ m < n := by
  constructor
  · intro h h2
    have h3 : 2 ≤ n := by omega
    by_cases hi : m ≤ hf n
    · rw [llen_le n m true h2 h3 hi] at h; omega
    · rw [llen_gt n m true h2 h3 hi] at h; omega
  · intro h; rw [llen_end n m true h]; rfl
end

section
open Go.RowKit

theorem laid_tab {P : Program} {W : World} {name : String} {k : IntKind} {zs : List Int} {g t e n : Nat} (hg : P.globalNamed name = some g) (hty : (P.globals[g]?).map (·.type) = some t) (ht : P.underlying t = some (.array n e)) (he : P.underlying e = some (.int k)) (hce : P.cellsOf e = 1) (hct : P.cellsOf t = n) :
    ∀ (laid : List (String × DataW Unit)) (ps : List MemPlace), DataW.LaidVars P W laid ps → (name, Go.Lib.tabData k zs) ∈ laid → Go.Lib.TabIs P W name k zs := by
  intro laid
  induction laid with
  | nil => intro ps _ h; cases h
  | cons x r ih =>
    intro ps h hm
    obtain ⟨nm, d⟩ := x
    obtain ⟨g', t', cs, fuel, p, q, hg', ht', hvar, hd, hr, _⟩ := h
    rcases List.mem_cons.1 hm with h1 | h1
    · injection h1 with h2 h3
      subst h2
      subst h3
      obtain rfl := Option.some.inj (hg.symm.trans hg')
      obtain rfl := Option.some.inj (hty.symm.trans ht')
      unfold Go.Lib.TabIs
      rw [hvar, ← Go.Lib.cells_of_tab ht he hce hct hd]
    · exact ih q hr h1

def tab64z : List Int := [0, 1, 56, 2, 57, 49, 28, 3, 61, 58, 42, 50, 38, 29, 17, 4, 62, 47, 59, 36, 45, 43, 51, 22, 53, 39, 33, 30, 24, 18, 12, 5, 63, 55, 48, 27, 60, 41, 37, 16, 46, 35, 44, 21, 52, 32, 23, 11, 54, 26, 40, 15, 34, 20, 31, 10, 25, 14, 19, 9, 13, 8, 7, 6]

theorem tabs_of {laid : List (String × DataW Unit)} {W : World} (h : laidMetH Tryz.prog laid W) (hp : (laid.all fun x => x.2.handleName?.isNone) = true)
    (h1 : ("math/bits.deBruijn64tab", (Rows.laid_math_bits_deBruijn64tab : DataW Unit)) ∈ laid) (h2 : ("internal/strconv.uint64pow10", (Rows.laid_internal_strconv_uint64pow10 : DataW Unit)) ∈ laid) : Tabs W := by
  rw [MakeChecks.laidMetH_plain _ _ _ hp] at h
  obtain ⟨ps, hl, _⟩ := h
  have e1 : (Rows.laid_math_bits_deBruijn64tab : DataW Unit) = Go.Lib.tabData .u8 tab64z := by rfl
  have e2 : (Rows.laid_internal_strconv_uint64pow10 : DataW Unit) = Go.Lib.tabData .u64 Go.Lib.pow10Tab := by rfl
  rw [e1] at h1
  rw [e2] at h2
  have g1 : Tryz.prog.globalNamed "math/bits.deBruijn64tab" = some 7 := by kernel_rfl
  have g2 : Tryz.prog.globalNamed "internal/strconv.uint64pow10" = some 4 := by kernel_rfl
  have k1 := laid_tab g1 (t := 195) (by kernel_rfl) Tryz.underlying195 Tryz.underlying5 (by kernel_rfl) (by kernel_rfl) laid ps hl h1
  have k2 := laid_tab g2 (t := 186) (by kernel_rfl) Tryz.underlying186 Tryz.underlying109 (by kernel_rfl) (by kernel_rfl) laid ps hl h2
  exact ⟨k1.cell g1 15 (by decide), k2⟩
end

section
open Go.RowKit

def bSp : ByteArray := ⟨#[32]⟩
def shT (s : Int × Int) : ByteArray := dec s.1.toNat ++ bSp ++ dec s.2.toNat
def shLf (s : Int × Int) : ByteArray := lf (shT s)
def shJ (s : Int × Int) : ByteArray := jb [bLeaf, shT s]

theorem dd_no32 (n : Nat) : ∀ c ∈ Go.Lib.decDigits n, c ≠ 32 := by
  induction n using Nat.strongRecOn with
  | _ n ih =>
    intro c hc
    rw [Go.Lib.decDigits] at hc
    have key : ∀ d, d < 10 → UInt8.ofNat (48 + d) ≠ 32 := by decide
    split at hc
    · next h => rw [List.mem_singleton.1 hc]; exact key n h
    · next h =>
      rcases List.mem_append.1 hc with h1 | h1
      · exact ih (n / 10) (by omega) c h1
      · rw [List.mem_singleton.1 h1]; exact key (n % 10) (by omega)
theorem cut_eq32 (p q X Y : List UInt8) (hp : ∀ c ∈ p, c ≠ 32) (hq : ∀ c ∈ q, c ≠ 32) (h : p ++ 32 :: X = q ++ 32 :: Y) : p = q ∧ X = Y := by
  induction p generalizing q with
  | nil =>
    cases q with
    | nil => exact ⟨rfl, by simpa using h⟩
    | cons c q =>
      simp only [List.nil_append, List.cons_append, List.cons.injEq] at h
      exact absurd h.1.symm (hq c List.mem_cons_self)
  | cons c p ih =>
    cases q with
    | nil =>
      simp only [List.nil_append, List.cons_append, List.cons.injEq] at h
      exact absurd h.1 (hp c List.mem_cons_self)
    | cons d q =>
      simp only [List.cons_append, List.cons.injEq] at h
      obtain ⟨h1, h2⟩ := ih q (fun x hx => hp x (List.mem_cons_of_mem _ hx)) (fun x hx => hq x (List.mem_cons_of_mem _ hx)) h.2
      exact ⟨by rw [h.1, h1], h2⟩

theorem shT_inj (s t : Int × Int) (hs : 0 ≤ s.1 ∧ 0 ≤ s.2) (ht : 0 ≤ t.1 ∧ 0 ≤ t.2) (h : shT s = shT t) : s = t := by
  have e : ∀ u : Int × Int, (shT u).data.toList = Go.Lib.decDigits u.1.toNat ++ 32 :: Go.Lib.decDigits u.2.toNat := fun u => by
    simp [shT, dec, bSp]
  have h1 := congrArg (fun x : ByteArray => x.data.toList) h
  simp only [e] at h1
  obtain ⟨h2, h3⟩ := cut_eq32 _ _ _ _ (dd_no32 _) (dd_no32 _) h1
  have h4 := dd_inj h2
  have h5 := dd_inj h3
  exact Prod.ext (by omega) (by omega)

theorem shT_size (s : Int × Int) (h1 : s.1 ≤ 16) (h2 : s.2 < 2147483647) : (shT s).size ≤ 60 := by
  have a1 := dec_len s.1.toNat 9 (by omega)
  have a2 := dec_len s.2.toNat 9 (by omega)
  have e : (shT s).size = (Go.Lib.decDigits s.1.toNat).length + 1 + (Go.Lib.decDigits s.2.toNat).length := by
    simp [shT, dec, bSp]
    show _ = _
    rfl
  omega

theorem commit_col (L : List (Int × Int)) (j : Nat) (s t : Int × Int) (p : List ByteArray) (hs : 0 ≤ s.1 ∧ 0 ≤ s.2) (ht : 0 ≤ t.1 ∧ 0 ≤ t.2) (hj : L[j]? = some t) (hne : s ≠ t)
    (h : upv L.length j (shLf s) p = rt (L.map shLf)) : Col (L.map shJ ++ txt (L.map shLf) ++ [shJ s] ++ ptx L.length j (shLf s) p) := by
  have hb := path_bind (L.map shLf) j (shLf s) (shLf t) p (by rw [List.getElem?_map, hj]; rfl) (by rw [List.length_map]; exact h)
  rw [List.length_map] at hb
  rcases hb with hb | hb
  · refine ⟨shJ s, ?_, shJ t, ?_, ?_, hb⟩
    · exact List.mem_append.2 (.inl (List.mem_append.2 (.inr List.mem_cons_self)))
    · exact List.mem_append.2 (.inl (List.mem_append.2 (.inl (List.mem_append.2 (.inl (List.mem_map.2 ⟨t, List.mem_of_getElem? hj, rfl⟩))))))
    · intro e
      have e1 := jb_inj e
      simp only [List.cons.injEq, and_true, true_and] at e1
      exact hne (shT_inj s t hs ht e1)
  · exact hb.mono fun x hx => by
      rcases List.mem_append.1 hx with h1 | h1
      · exact List.mem_append.2 (.inl (List.mem_append.2 (.inl (List.mem_append.2 (.inr h1)))))
      · exact List.mem_append.2 (.inr h1)
end

section
open Go.RowKit

/-- The class: whatever new memory lies behind that of w. -/
theorem wp_region_below {P : Program} {id : Nat} {Q : Exit → Act → World → Prop} {a : Act} {w : World} {l : List Oper} (hm : P.follows .mixedOrders = true) (hB : Region.lexB .any l.toArray = true)
    (h : wpQuiet P l.toArray (fun W => Below w.heap.size w W) (fun a' => ∀ W, Below w.heap.size w W → Q .normal a' W) l a) : (Code.region id l.toArray true).wp P Q a w :=
  wp_region_quiet (C := fun W => Below w.heap.size w W) hm hB (Below.drew (Below.refl _ _)) (by simpa using h)

theorem quiet_op {P : Program} {ops : Array Oper} {C : World → Prop} {Q : Act → Prop} {a : Act} {o : Oper} {rest : List Oper} (v : Value) (hw : Region.wanted o (yielded ops a.tmps) = true)
    (h1 : ∀ W, C W → o.quietAt P a C W v) (h2 : wpQuiet P ops C Q rest (a.put o.dst v)) : wpQuiet P ops C Q (o :: rest) a := by
  unfold wpQuiet
  rw [if_pos hw]
  exact ⟨v, h1, h2⟩
theorem quiet_none {P : Program} {ops : Array Oper} {C : World → Prop} {Q : Act → Prop} {a : Act} {o : Oper} {rest : List Oper} (hw : Region.wanted o (yielded ops a.tmps) = false)
    (h2 : wpQuiet P ops C Q rest (a.put o.dst undef)) : wpQuiet P ops C Q (o :: rest) a := by
  unfold wpQuiet
  rw [if_neg (by simp [hw])]
  exact h2
end

section
open Go.RowKit

def QStep (WQ : Program → Array Oper → (World → Prop) → (Act → Prop) → List Oper → Act → Prop) : Prop :=
  ∀ (P : Program) (ops : Array Oper) (C : World → Prop) (Q : Act → Prop) (a : Act) (o : Oper) (rest : List Oper),
    (∀ K : Act → Prop, (∀ a, WQ P ops C Q rest a → K a) → if Region.wanted o (yielded ops a.tmps) then o.quiet P a C K else K (a.put o.dst undef)) → WQ P ops C Q (o :: rest) a
def QNil (WQ : Program → Array Oper → (World → Prop) → (Act → Prop) → List Oper → Act → Prop) : Prop :=
  ∀ (P : Program) (ops : Array Oper) (C : World → Prop) (Q : Act → Prop) (a : Act), Q a → WQ P ops C Q [] a

theorem QStep.go {WQ : Program → Array Oper → (World → Prop) → (Act → Prop) → List Oper → Act → Prop} (h : QStep WQ) {P : Program} {ops : Array Oper} {C : World → Prop} {Q : Act → Prop} {a : Act} {o : Oper} {rest : List Oper}
    (hk : ∀ K : Act → Prop, (∀ a, WQ P ops C Q rest a → K a) → if Region.wanted o (yielded ops a.tmps) then o.quiet P a C K else K (a.put o.dst undef)) : WQ P ops C Q (o :: rest) a := h P ops C Q a o rest hk
theorem QNil.go {WQ : Program → Array Oper → (World → Prop) → (Act → Prop) → List Oper → Act → Prop} (h : QNil WQ) {P : Program} {ops : Array Oper} {C : World → Prop} {Q : Act → Prop} {a : Act} (hq : Q a) : WQ P ops C Q [] a := h P ops C Q a hq

theorem wp_region_belowC {P : Program} {id : Nat} {Q : Exit → Act → World → Prop} {a : Act} {w : World} {l : List Oper} (hm : P.follows .mixedOrders = true) (hB : Region.lexB .any l.toArray = true)
    (h : ∀ WQ, QStep WQ → QNil WQ → WQ P l.toArray (fun W => Below w.heap.size w W) (fun a' => ∀ W, Below w.heap.size w W → Q .normal a' W) l a) : (Code.region id l.toArray true).wp P Q a w :=
  wp_region_below hm hB (h wpQuiet (fun _ _ _ _ _ _ _ hk => wpQuiet_step hk) (fun _ _ _ _ _ hq => wpQuiet_nil hq))
end

section
open Go.RowKit

theorem dec_size (n : Nat) (h : n ≤ 9223372036854775807) : (dec n).size ≤ 19 := by
  have := dec_len n 18 (by omega)
  have e : (dec n).size = (Go.Lib.decDigits n).length := rfl
  omega

theorem relement_any (a : Int) (w : World) :
    Calls Tryz.prog 43 #[.int .i64 a] w fun e w' => e = .returned (.bool (elemB a)) ∧ w = w' := by
  by_cases h0 : 0 ≤ a
  · by_cases h1 : a < 2147483647
    · go_enter Tryz.func43, Tryz.ntmps43
      go_wp2
      go_ret
      exact ⟨by simp [elemB, h0, h1], rfl⟩
    · go_enter Tryz.func43, Tryz.ntmps43
      go_wp2
      go_ret
      exact ⟨by simp [elemB, h0, h1], rfl⟩
  · go_enter Tryz.func43, Tryz.ntmps43
    go_wp2
    go_ret
    exact ⟨by simp [elemB]; omega, rfl⟩

theorem rvalid_any (x y : Int) (w : World) :
    Calls Tryz.prog 54 #[.agg #[.int .i64 x, .int .i64 y]] w fun e w' => e = .returned (.bool (validB (x, y))) ∧ w.alloc (.cells #[.int .i64 x, .int .i64 y] 37) = w' := by
  by_cases h0 : 1 ≤ x
  · by_cases h1 : x ≤ 16
    · go_enter Tryz.func54, Tryz.ntmps54
      go_wp2_with (go_at_call 43; refine (relement_any _ _).mono ?_; rintro e w' ⟨rfl, rfl⟩)
      go_ret
      exact ⟨ret_bool (by simp [validB, h0, h1]), rfl⟩
    · go_enter Tryz.func54, Tryz.ntmps54
      go_wp2
      go_ret
      exact ⟨ret_bool (by simp [validB]; omega), rfl⟩
  · go_enter Tryz.func54, Tryz.ntmps54
    go_wp2
    go_ret
    exact ⟨ret_bool (by simp [validB]; omega), rfl⟩
set_option maxHeartbeats 4000000 in
theorem stext_any (s : Int × Int) (w : World) (h1 : 0 ≤ s.1 ∧ s.1 ≤ 9223372036854775807) (h2 : 0 ≤ s.2 ∧ s.2 ≤ 9223372036854775807) (hT : Tabs w) :
    Calls Tryz.prog 52 #[.agg #[.int .i64 s.1, .int .i64 s.2]] w fun e w' => e = .returned (.string (shT s)) ∧ Below w.heap.size w w' := by
  obtain ⟨x, y⟩ := s
  simp only at h1 h2 ⊢
  obtain ⟨X, rfl⟩ : ∃ X : Nat, x = X := ⟨x.toNat, by omega⟩
  obtain ⟨Y, rfl⟩ : ∃ Y : Nat, y = Y := ⟨y.toNat, by omega⟩
  have hsh : shT ((X : Int), (Y : Int)) = dec X ++ ⟨#[32]⟩ ++ dec Y := by
    unfold shT bSp
    rw [Int.toNat_natCast, Int.toNat_natCast]
  rw [hsh]
  obtain ⟨w0, hw0⟩ : ∃ w0, w.alloc (.cells #[.int .i64 (X : Int), .int .i64 (Y : Int)] 37) = w0 := ⟨_, rfl⟩
  have HB0 : Hid (Below w.heap.size w w0) := Lib.hid (by rw [← hw0]; exact below_alloc (Below.refl _ _) _)
  have HK : Hid (∀ W, Below w0.heap.size w0 W → W.cell? ⟨w.heap.size, 0, none⟩ = some (.int .i64 (X : Int)) ∧ W.cell? ⟨w.heap.size, 1, none⟩ = some (.int .i64 (Y : Int))) := Lib.hid (fun W hW => by
    have hb : Blk w0 w.heap.size 37 #[.int .i64 (X : Int), .int .i64 (Y : Int)] := by rw [← hw0]; exact Blk.new w _ _ _ rfl
    exact ⟨kept_cell hW (hb.of_cell rfl), kept_cell hW (hb.of_cell rfl)⟩)
  have HD : Hid (∀ (n : Nat) (W : World), n ≤ 9223372036854775807 → Below w.heap.size w W → Calls Tryz.prog 80 #[.int .i64 (n : Int)] W fun e w' => e = .returned (.string (dec n)) ∧ Below W.heap.size W w') := Lib.hid (fun n W h hW => itoa_any n h W (hT.below hW))
  have HDX := Lib.hid (fun W (hW : Below w0.heap.size w0 W) => (HD.out X W (by omega) (below_trans HB0.out hW)).mono fun _ _ ⟨he, hb⟩ => (⟨he, below_trans hW hb⟩ : _ ∧ Below w0.heap.size w0 _))
  have HDY := Lib.hid (fun W (hW : Below w0.heap.size w0 W) => (HD.out Y W (by omega) (below_trans HB0.out hW)).mono fun _ _ ⟨he, hb⟩ => (⟨he, below_trans hW hb⟩ : _ ∧ Below w0.heap.size w0 _))
  have z1 := dec_size X (by omega)
  have z2 := dec_size Y (by omega)
  have HW0 := Lib.hid hw0
  clear hw0 h1 h2 hsh HD
  generalize dec X = dx at *
  generalize dec Y = dy at *
  have s1 : ¬ 9223372036854775807 < dx.size + 1 := by omega
  have s2 : ¬ 9223372036854775807 < (dx ++ ⟨#[32]⟩ : ByteArray).size + dy.size := by
    rw [ByteArray.size_append]
    have : (⟨#[32]⟩ : ByteArray).size = 1 := rfl
    omega
  have s3 : ¬ 9223372036854775807 < dx.size + 1 + dy.size := by omega
  go_enter Tryz.func52, Tryz.ntmps52
  go_wp2_with fail
  have hw0 := HW0.out
  rw [hw0]
  clear hw0
  refine wp_region_belowC (by kernel_rfl) (by kernel_rfl) (fun WQ HQS HQN => ?_)
  refine HQS.go (fun K hK => ?_)
  go_simp
  apply Exists.intro
  refine ⟨fun W hW => ?_, hK _ ?_⟩
  · (try go_simp)
    exact rfl
  clear hK K
  refine HQS.go (fun K hK => ?_)
  go_simp
  apply Exists.intro
  refine ⟨fun W hW => ?_, hK _ ?_⟩
  · obtain ⟨q1, q2⟩ := HK.out W hW
    have ql := lt_of_cell q1
    go_simp
    exact rfl
  clear hK K
  refine HQS.go (fun K hK => ?_)
  go_simp
  apply Exists.intro
  refine ⟨fun W hW => ?_, hK _ ?_⟩
  · exact HDX.out W hW
  clear hK K
  refine HQS.go (fun K hK => ?_)
  go_simp
  apply Exists.intro
  refine ⟨fun W hW => ?_, hK _ ?_⟩
  · (try go_simp)
    exact rfl
  clear hK K
  refine HQS.go (fun K hK => ?_)
  go_simp
  apply Exists.intro
  refine ⟨fun W hW => ?_, hK _ ?_⟩
  · (try go_simp)
    exact rfl
  clear hK K
  refine HQS.go (fun K hK => ?_)
  go_simp
  apply Exists.intro
  refine ⟨fun W hW => ?_, hK _ ?_⟩
  · obtain ⟨q1, q2⟩ := HK.out W hW
    have ql := lt_of_cell q1
    go_simp
    exact rfl
  clear hK K
  refine HQS.go (fun K hK => ?_)
  go_simp
  apply Exists.intro
  refine ⟨fun W hW => ?_, hK _ ?_⟩
  · exact HDY.out W hW
  clear hK K
  refine HQS.go (fun K hK => ?_)
  go_simp
  apply Exists.intro
  refine ⟨fun W hW => ?_, hK _ ?_⟩
  · (try go_simp)
    exact rfl
  clear hK K
  refine HQS.go (fun K hK => ?_)
  go_simp
  apply Exists.intro
  refine ⟨fun W hW => ?_, hK _ ?_⟩
  · (try go_simp)
    exact rfl
  clear hK K
  refine HQN.go ?_
  intro W hW
  go_wp2
  go_ret
  exact ⟨rfl, below_trans HB0.out hW⟩
set_option maxHeartbeats 4000000 in
theorem rtext_any (s : Int × Int) (w : World) (h1 : 0 ≤ s.1 ∧ s.1 ≤ 9223372036854775807) (h2 : 0 ≤ s.2 ∧ s.2 ≤ 9223372036854775807) :
    Calls Tryz.prog 33 #[.agg #[.int .i64 s.1, .int .i64 s.2]] w fun e w' => e = .returned (.string (shT s)) ∧ Below w.heap.size w w' := by
  obtain ⟨x, y⟩ := s
  simp only at h1 h2 ⊢
  obtain ⟨X, rfl⟩ : ∃ X : Nat, x = X := ⟨x.toNat, by omega⟩
  obtain ⟨Y, rfl⟩ : ∃ Y : Nat, y = Y := ⟨y.toNat, by omega⟩
  have hsh : shT ((X : Int), (Y : Int)) = dec X ++ ⟨#[32]⟩ ++ dec Y := by
    unfold shT bSp
    rw [Int.toNat_natCast, Int.toNat_natCast]
  rw [hsh]
  obtain ⟨w0, hw0⟩ : ∃ w0, w.alloc (.cells #[.int .i64 (X : Int), .int .i64 (Y : Int)] 37) = w0 := ⟨_, rfl⟩
  have HB0 : Hid (Below w.heap.size w w0) := Lib.hid (by rw [← hw0]; exact below_alloc (Below.refl _ _) _)
  have HK : Hid (∀ W, Below w0.heap.size w0 W → W.cell? ⟨w.heap.size, 0, none⟩ = some (.int .i64 (X : Int)) ∧ W.cell? ⟨w.heap.size, 1, none⟩ = some (.int .i64 (Y : Int))) := Lib.hid (fun W hW => by
    have hb : Blk w0 w.heap.size 37 #[.int .i64 (X : Int), .int .i64 (Y : Int)] := by rw [← hw0]; exact Blk.new w _ _ _ rfl
    exact ⟨kept_cell hW (hb.of_cell rfl), kept_cell hW (hb.of_cell rfl)⟩)
  have HD : Hid (∀ (n : Nat) (W : World), n ≤ 9223372036854775807 → Below w.heap.size w W → Calls Tryz.prog 56 #[.int .i64 (n : Int)] W fun e w' => e = .returned (.string (dec n)) ∧ Below W.heap.size W w') := Lib.hid (fun n W h hW => (rdecimal n h W).mono fun _ _ ⟨he, hw⟩ => ⟨he, hw ▸ Below.refl _ _⟩)
  have HDX := Lib.hid (fun W (hW : Below w0.heap.size w0 W) => (HD.out X W (by omega) (below_trans HB0.out hW)).mono fun _ _ ⟨he, hb⟩ => (⟨he, below_trans hW hb⟩ : _ ∧ Below w0.heap.size w0 _))
  have HDY := Lib.hid (fun W (hW : Below w0.heap.size w0 W) => (HD.out Y W (by omega) (below_trans HB0.out hW)).mono fun _ _ ⟨he, hb⟩ => (⟨he, below_trans hW hb⟩ : _ ∧ Below w0.heap.size w0 _))
  have z1 := dec_size X (by omega)
  have z2 := dec_size Y (by omega)
  have HW0 := Lib.hid hw0
  clear hw0 h1 h2 hsh HD
  generalize dec X = dx at *
  generalize dec Y = dy at *
  have s1 : ¬ 9223372036854775807 < dx.size + 1 := by omega
  have s2 : ¬ 9223372036854775807 < (dx ++ ⟨#[32]⟩ : ByteArray).size + dy.size := by
    rw [ByteArray.size_append]
    have : (⟨#[32]⟩ : ByteArray).size = 1 := rfl
    omega
  have s3 : ¬ 9223372036854775807 < dx.size + 1 + dy.size := by omega
  go_enter Tryz.func33, Tryz.ntmps33
  go_wp2_with fail
  have hw0 := HW0.out
  rw [hw0]
  clear hw0
  refine wp_region_belowC (by kernel_rfl) (by kernel_rfl) (fun WQ HQS HQN => ?_)
  refine HQS.go (fun K hK => ?_)
  go_simp
  apply Exists.intro
  refine ⟨fun W hW => ?_, hK _ ?_⟩
  · (try go_simp)
    exact rfl
  clear hK K
  refine HQS.go (fun K hK => ?_)
  go_simp
  apply Exists.intro
  refine ⟨fun W hW => ?_, hK _ ?_⟩
  · obtain ⟨q1, q2⟩ := HK.out W hW
    have ql := lt_of_cell q1
    go_simp
    exact rfl
  clear hK K
  refine HQS.go (fun K hK => ?_)
  go_simp
  apply Exists.intro
  refine ⟨fun W hW => ?_, hK _ ?_⟩
  · exact HDX.out W hW
  clear hK K
  refine HQS.go (fun K hK => ?_)
  go_simp
  apply Exists.intro
  refine ⟨fun W hW => ?_, hK _ ?_⟩
  · (try go_simp)
    exact rfl
  clear hK K
  refine HQS.go (fun K hK => ?_)
  go_simp
  apply Exists.intro
  refine ⟨fun W hW => ?_, hK _ ?_⟩
  · (try go_simp)
    exact rfl
  clear hK K
  refine HQS.go (fun K hK => ?_)
  go_simp
  apply Exists.intro
  refine ⟨fun W hW => ?_, hK _ ?_⟩
  · obtain ⟨q1, q2⟩ := HK.out W hW
    have ql := lt_of_cell q1
    go_simp
    exact rfl
  clear hK K
  refine HQS.go (fun K hK => ?_)
  go_simp
  apply Exists.intro
  refine ⟨fun W hW => ?_, hK _ ?_⟩
  · exact HDY.out W hW
  clear hK K
  refine HQS.go (fun K hK => ?_)
  go_simp
  apply Exists.intro
  refine ⟨fun W hW => ?_, hK _ ?_⟩
  · (try go_simp)
    exact rfl
  clear hK K
  refine HQS.go (fun K hK => ?_)
  go_simp
  apply Exists.intro
  refine ⟨fun W hW => ?_, hK _ ?_⟩
  · (try go_simp)
    exact rfl
  clear hK K
  refine HQN.go ?_
  intro W hW
  go_wp2
  go_ret
  exact ⟨rfl, below_trans HB0.out hW⟩
end

end Go.Proofs.YtdlgejofggbifaaGreatDoor
