/- Split of the program where an element is not of the field. Split of the reference at all arguments. (So far: the answers ErrArg.) Split of the reference at all arguments: its loops. -/
import Derived.Test.YtbefcipeojahfaaGreatDoorSplit
import Derived.Test.YtbefcipeojahfaaGreatDoorRFld
import Derived.Test.YtbefcipeojahfaaGreatDoorShTx07
import Derived.Test.YtbefcipeojahfaaGreatDoorRef04
namespace Go.Proofs.YtbefcipeojahfaaGreatDoor

section
open Go.RowKit

set_option maxRecDepth 100000 in
set_option maxHeartbeats 1600000 in
theorem split_bad (secret : Int) (n m : Nat) (A : Option Addr) (c : Nat) (random : List Int) (w : World) (hA : Ints w A random) (h1 : 1 ≤ n) (h2 : n ≤ m) (h3 : m ≤ 16) (hn : random.length + 1 ≤ n) (hn' : n ≤ random.length + 1)
    (hall : (secret :: random).all elemB = false) :
    Calls Tryz.prog 7 #[.int .i64 secret, .int .i64 n, .int .i64 m, .slice A random.length c] w fun e w' =>
      e = .returned (.tuple #[.slice none 0 0, .int .i64 1]) ∧ Below w.heap.size w w' := by
  have HA := Lib.hid hA; clear hA
  have HALL := Lib.hid hall; clear hall
  have hmf : ∀ (fn : Fn) (first cap : Array Value) (w : World), (Instr.makeFunc fn first cap).run Tryz.prog w = .ok (.func fn first cap) w := fun _ _ _ _ => rfl
  have hb1 : ((random.length : Int) != (n : Int) - 1) = false := by simp; omega
  have hb2 : ((random.length : Int) == (n : Int) - 1) = true := by simp; omega
  obtain ⟨i0, hi0, hz0, hz1, hz2⟩ := info_parts info_int
  have hown0 := World.ownsRow_lit (base := w.heap.size) (e := 3) (size := 1) w #[Value.int .i64 secret] 1 (Nat.le_refl _) (by simp [maxLen]) rfl
  have HO := Lib.hid hown0; clear hown0
  go_enter Tryz.func7, Tryz.ntmps7
  go_wp2_with (at_builtin; refine wpList_app _ rfl (.tmp 41) (.tmp 42) 52 22 rfl w.heap.size 3 3 i0 (.int .i64 0) 1 8 Tryz.underlying52 Tryz.underlying22 hi0 hz0 hz1 hz2 rfl (by omega) _ 1 _ rfl HO.out A random.length c _ rfl (HA.out.below (below_alloc (Below.refl _ _) _)) (ints_oneCell _ _) (by simp only [maxLen]; omega) (by omega) (by simp) ?_)
  intro v1 w1 hown1 hg1
  obtain ⟨A1, c1, hv1, hc1, hm1, hrd1⟩ := Rd.of_own hown1
  obtain ⟨p, hp⟩ : ∃ p, p = secret :: random := ⟨_, rfl⟩
  have hpl : 1 + random.length = p.length := by rw [hp]; simp; omega
  rw [hpl] at hv1 hrd1
  have hp1 : p.length ≤ 16 := by omega
  subst hv1
  have hI1 : Ints w1 A1 p := by rw [hp] at hrd1 ⊢; exact hrd1
  have hB1 : Below w.heap.size w w1 := (below_alloc (Below.refl _ _) _).grown hg1 (by simp) (by simp [Value.ownBlock])
  clear hown1 hg1 hrd1 hpl
  have HI1 := Lib.hid hI1; clear hI1
  have HB1 := Lib.hid hB1; clear hB1
  rw [← hp] at HALL
  have HP := Lib.hid hp
  clear hp HO HA hn hn' hb1 hb2
  go_wp2_with fail
  go_loop [46] (fun u => ∃ k : Nat, k ≤ p.length ∧ u = .int .i64 k ∧ (p.take k).all elemB = true) (fun u => p.length - (intOf u).toNat)
  case atStart => exact ⟨0, Nat.zero_le _, rfl, rfl⟩
  case round =>
    obtain ⟨k, hk, rfl, hall⟩ := hrel
    have HAL := Lib.hid hall
    clear hall
    by_cases hlt : k < p.length
    · obtain ⟨x, hx⟩ := get_some p k hlt
      obtain ⟨b, off, rfl, hcell⟩ := HI1.out.at_ hx
      have HX := Lib.hid hx
      clear hx
      cases hex : elemB x
      case false =>
        have HEX := Lib.hid hex
        clear hex
        go_wp2_with fail
        refine (selement_any _ _).mono ?_
        rintro e w' ⟨rfl, rfl⟩
        rw [HEX.out]
        go_wp2
        go_ret2
        exact ⟨rfl, HB1.out⟩
      case true =>
        have HEX := Lib.hid hex
        clear hex
        go_wp2_with fail
        refine (selement_any _ _).mono ?_
        rintro e w' ⟨rfl, rfl⟩
        rw [HEX.out]
        go_wp2
        go_round
        case rel => exact ⟨k + 1, by omega, by go_num, by rw [all_take_succ _ _ _ _ HX.out, HAL.out, HEX.out]; rfl⟩
        case measure => simp [intOf]; omega
    · exfalso
      obtain rfl : k = p.length := by omega
      have := HAL.out
      rw [List.take_length, HALL.out] at this
      cases this

def splitOk (secret need total : Int) (random : List Int) : Bool := decide (1 ≤ total ∧ total ≤ 16 ∧ 1 ≤ need ∧ need ≤ total ∧ (random.length : Int) = need - 1) && (secret :: random).all elemB
def splitL (secret need total : Int) (random : List Int) : List (Int × Int) := if splitOk secret need total random then shs (secret :: random) total.toNat else []

set_option maxRecDepth 100000 in
set_option maxHeartbeats 4000000 in
theorem split_all (secret need total : Int) (A : Option Addr) (c : Nat) (random : List Int) (w : World) (hA : Ints w A random) (hmax : random.length ≤ 9223372036854775807) :
    Calls Tryz.prog 7 #[.int .i64 secret, .int .i64 need, .int .i64 total, .slice A random.length c] w fun e w' =>
      ∃ v, e = .returned (.tuple #[v, .int .i64 (if splitOk secret need total random then 0 else 1)]) ∧ w'.ownsRow w.heap.size 25 2 v (splitL secret need total random).length (flat2 (splitL secret need total random)) ∧ Below w.heap.size w w' := by
  by_cases hargs : 1 ≤ total ∧ total ≤ 16 ∧ 1 ≤ need ∧ need ≤ total ∧ (random.length : Int) = need - 1
  · obtain ⟨n, rfl⟩ : ∃ n : Nat, need = n := ⟨need.toNat, by omega⟩
    obtain ⟨m, rfl⟩ : ∃ m : Nat, total = m := ⟨total.toNat, by omega⟩
    cases hv : (secret :: random).all elemB
    · have e : splitOk secret n m random = false := by unfold splitOk; rw [hv, Bool.and_false]
      unfold splitL
      rw [e]
      exact (split_bad secret n m A c random w hA (by omega) (by omega) (by omega) (by omega) (by omega) hv).mono fun _ _ ⟨he, hb⟩ => ⟨_, he, ⟨rfl, .inl ⟨rfl, rfl⟩⟩, hb⟩
    · have e : splitOk secret n m random = true := by unfold splitOk; rw [hv, decide_eq_true hargs]; rfl
      unfold splitL
      rw [e, if_pos rfl, if_pos rfl, Int.toNat_natCast, shs_length]
      exact split_any secret n m A c random w hA (by omega) (by omega) (by omega) (by omega) (by omega) hv
  · have e : splitOk secret need total random = false := by unfold splitOk; rw [decide_eq_false hargs, Bool.false_and]
    unfold splitL
    rw [e]
    clear hA e
    by_cases h1 : total < 1
    · have dh1 : decide (total < 1) = true := decide_eq_true h1
      go_enter Tryz.func7, Tryz.ntmps7
      go_wp2
      go_ret2
      exact ⟨_, rfl, ⟨rfl, .inl ⟨rfl, rfl⟩⟩, Below.refl _ _⟩
    have dh1 : decide (total < 1) = false := decide_eq_false h1
    by_cases h2 : 16 < total
    · have dh2 : decide (16 < total) = true := decide_eq_true h2
      go_enter Tryz.func7, Tryz.ntmps7
      go_wp2
      go_ret2
      exact ⟨_, rfl, ⟨rfl, .inl ⟨rfl, rfl⟩⟩, Below.refl _ _⟩
    have dh2 : decide (16 < total) = false := decide_eq_false h2
    by_cases h3 : need < 1
    · have dh3 : decide (need < 1) = true := decide_eq_true h3
      go_enter Tryz.func7, Tryz.ntmps7
      go_wp2
      go_ret2
      exact ⟨_, rfl, ⟨rfl, .inl ⟨rfl, rfl⟩⟩, Below.refl _ _⟩
    have dh3 : decide (need < 1) = false := decide_eq_false h3
    by_cases h4 : total < need
    · have dh4 : decide (total < need) = true := decide_eq_true h4
      go_enter Tryz.func7, Tryz.ntmps7
      go_wp2
      go_ret2
      exact ⟨_, rfl, ⟨rfl, .inl ⟨rfl, rfl⟩⟩, Below.refl _ _⟩
    have dh4 : decide (total < need) = false := decide_eq_false h4
    have hsub : IntKind.i64.wrap (need - 1) = need - 1 := by rw [IntWalk.i64_in _ (by omega)]
    have hb1 : ((random.length : Int) == need - 1) = false := by simp only [beq_eq_false_iff_ne, ne_eq]; omega
    have hb2 : ((random.length : Int) != need - 1) = true := by rw [bne, hb1]; rfl
    clear hargs
    go_enter Tryz.func7, Tryz.ntmps7
    go_wp2
    go_ret2
    exact ⟨_, rfl, ⟨rfl, .inl ⟨rfl, rfl⟩⟩, Below.refl _ _⟩
end

section
open Go.RowKit

set_option maxRecDepth 100000 in
set_option maxHeartbeats 8000000 in
theorem rsplit_args (secret need total : Int) (A : Option Addr) (c : Nat) (random : List Int) (w : World) (hmax : random.length ≤ 9223372036854775807)
    (hbad : elemB secret = false ∨ ¬ (1 ≤ total ∧ total ≤ 16 ∧ 1 ≤ need ∧ need ≤ total ∧ (random.length : Int) = need - 1)) :
    Calls Tryz.prog 8 #[.int .i64 secret, .int .i64 need, .int .i64 total, .slice A random.length c] w fun e w' => e = .returned (.tuple #[.slice none 0 0, .int .i64 1]) ∧ Below w.heap.size w w' := by
  have HEL := Lib.hid (relement_any secret w)
  cases hs : elemB secret
  case false =>
    rw [hs] at HEL
    clear hbad hs
    go_enter Tryz.func8, Tryz.ntmps8
    go_wp2_with fail
    refine HEL.out.mono ?_
    rintro e _ ⟨rfl, rfl⟩
    go_wp2
    go_ret2
    exact ⟨rfl, Below.refl _ _⟩
  case true =>
  rw [hs] at HEL
  have hargs := hbad.resolve_left (by rw [hs]; simp)
  clear hbad hs
  by_cases h1 : total < 1
  · have d1 : decide (total < 1) = true := decide_eq_true h1
    go_enter Tryz.func8, Tryz.ntmps8
    go_wp2_with fail
    refine HEL.out.mono ?_
    rintro e _ ⟨rfl, rfl⟩
    go_wp2
    go_ret2
    exact ⟨rfl, Below.refl _ _⟩
  have d1 : decide (total < 1) = false := decide_eq_false h1
  by_cases h2 : 16 < total
  · have d2 : decide (16 < total) = true := decide_eq_true h2
    go_enter Tryz.func8, Tryz.ntmps8
    go_wp2_with fail
    refine HEL.out.mono ?_
    rintro e _ ⟨rfl, rfl⟩
    go_wp2
    go_ret2
    exact ⟨rfl, Below.refl _ _⟩
  have d2 : decide (16 < total) = false := decide_eq_false h2
  by_cases h3 : need < 1
  · have d3 : decide (need < 1) = true := decide_eq_true h3
    go_enter Tryz.func8, Tryz.ntmps8
    go_wp2_with fail
    refine HEL.out.mono ?_
    rintro e _ ⟨rfl, rfl⟩
    go_wp2
    go_ret2
    exact ⟨rfl, Below.refl _ _⟩
  have d3 : decide (need < 1) = false := decide_eq_false h3
  by_cases h4 : total < need
  · have d4 : decide (total < need) = true := decide_eq_true h4
    go_enter Tryz.func8, Tryz.ntmps8
    go_wp2_with fail
    refine HEL.out.mono ?_
    rintro e _ ⟨rfl, rfl⟩
    go_wp2
    go_ret2
    exact ⟨rfl, Below.refl _ _⟩
  have d4 : decide (total < need) = false := decide_eq_false h4
  have hsub : IntKind.i64.wrap (need - 1) = need - 1 := by rw [IntWalk.i64_in _ (by omega)]
  have hb1 : ((random.length : Int) == need - 1) = false := by simp only [beq_eq_false_iff_ne, ne_eq]; omega
  have hb2 : ((random.length : Int) != need - 1) = true := by rw [bne, hb1]; rfl
  clear hargs
  go_enter Tryz.func8, Tryz.ntmps8
  go_wp2_with fail
  refine HEL.out.mono ?_
  rintro e _ ⟨rfl, rfl⟩
  go_wp2
  go_ret2
  exact ⟨rfl, Below.refl _ _⟩
end

section
open Go.RowKit

theorem shs_succ (p : List Int) (m : Nat) : shs p (m + 1) = shs p m ++ [((m : Int) + 1, evp p ((m : Int) + 1))] := by
  unfold shs; rw [List.range_succ, List.map_append]; rfl

set_option maxRecDepth 100000 in
set_option maxHeartbeats 16000000 in
theorem rsplit_ok (secret : Int) (n m : Nat) (A : Option Addr) (c : Nat) (random : List Int) (w : World) (hA : Ints w A random) (h1 : 1 ≤ n) (h2 : n ≤ m) (h3 : m ≤ 16) (hn : random.length + 1 ≤ n) (hn' : n ≤ random.length + 1) (hs : elemB secret = true) (v : Bool) (hv : random.all elemB = v) :
    Calls Tryz.prog 8 #[.int .i64 secret, .int .i64 n, .int .i64 m, .slice A random.length c] w fun e w' =>
      ∃ u, e = .returned (.tuple #[u, .int .i64 (if v then 0 else 1)]) ∧ w'.ownsRow w.heap.size 25 2 u (if v then shs (secret :: random) m else []).length (flat2 (if v then shs (secret :: random) m else [])) ∧ Below w.heap.size w w' := by
  obtain ⟨p, hp⟩ : ∃ p, p = secret :: random := ⟨_, rfl⟩
  have HP := Lib.hid hp
  rw [← hp]
  clear hp
  have HA := Lib.hid hA
  have HV := Lib.hid hv
  have HS := Lib.hid hs
  obtain ⟨i0, hi0, hz0, hz1, hz2⟩ := info_parts info_int
  have HI := Lib.hid (And.intro hi0 (And.intro hz0 (And.intro hz1 hz2)))
  obtain ⟨i1, hj0, hy0, hy1, hy2⟩ := info_parts info_share
  have HJ := Lib.hid (And.intro hj0 (And.intro hy0 (And.intro hy1 hy2)))
  clear hi0 hz0 hz1 hz2 hj0 hy0 hy1 hy2
  have hown0 := World.ownsRow_lit (base := w.heap.size) (e := 3) (size := 1) w #[Value.int .i64 secret] 1 (Nat.le_refl _) (by simp [maxLen]) rfl
  have HO := Lib.hid hown0
  have HEL := Lib.hid (relement_any secret w)
  rw [hs] at HEL
  have HEA : Hid (∀ a W, Calls Tryz.prog 28 #[.int .i64 a] W fun e w' => e = .returned (.bool (elemB a)) ∧ W = w') := Lib.hid (fun a W => relement_any a W)
  have d1 : decide ((m : Int) < 1) = false := decide_eq_false (by omega)
  have d2 : decide (16 < (m : Int)) = false := decide_eq_false (by omega)
  have d3 : decide ((n : Int) < 1) = false := decide_eq_false (by omega)
  have d4 : decide (m < n) = false := decide_eq_false (by omega)
  have hb1 : ((random.length : Int) != (n : Int) - 1) = false := by simp; omega
  have hb2 : ((random.length : Int) == (n : Int) - 1) = true := by simp; omega
  clear hown0 hA hs hv
  go_enter Tryz.func8, Tryz.ntmps8
  go_wp2_with fail
  refine HEL.out.mono ?_
  rintro e _ ⟨rfl, rfl⟩
  go_wp2_with fail

  go_loopw [10, 11] (fun u10 u11 wr => ∃ k : Nat, k ≤ random.length ∧ u11 = .int .i64 k ∧ (random.take k).all elemB = true ∧ Below w.heap.size w wr ∧ wr.ownsRow w.heap.size 3 1 u10 (1 + k) ((secret :: random.take k).map (Value.int .i64))) (fun _ u11 _ => random.length - (intOf u11).toNat)
  case atStart => exact ⟨0, Nat.zero_le _, rfl, rfl, below_alloc (Below.refl _ _) _, HO.out⟩
  case round =>
  obtain ⟨k, hk, rfl, hall, hb, ho⟩ := hrel
  have HALL := Lib.hid hall
  have HB := Lib.hid hb
  have HOW := Lib.hid ho
  clear hall hb ho
  by_cases hlt : k < random.length
  case pos =>
    obtain ⟨x, hx⟩ := get_some random k hlt
    obtain ⟨b, off, rfl, hc⟩ := (HA.out.below HB.out).at_ hx
    have hcl := lt_of_cell hc
    have HX := Lib.hid hx
    clear hx
    cases hex : elemB x
    case false =>
      have HEX := Lib.hid hex
      have hvf : v = false := by rw [← HV.out]; exact all_false_of elemB random k x HX.out hex
      clear hex
      subst hvf
      go_wp2_with fail
      refine (HEA.out x wr).mono ?_
      rintro e _ ⟨rfl, rfl⟩
      rw [HEX.out]
      go_wp2
      go_ret2
      exact ⟨_, rfl, ⟨rfl, .inl ⟨rfl, rfl⟩⟩, HB.out⟩
    case true =>
      have HEX := Lib.hid hex
      clear hex
      go_wp2_with fail
      refine (HEA.out x wr).mono ?_
      rintro e _ ⟨rfl, rfl⟩
      rw [HEX.out]
      go_wp2_with (at_builtin; refine wpList_app _ rfl (.tmp 57) (.tmp 62) 22 22 rfl w.heap.size 3 3 i0 _ 1 8 Tryz.underlying22 Tryz.underlying22 HI.out.1 HI.out.2.1 HI.out.2.2.1 HI.out.2.2.2 rfl (by omega) u10 (1 + k) _ rfl (HOW.out.alloc _) (some ⟨wr.heap.size, 0, none⟩) 1 1 [.int .i64 x] rfl (Rd_new wr #[.int .i64 x] _ 1 1 _ rfl rfl) (by simp [Value.oneCell']) (by simp only [maxLen]; omega) (by omega) (by have := HB.out.size; simp; omega) ?_)
      intro v4 w4 hown4 hg4
      have HB4 : Hid (Below w.heap.size w w4) := Lib.hid ((below_alloc HB.out _).grown hg4 (by have := HB.out.size; simp; omega) (fun j hj => (HOW.out.lt j hj).1))
      have HO4 := Lib.hid hown4
      clear hown4 hg4
      go_wp2
      go_roundw
      case rel => exact ⟨k + 1, by omega, by go_num, by rw [all_take_succ _ _ _ _ HX.out, HALL.out, HEX.out]; rfl, HB4.out, by rw [take_snoc _ _ _ HX.out, ← Nat.add_assoc]; simpa using HO4.out⟩
      case measure => simp [intOf]; omega
  case neg =>
  obtain rfl : k = random.length := by omega
  have hvt : v = true := by rw [← HV.out]; have := HALL.out; rwa [List.take_length] at this
  subst hvt
  rw [List.take_length] at HALL HOW
  obtain ⟨A1, c1, rfl, -, -, hrd1⟩ := Rd.of_own HOW.out
  have hp := HP.out
  have hpl : p.length = 1 + random.length := by rw [hp]; simp; omega
  have hp1 : p.length ≤ 16 := by omega
  have hpall : p.all elemB = true := by rw [hp, List.all_cons, HALL.out, HS.out]; rfl
  rw [← hp] at hrd1
  have HI1 : Hid (Ints wr A1 p) := Lib.hid (by unfold Ints; rw [hpl]; exact hrd1)
  have HEV : Hid (∀ (x : Nat) (W : World), x < 16 → Below wr.heap.size wr W → Calls Tryz.prog 29 #[.slice A1 (1 + random.length) c1, .int .i64 ((x : Int) + 1)] W fun e w' => e = .returned (.tuple #[.int .i64 (evp p ((x : Int) + 1)), .int .i64 0]) ∧ Below W.heap.size W w') := Lib.hid (fun x W hx hW => by
    have := reval_any A1 c1 p _ W (HI1.out.below hW) hp1 hpall (by rw [elemB_iff]; omega : elemB ((x : Int) + 1) = true)
    rw [hpl] at this
    exact this)
  clear hp hpl hp1 hpall hrd1 HOW HO HP
  have HO0 : Hid (wr.ownsRow wr.heap.size 25 2 (.slice none 0 0) 0 []) := ⟨rfl, .inl ⟨rfl, rfl⟩⟩
  have HB1 := HB
  go_wp2_with fail
  obtain ⟨w1, rfl⟩ : ∃ w1 : World, w1 = wr := ⟨_, rfl⟩
  go_loopw [12, 13, 14, 15] (fun u12 u13 _ _ wr => ∃ k : Nat, k ≤ m ∧ u13 = .int .i64 ((k : Int) + 1) ∧ Below w1.heap.size w1 wr ∧ wr.ownsRow w1.heap.size 25 2 u12 k (flat2 (shs p k))) (fun _ u13 _ _ _ => m + 1 - (intOf u13).toNat)
  case atStart => exact ⟨0, Nat.zero_le _, rfl, Below.refl _ _, HO0.out⟩
  case round =>
  obtain ⟨k, hk, rfl, hb, ho⟩ := hrel
  have HB := Lib.hid hb
  have HOW := Lib.hid ho
  clear hb ho
  by_cases hlt : k < m
  case pos =>
    have hki : (k : Int) + 1 ≤ (m : Int) := by omega
    have HE1 := Lib.hid (HEV.out k wr (by omega) HB.out)
    generalize hy : evp p ((k : Int) + 1) = y at *
    have HY := Lib.hid hy
    clear hy
    go_wp2_with fail
    refine HE1.out.mono ?_
    rintro e w2 ⟨rfl, hb2⟩
    have HB2 := Lib.hid (below_trans HB.out hb2)
    have HO2 : Hid ((w2.alloc (.cells #[.int .i64 ((k : Int) + 1), .int .i64 y] 25)).ownsRow w1.heap.size 25 2 u12 k (flat2 (shs p k))) := Lib.hid (row_below (row_below HOW.out hb2) (below_alloc (Below.refl _ _) _))
    clear hb2
    go_wp2_with (at_builtin; refine wpList_app _ rfl (.tmp 75) (.tmp 79) 23 23 rfl w1.heap.size 25 25 i1 _ 2 16 Tryz.underlying23 Tryz.underlying23 HJ.out.1 HJ.out.2.1 HJ.out.2.2.1 HJ.out.2.2.2 rfl (by omega) u12 k _ rfl HO2.out (some ⟨w2.heap.size, 0, none⟩) 1 1 [.int .i64 ((k : Int) + 1), .int .i64 y] rfl (Rd_new w2 #[.int .i64 ((k : Int) + 1), .int .i64 y] _ 2 1 _ rfl rfl) (by simp [Value.oneCell']) (by simp only [maxLen]; omega) (by omega) (by have := HB2.out.size; simp; omega) ?_)
    intro v4 w4 hown4 hg4
    have HB4 : Hid (Below w1.heap.size w1 w4) := Lib.hid ((below_alloc HB2.out _).grown hg4 (by have := HB2.out.size; simp; omega) (fun j hj => (HO2.out.lt j hj).1))
    have HO4 := Lib.hid hown4
    clear hown4 hg4
    go_wp2
    go_roundw
    case rel => exact ⟨k + 1, by omega, by go_num, HB4.out, by rw [shs_succ, flat2_append, HY.out]; exact HO4.out⟩
    case measure => simp [intOf]; omega
  case neg =>
  obtain rfl : k = m := by omega
  go_wp2
  go_ret2
  exact ⟨_, rfl, by rw [shs_length]; exact own_mono HOW.out HB1.out.size, below_trans HB1.out HB.out⟩

set_option maxHeartbeats 4000000 in
theorem rsplit_all (secret need total : Int) (A : Option Addr) (c : Nat) (random : List Int) (w : World) (hA : Ints w A random) (hmax : random.length ≤ 9223372036854775807) :
    Calls Tryz.prog 8 #[.int .i64 secret, .int .i64 need, .int .i64 total, .slice A random.length c] w fun e w' =>
      ∃ v, e = .returned (.tuple #[v, .int .i64 (if splitOk secret need total random then 0 else 1)]) ∧ w'.ownsRow w.heap.size 25 2 v (splitL secret need total random).length (flat2 (splitL secret need total random)) ∧ Below w.heap.size w w' := by
  by_cases hbad : elemB secret = false ∨ ¬ (1 ≤ total ∧ total ≤ 16 ∧ 1 ≤ need ∧ need ≤ total ∧ (random.length : Int) = need - 1)
  · have e : splitOk secret need total random = false := by
      unfold splitOk
      rcases hbad with h | h
      · rw [List.all_cons, h, Bool.false_and, Bool.and_false]
      · rw [decide_eq_false h, Bool.false_and]
    unfold splitL
    rw [e]
    exact (rsplit_args secret need total A c random w hmax hbad).mono fun _ _ ⟨he, hb⟩ => ⟨_, he, ⟨rfl, .inl ⟨rfl, rfl⟩⟩, hb⟩
  · have hs : elemB secret = true := by
      cases h : elemB secret
      · exact absurd (.inl h) hbad
      · rfl
    have hargs : 1 ≤ total ∧ total ≤ 16 ∧ 1 ≤ need ∧ need ≤ total ∧ (random.length : Int) = need - 1 := Classical.byContradiction fun h => hbad (.inr h)
    obtain ⟨n, rfl⟩ : ∃ n : Nat, need = n := ⟨need.toNat, by omega⟩
    obtain ⟨m, rfl⟩ : ∃ m : Nat, total = m := ⟨total.toNat, by omega⟩
    have e : splitOk secret n m random = random.all elemB := by unfold splitOk; rw [decide_eq_true hargs, List.all_cons, hs]; rfl
    unfold splitL
    rw [e, Int.toNat_natCast]
    exact rsplit_ok secret n m A c random w hA (by omega) (by omega) (by omega) (by omega) (by omega) hs _ rfl
end

end Go.Proofs.YtbefcipeojahfaaGreatDoor
