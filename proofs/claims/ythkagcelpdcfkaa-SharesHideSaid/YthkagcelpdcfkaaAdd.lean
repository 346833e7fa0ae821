/- The law SharesAdd: its walk. -/
import Derived.Test.YthkagcelpdcfkaaLawB
import Derived.Deep.RegionHeld3
import Derived.Deep.AppendLies
namespace Go.Proofs.Ythkagcelpdcfkaa
open Go.RowKit

def addL (a b : List Int) : List Int := List.zipWith (fun x y => (x + y) % 2147483647) a b

theorem evp_addL (a b : List Int) (h : a.length = b.length) (x : Int) : evp (addL a b) x = (evp a x + evp b x) % 2147483647 := by
  induction a generalizing b with
  | nil => cases b with
    | nil => rfl
    | cons _ _ => simp at h
  | cons u a ih =>
    cases b with
    | nil => simp at h
    | cons v b =>
      have := ih b (by simpa using h)
      simp only [addL, List.zipWith_cons_cons, evp] at *
      rw [this]
      have r1 : phi ((((evp a x + evp b x) % 2147483647) * x + (u + v) % 2147483647) % 2147483647) = phi (((evp a x * x + u) % 2147483647 + (evp b x * x + v) % 2147483647) % 2147483647) := by
        simp only [phi_emod, phi_add, phi_mul]; grind
      exact phi_inj (by omega) (by omega) (by omega) (by omega) r1

theorem at_rd {w : World} {A : Option Addr} {m : Nat} {l : List (Int × Int)} (h : Rd w 2 A m (flat2 l)) {k : Nat} {p : Int × Int} (hk : l[k]? = some p) :
    ∃ b off, A = some ⟨b, off, none⟩ ∧ w.cell? ⟨b, off + k * 2, none⟩ = some (.int .i64 p.1) ∧ w.cell? ⟨b, off + k * 2 + 1, none⟩ = some (.int .i64 p.2) := (rd_prs h).2.at_ hk

theorem shs_get (p : List Int) (m k : Nat) (h : k < m) : (shs p m)[k]? = some ((k : Int) + 1, evp p ((k : Int) + 1)) := by
  simp [shs, h]

set_option maxHeartbeats 4000000 in
theorem add_any2 (secret other : Int) (A B : Option Addr) (c d : Nat) (raw second : List Int) (a b : Nat) (w : World) (hA : Ints w A raw) (hB : Ints w B second) (hraw : raw.length ≤ 9223372036854775807) (hsecond : second.length ≤ 9223372036854775807) (ha : a < 256) (hb : b < 256) :
    Calls Try.prog 6 #[.int .i64 secret, .int .i64 other, .slice A raw.length c, .slice B second.length d, .int .u8 a, .int .u8 b] w fun e w' => e = .returned (.bool true) ∧ Below w.heap.size w w' := by
  have HA := Lib.hid hA; clear hA
  have HB := Lib.hid hB; clear hB
  have HSE := Lib.hid (elemB_mod secret)
  have HSO := Lib.hid (elemB_mod other)
  obtain ⟨n1, nm, m8⟩ := nm_of a b
  go_enter Try.func6, Try.ntmps6
  go_wp2_with fail
  refine (head_any _).mono ?_
  rintro e w1 ⟨rfl, hb1⟩
  have HB1 := Lib.hid hb1; clear hb1
  go_wp2_with fail
  refine (made_b A c raw a b _ (HA.out.below HB1.out) hraw ha hb).mono ?_
  rintro e w2 ⟨A2, c2, r1, rfl, -, hl1, he1, hi1, hb2⟩
  have HB2 := Lib.hid (below_trans HB1.out hb2); clear hb2
  have HL1 := Lib.hid hl1; clear hl1
  have HE1 := Lib.hid he1; clear he1
  have HI1 := Lib.hid hi1; clear hi1
  go_wp2_with fail
  refine (made_b B d second a b _ (HB.out.below HB2.out) hsecond ha hb).mono ?_
  rintro e w3 ⟨A3, c3, r2, rfl, -, hl2, he2, hi2, hb3⟩
  have HI1' := Lib.hid (HI1.out.below hb3)
  have HB3 := Lib.hid (below_trans HB2.out hb3); clear hb3
  have HL2 := Lib.hid hl2; clear hl2
  have HE2 := Lib.hid he2; clear he2
  have HI2 := Lib.hid hi2; clear hi2
  generalize nOf a = n at *
  generalize mOf a b = m at *
  go_wp2_with fail
  refine (lelement_any _ _).mono ?_
  rintro e w' ⟨rfl, rfl⟩
  go_wp2_with fail
  refine (split_b (secret % 2147483647) n m A2 c2 r1 _ HSE.out HI1'.out n1 nm m8 HL1.out HE1.out).mono ?_
  rintro e w4 ⟨A4, c4, rfl, hr4, -, hb4⟩
  have HI2' := Lib.hid (HI2.out.below hb4)
  have HB4 := Lib.hid (below_trans HB3.out hb4); clear hb4
  have HR4 := Lib.hid hr4; clear hr4
  go_wp2_with fail
  refine (lelement_any _ _).mono ?_
  rintro e w' ⟨rfl, rfl⟩
  go_wp2_with fail
  refine (split_b (other % 2147483647) n m A3 c3 r2 _ HSO.out HI2'.out n1 nm m8 HL2.out HE2.out).mono ?_
  rintro e w5 ⟨A5, c5, rfl, hr5, -, hb5⟩
  have HR4' := Lib.hid (HR4.out.below hb5)
  have HB5 := Lib.hid (below_trans HB4.out hb5); clear hb5
  have HR5 := Lib.hid hr5; clear hr5
  have hmm : ((m : Int) == (m : Int)) = true := by simp
  have hmm2 : ((m : Int) != (m : Int)) = false := by simp
  go_wp2_with fail
  obtain ⟨i0, hi0, hz0, hz1, hz2⟩ := info_parts info_share
  have HI := Lib.hid (And.intro hi0 (And.intro hz0 (And.intro hz1 hz2)))
  clear hi0 hz0 hz1 hz2
  go_loopw [24, 25] (fun u24 u25 wr => ∃ k : Nat, k ≤ m ∧ u25 = .int .i64 k ∧ Below w5.heap.size w5 wr ∧ wr.ownsRow w5.heap.size 36 2 u24 k (flat2 ((shs (addL (secret % 2147483647 :: r1) (other % 2147483647 :: r2)) m).take k))) (fun _ u25 _ => m - (intOf u25).toNat)
  case atStart => exact ⟨0, Nat.zero_le _, rfl, Below.refl _ _, World.ownsRow_nil _ _ _ _⟩
  case round =>
    obtain ⟨k, hk, rfl, hBr, hO⟩ := hrel
    have HBR := Lib.hid hBr; clear hBr
    have HO := Lib.hid hO; clear hO
    by_cases hlt : k < m
    · obtain ⟨b4, o4, rfl, hx1, hx2⟩ := at_rd HR4'.out (shs_get (secret % 2147483647 :: r1) m k hlt)
      obtain ⟨b5, o5, rfl, hy1, hy2⟩ := at_rd HR5.out (shs_get (other % 2147483647 :: r2) m k hlt)
      have ag : u24.ownBlock ≠ some b4 := fun e => by have h1 := lt_of_cell hx1; have h2 := (HO.out.lt _ e).1; omega
      have ah : u24.ownBlock ≠ some b5 := fun e => by have h1 := lt_of_cell hy1; have h2 := (HO.out.lt _ e).1; omega
      have AG := Lib.hid ag; clear ag
      have AH := Lib.hid ah; clear ah
      replace hx1 := kept_cell HBR.out hx1
      replace hx2 := kept_cell HBR.out hx2
      replace hy2 := kept_cell HBR.out hy2
      have lg := lt_of_cell hx1
      have lh := lt_of_cell hy2
      clear hy1
      have hs := evp_addL (secret % 2147483647 :: r1) (other % 2147483647 :: r2) (by simp [HL1.out, HL2.out]) ((k : Int) + 1)
      obtain ⟨p0, p1⟩ := evp_range (secret % 2147483647 :: r1) ((k : Int) + 1)
      obtain ⟨q0, q1⟩ := evp_range (other % 2147483647 :: r2) ((k : Int) + 1)
      have hg := shs_get (addL (secret % 2147483647 :: r1) (other % 2147483647 :: r2)) m k hlt
      rw [hs] at hg
      have HG := Lib.hid hg
      clear hs hg
      simp only at hx1 hx2 hy2
      generalize evp (secret % 2147483647 :: r1) ((k : Int) + 1) = y1 at *
      generalize evp (other % 2147483647 :: r2) ((k : Int) + 1) = y2 at *
      go_wp2
      have hown := HO.out
      have hwr : IntKind.i64.wrap (y1 + y2) = y1 + y2 := IntWalk.i64_in _ (by omega)
      have hsz := HBR.out.size
      go_region_held3 (fun w' => w'.cell? ⟨b4, o4 + k * 2, none⟩ = some (.int .i64 ((k : Int) + 1)) ∧ w'.cell? ⟨b4, o4 + k * 2 + 1, none⟩ = some (.int .i64 y1) ∧ w'.cell? ⟨b5, o5 + k * 2 + 1, none⟩ = some (.int .i64 y2))
        (first
          | go_keep
          | (go_split_ands
             refine ⟨?_, ?_, ?_⟩
             · (rw [hgrow.cell_far _ (by simp; omega) (Ne.symm AG.out)]; assumption)
             · (rw [hgrow.cell_far _ (by simp; omega) (Ne.symm AG.out)]; assumption)
             · (rw [hgrow.cell_far _ (by simp; omega) (Ne.symm AH.out)]; assumption)))
        (first
          | (go_at_call 11; refine (lelement_any _ _).mono ?_; rintro e w' ⟨rfl, rfl⟩)
          | ((refine step_append_lies _ (by rfl) _ _ _ (by rfl) w5.heap.size 36 i0 _ 2 16 Try.underlying26 HI.out.1 HI.out.2.1 HI.out.2.2.1 HI.out.2.2.2 rfl (by omega) u24 k _ (by rfl) ((hown.alloc _).drew) ⟨wr.heap.size, 0, none⟩ 1 1 [.int .i64 ((k : Int) + 1), .int .i64 ((y1 + y2) % 2147483647)] (by rfl) (by rfl) (World.news_of_block (cs := #[.int .i64 ((k : Int) + 1), .int .i64 ((y1 + y2) % 2147483647)]) (t := 36) (fr := (0, 0)) (heap_alloc_new wr _)) (by simp [Value.oneCell']) (by omega) (by simp only [maxLen]; omega) (by omega) (by simp; omega) (wr.heap.size + 1) (by simp) ?_; intro gg cap w6 hown1 hgrow hat hltg)))
      have hB6 : Below w5.heap.size w5 w6 := ((below_alloc HBR.out _).drew).grown hgrow (by simp; omega) (fun j hj => (HO.out.lt j hj).1)
      have e6 : flat2 ((shs (addL (secret % 2147483647 :: r1) (other % 2147483647 :: r2)) m).take k) ++ [.int .i64 ((k : Int) + 1), .int .i64 ((y1 + y2) % 2147483647)] = flat2 ((shs (addL (secret % 2147483647 :: r1) (other % 2147483647 :: r2)) m).take (k + 1)) := by
        rw [take_snoc _ k _ HG.out, flat2_append]; rfl
      rw [e6] at hown1
      have HB6 := Lib.hid hB6
      have HOWN := Lib.hid hown1
      clear hB6 hown1 hgrow hat e6 hown hwr
      go_wp2
      go_roundw
      case rel => exact ⟨k + 1, by omega, by go_num, HB6.out, HOWN.out⟩
      case measure => simp [intOf]; omega
    · obtain rfl : k = m := by omega
      have hO2 := HO.out
      rw [List.take_of_length_le (by rw [shs_length]; omega)] at hO2
      obtain ⟨A6, c6, rfl, hc6, -, hrd6⟩ := Rd.of_own hO2
      have hP6 := (rd_prs hrd6).2
      have hlen : (shs (addL (secret % 2147483647 :: r1) (other % 2147483647 :: r2)) k).length = k := shs_length _ _
      have hcall := join_full A6 c6 _ n wr hP6 (by rw [hlen]; omega) (by rw [hlen]; exact hc6)
      rw [hlen] at hcall
      have hpl : (addL (secret % 2147483647 :: r1) (other % 2147483647 :: r2)).length ≤ n := by simp [addL, HL1.out, HL2.out]; omega
      have hj := joinF_on _ n _ (shs_on (addL (secret % 2147483647 :: r1) (other % 2147483647 :: r2)) k (by omega)) n1 (by omega) hpl (by rw [hlen]; exact nm)
      rw [evp_addL _ _ (by simp [HL1.out, HL2.out]), evp_zero _ _ HSE.out, evp_zero _ _ HSO.out] at hj
      have HCALL := Lib.hid hcall
      have HJ := Lib.hid hj
      clear hcall hj hpl hP6 hrd6 hO2 hlen
      go_wp2_with fail
      refine HCALL.out.mono ?_
      rintro e w6 ⟨rfl, hb6⟩
      rw [HJ.out]
      have HB6 := Lib.hid (below_trans HB5.out (below_trans HBR.out hb6))
      clear hb6
      go_wp2_with fail
      refine (lelement_any _ _).mono ?_
      rintro e w' ⟨rfl, rfl⟩
      go_wp2_with fail
      refine (lelement_any _ _).mono ?_
      rintro e w' ⟨rfl, rfl⟩
      go_wp2_with fail
      refine (lelement_any _ _).mono ?_
      rintro e w' ⟨rfl, rfl⟩
      go_wp2
      go_ret
      exact ⟨rfl, HB6.out⟩

end Go.Proofs.Ythkagcelpdcfkaa
