/- The law SharesHide: its walk. -/
import Derived.Test.YthkagcelpdcfkaaThrough3
import Derived.Deep.AppendLies
namespace Go.Proofs.Ythkagcelpdcfkaa
open Go.RowKit

theorem own_ne {w : World} {b1 b2 e1 e2 s1 s2 n1 n2 : Nat} {v1 v2 : Value} {x1 x2 : List Value} (h1 : w.ownsRow b1 e1 s1 v1 n1 x1) (h2 : w.ownsRow b2 e2 s2 v2 n2 x2) (hne : e1 ≠ e2) : v1.ownBlock = none ∨ v1.ownBlock ≠ v2.ownBlock := by
  rcases h1.2 with ⟨rfl, _⟩ | ⟨g, cap, cur, rfl, _, hg, _⟩
  · exact .inl rfl
  · right
    rcases h2.2 with ⟨rfl, _⟩ | ⟨g', cap', cur', rfl, _, hg', _⟩
    · simp [Value.ownBlock]
    · simp only [Value.ownBlock, ne_eq, Option.some.injEq]
      intro e
      subst e
      rw [hg] at hg'
      injection hg' with hg'
      injection hg' with _ ht
      exact hne ht

def placesL (first m i : Nat) : List Int := (List.range i).map fun j => (((first + j) % m : Nat) : Int)
def pointsL (o : Int) (p : List Int) (first m i : Nat) : List (Int × Int) := (0, o) :: (List.range i).map fun j => ((((first + j) % m : Nat) : Int) + 1, evp p ((((first + j) % m : Nat) : Int) + 1))

theorem placesL_succ (first m i : Nat) : placesL first m (i + 1) = placesL first m i ++ [(((first + i) % m : Nat) : Int)] := by simp [placesL, List.range_succ]
theorem pointsL_succ (o : Int) (p : List Int) (first m i : Nat) : pointsL o p first m (i + 1) = pointsL o p first m i ++ [((((first + i) % m : Nat) : Int) + 1, evp p ((((first + i) % m : Nat) : Int) + 1))] := by simp [pointsL, List.range_succ]
theorem pointsL_length (o : Int) (p : List Int) (first m i : Nat) : (pointsL o p first m i).length = i + 1 := by simp [pointsL]
theorem placesL_length (first m i : Nat) : (placesL first m i).length = i := by simp [placesL]

theorem pointsL_good (o : Int) (p : List Int) (first m i : Nat) (ho : elemB o = true) (hm : 0 < m) (hm' : m ≤ 100) (hi : i ≤ m) : Good (pointsL o p first m i) := by
  refine ⟨fun q hq => ?_, ?_⟩
  · rcases List.mem_cons.1 hq with rfl | hq
    · exact ⟨rfl, ho⟩
    · obtain ⟨j, _, rfl⟩ := List.mem_map.1 hq
      have := Nat.mod_lt (first + j) hm
      have r := evp_range p ((((first + j) % m : Nat) : Int) + 1)
      exact ⟨by rw [elemB_iff]; omega, by rw [elemB_iff]; exact r⟩
  · unfold pointsL
    rw [List.map_cons, List.nodup_cons]
    constructor
    · intro h
      obtain ⟨q, hq, he⟩ := List.mem_map.1 h
      obtain ⟨j, _, rfl⟩ := List.mem_map.1 hq
      simp only at he; omega
    · rw [List.map_map]
      refine List.pairwise_map.2 (List.Pairwise.imp_of_mem ?_ List.nodup_range)
      intro u v hu hv huv he
      have h1 := List.mem_range.1 hu
      have h2 := List.mem_range.1 hv
      simp only [Function.comp] at he
      exact huv (mod_inj first m u v (by omega) (by omega) (by omega))

set_option maxRecDepth 100000 in
set_option maxHeartbeats 8000000 in
theorem hide_any (secret other : Int) (A : Option Addr) (c : Nat) (raw : List Int) (a b first : Nat) (w : World) (hA : Ints w A raw) (hraw : raw.length ≤ 9223372036854775807) (ha : a < 256) (hb : b < 256) (hfirst : first < 256) :
    Calls Try.prog 7 #[.int .i64 secret, .int .i64 other, .slice A raw.length c, .int .u8 a, .int .u8 b, .int .u8 first] w fun e w' => e = .returned (.bool true) ∧ Below w.heap.size w w' := by
  have HA := Lib.hid hA; clear hA
  have HSE := Lib.hid (elemB_mod secret)
  have HSO := Lib.hid (elemB_mod other)
  obtain ⟨n1, nm, m8⟩ := nm_of a b
  obtain ⟨ii, hii, hiz0, hiz1, hiz2⟩ := info_parts info_int
  have HII := Lib.hid (And.intro hii (And.intro hiz0 (And.intro hiz1 hiz2)))
  obtain ⟨ip, hip, hpz0, hpz1, hpz2⟩ := info_parts info_point
  have HIP := Lib.hid (And.intro hip (And.intro hpz0 (And.intro hpz1 hpz2)))
  clear hii hiz0 hiz1 hiz2 hip hpz0 hpz1 hpz2
  go_enter Try.func7, Try.ntmps7
  go_wp2_with fail
  refine (head_any _).mono ?_
  rintro e w1 ⟨rfl, hb1⟩
  have HB1 := Lib.hid hb1; clear hb1
  go_wp2_with fail
  refine (made_b A c raw a b _ (HA.out.below HB1.out) hraw ha hb).mono ?_
  rintro e w2 ⟨A2, c2, r1, rfl, -, hl1, he1, hi1, hb2⟩
  have HB2 := Lib.hid (below_trans HB1.out hb2); clear hb2
  have HL1 := Lib.hid hl1; clear hl1
  have HE1 := Lib.hid he1; clear he1
  have HI1 := Lib.hid hi1; clear hi1
  generalize nOf a = n at *
  generalize mOf a b = m at *
  go_wp2_with fail
  refine (lelement_any _ _).mono ?_
  rintro e w' ⟨rfl, rfl⟩
  go_wp2_with fail
  refine (split_b (secret % 2147483647) n m A2 c2 r1 _ HSE.out HI1.out n1 nm m8 HL1.out HE1.out).mono ?_
  rintro e w4 ⟨A4, c4, rfl, hr4, -, hb4⟩
  have HB4 := Lib.hid (below_trans HB2.out hb4); clear hb4
  have HR4 := Lib.hid hr4; clear hr4
  have hmm : ((m : Int) == (m : Int)) = true := by simp
  have hmm2 : ((m : Int) != (m : Int)) = false := by simp
  generalize hP : secret % 2147483647 :: r1 = P at *
  clear hP
  go_wp2_with fail
  refine (lelement_any _ _).mono ?_
  rintro e w' ⟨rfl, rfl⟩
  generalize hoo : other % 2147483647 = o at *
  have HOO := Lib.hid hoo; clear hoo
  go_wp2_with fail
  have hP0 := World.ownsRow_lit (base := w4.heap.size) (e := 40) (size := 2) w4 #[Value.int .i64 0, Value.int .i64 o] 1 (Nat.le_refl _) (by simp [maxLen]) rfl
  have HP0 := Lib.hid hP0; clear hP0
  go_loopw [19, 20, 21, 22] (fun u19 u20 u21 _ wr => ∃ i : Nat, i ≤ n - 1 ∧ u21 = .int .i64 i ∧ Below w4.heap.size w4 wr ∧ wr.ownsRow w4.heap.size 40 2 u19 (i + 1) (flat2 (pointsL o P first m i)) ∧ wr.ownsRow w4.heap.size 3 1 u20 i ((placesL first m i).map (Value.int .i64))) (fun _ _ u21 _ _ => n - (intOf u21).toNat)
  case atStart => exact ⟨0, Nat.zero_le _, rfl, below_alloc (Below.refl _ _) _, HP0.out, World.ownsRow_nil _ _ _ _⟩
  case round =>
    obtain ⟨i, hi, rfl, hBr, hO19, hO20⟩ := hrel
    have HBR := Lib.hid hBr; clear hBr
    have HO19 := Lib.hid hO19; clear hO19
    have HO20 := Lib.hid hO20; clear hO20
    by_cases hlt : i < n - 1
    · obtain ⟨kk, hkk⟩ : ∃ kk : Nat, kk = (first + i) % m := ⟨_, rfl⟩
      have hkl : kk < m := by rw [hkk]; exact Nat.mod_lt _ (by omega)
      have hke : ((first : Int) + (i : Int)) % (m : Int) = (kk : Int) := by rw [hkk, Int.natCast_emod, Int.natCast_add]
      have HKK := Lib.hid hkk; clear hkk
      have hil : (i : Int) < ((n - 1 : Nat) : Int) := by omega
      go_wp2_with (at_builtin; refine wpList_app _ rfl (.tmp 69) (.tmp 71) 22 22 rfl w4.heap.size 3 3 ii _ 1 8 Try.underlying22 Try.underlying22 HII.out.1 HII.out.2.1 HII.out.2.2.1 HII.out.2.2.2 rfl (by omega) _ i _ rfl (HO20.out.alloc _) _ 1 1 [.int .i64 kk] rfl (Rd_new wr #[.int .i64 kk] _ 1 1 _ rfl rfl) (by simp [Value.oneCell']) (by simp only [maxLen]; omega) (by omega) (by have := HBR.out.size; simp; omega) ?_)
      intro v1 w5 hown5 hg5
      have e5 : (placesL first m i).map (Value.int .i64) ++ [.int .i64 (kk : Int)] = (placesL first m (i + 1)).map (Value.int .i64) := by rw [placesL_succ, HKK.out]; simp
      rw [e5] at hown5
      have hB5 : Below w4.heap.size w4 w5 := (below_alloc HBR.out _).grown hg5 (by have := HBR.out.size; simp; omega) (fun j hj => (HO20.out.lt j hj).1)
      have hO19' := (HO19.out.alloc (.cells #[.int .i64 (kk : Int)] 3)).kept hg5 (own_ne HO19.out HO20.out (by decide))
      have HOWN5 := Lib.hid hown5
      have HB5 := Lib.hid hB5
      have HO19' := Lib.hid hO19'
      clear hown5 hg5 e5 hB5 hO19'
      obtain ⟨b4, o4, rfl, hx1, hx2⟩ := at_rd HR4.out (shs_get P m kk hkl)
      simp only at hx1 hx2
      have ag : u19.ownBlock ≠ some b4 := fun e => by have h1 := lt_of_cell hx1; have h2 := (HO19.out.lt _ e).1; omega
      have AG := Lib.hid ag; clear ag
      replace hx1 := kept_cell HB5.out hx1
      replace hx2 := kept_cell HB5.out hx2
      have lg := lt_of_cell hx1
      generalize hy1 : evp P ((kk : Int) + 1) = y1 at *
      have HY1 := Lib.hid hy1; clear hy1
      go_wp2_with fail
      have hown := HO19'.out
      have hsz := HB5.out.size
      go_region_held3 (fun w' => w'.cell? ⟨b4, o4 + kk * 2, none⟩ = some (.int .i64 ((kk : Int) + 1)) ∧ w'.cell? ⟨b4, o4 + kk * 2 + 1, none⟩ = some (.int .i64 y1))
        (first
          | go_keep
          | (go_split_ands
             refine ⟨?_, ?_⟩
             · (rw [hgrow.cell_far _ (by simp; omega) (Ne.symm AG.out)]; assumption)
             · (rw [hgrow.cell_far _ (by simp; omega) (Ne.symm AG.out)]; assumption)))
        (first
          | ((refine step_append_lies _ (by rfl) _ _ _ (by rfl) w4.heap.size 40 ip _ 2 16 Try.underlying41 HIP.out.1 HIP.out.2.1 HIP.out.2.2.1 HIP.out.2.2.2 rfl (by omega) u19 (i + 1) _ (by rfl) ((hown.alloc _).drew) ⟨w5.heap.size, 0, none⟩ 1 1 [.int .i64 ((kk : Int) + 1), .int .i64 y1] (by rfl) (by rfl) (World.news_of_block (cs := #[.int .i64 ((kk : Int) + 1), .int .i64 y1]) (t := 40) (fr := (0, 0)) (heap_alloc_new w5 _)) (by simp [Value.oneCell']) (by omega) (by simp only [maxLen]; omega) (by omega) (by simp; omega) (w5.heap.size + 1) (by simp) ?_; intro gg cap w6 hown1 hgrow hat hltg)))
      have hB6 : Below w4.heap.size w4 w6 := ((below_alloc HB5.out _).drew).grown hgrow (by simp; omega) (fun j hj => (HO19.out.lt j hj).1)
      have e6 : flat2 (pointsL o P first m i) ++ [.int .i64 ((kk : Int) + 1), .int .i64 y1] = flat2 (pointsL o P first m (i + 1)) := by
        rw [pointsL_succ, flat2_append, ← HKK.out, HY1.out]; rfl
      rw [e6] at hown1
      have hpl := ((HOWN5.out.alloc (.cells #[.int .i64 ((kk : Int) + 1), .int .i64 y1] 40)).drew).kept hgrow (own_ne HOWN5.out HO19'.out (by decide))
      have HB6 := Lib.hid hB6
      have HOWN := Lib.hid hown1
      have HPL := Lib.hid hpl
      clear hB6 hown1 hgrow hat e6 hown hpl
      go_wp2
      go_roundw
      case rel => exact ⟨i + 1, by omega, by go_num, HB6.out, HOWN.out, HPL.out⟩
      case measure => simp [intOf]; omega
    · have hin : i + 1 = n := by omega
      have hO := HO19.out
      have hOp := HO20.out
      rw [hin] at hO
      obtain ⟨A7, c7, hv7, hc7, -, hr7⟩ := Rd.of_own hO
      obtain ⟨A8, c8, hv8, hc8, -, hr8⟩ := Rd.of_own hOp
      have hi8 : i = n - 1 := by omega
      rw [hi8] at hv8 hr8
      subst hv7 hv8
      have hgood := pointsL_good o P first m i HSO.out (by omega) (by omega) (by omega)
      have hlen : (pointsL o P first m i).length = n := by rw [pointsL_length]; exact hin
      have hcall := through_any A7 c7 (pointsL o P first m i) wr (rd_prs hr7).2 hgood (by rw [hlen]; omega)
      rw [hlen] at hcall
      have hpts : ∀ (C : List Int), SumT (pointsL o P first m i) n C → evp C 0 = o ∧ ∀ j, j < n - 1 → evp C ((((first + j) % m : Nat) : Int) + 1) = evp P ((((first + j) % m : Nat) : Int) + 1) := by
        intro C hC
        have hall : ∀ q, q ∈ pointsL o P first m i → evp C q.1 = q.2 := by
          intro q hq
          obtain ⟨j, hj⟩ := List.getElem?_of_mem hq
          have hjl := (List.getElem?_eq_some_iff.1 hj).1
          have h1 := hC.done j q (by rw [← hlen]; exact hjl) hj
          have h2 := evp_range C q.1
          have h3 := (elemB_iff _).1 (hgood.elems q hq).2
          exact phi_inj h2.1 h2.2 h3.1 h3.2 h1
        refine ⟨hall (0, o) List.mem_cons_self, fun j hj => ?_⟩
        exact hall (_, _) (List.mem_cons_of_mem _ (List.mem_map.2 ⟨j, List.mem_range.2 (by omega), rfl⟩))
      have HCALL := Lib.hid hcall
      have HPTS := Lib.hid hpts
      have HR8 : Hid (Ints wr A8 (placesL first m i)) := Lib.hid (by
        unfold Ints
        rw [placesL_length, hi8]
        exact hr8)
      have HLN := Lib.hid hlen
      clear hin hi8 hO hOp hr7 hr8 hgood hlen hcall hpts
      go_wp2_with fail
      with_reducible refine HCALL.out.mono ?_
      rintro e w7 ⟨A9, C, rfl, hC, hI9, hb7⟩
      have hCl : C.length = n := by rw [← HLN.out]; exact hC.len
      obtain ⟨hC0, hCp⟩ := HPTS.out C hC
      have hel := hC.elems
      obtain ⟨x0, hx0⟩ := get_some C 0 (by omega)
      have hx0o : x0 = o := by
        cases C with
        | nil => simp at hx0
        | cons y C =>
          simp only [List.getElem?_cons_zero, Option.some.injEq] at hx0
          subst hx0
          have : elemB y = true := List.all_eq_true.1 hel y List.mem_cons_self
          rw [evp_zero y C this] at hC0
          exact hC0
      subst hx0o
      obtain ⟨bc, oc, rfl, hcc⟩ := hI9.at_ hx0
      rw [Nat.add_zero] at hcc
      have HB7 := Lib.hid (below_trans HBR.out hb7)
      have HB47 := Lib.hid hb7
      have HI9 := Lib.hid hI9
      have HCL := Lib.hid hCl
      have HCP := Lib.hid hCp
      have HEL := Lib.hid hel
      have HX0 := Lib.hid hx0
      clear hb7 hI9 hCl hCp hel hx0 hC hC0
      have hoo := HOO.out
      have hnn : ((n : Int) != (n : Int)) = false := by simp
      go_wp2_with fail
      go_quiet ((go_at_call 11; exact quiet_same (lelement_any _ _)))
      go_wp2
      have hct : C = x0 :: C.tail := by
        have h0 := HX0.out
        cases C with
        | nil => simp at h0
        | cons y C => simp at h0; subst h0; rfl
      have hctl : C.tail.length = n - 1 := by rw [List.length_tail, HCL.out]
      have hcte : C.tail.all elemB = true := by have h := HEL.out; rw [hct, List.all_cons, Bool.and_eq_true] at h; exact h.2
      have HCT := Lib.hid hct
      have HCTL := Lib.hid hctl
      have HCTE := Lib.hid hcte
      clear hct hctl hcte
      have hgen : ∀ (AD : Option Addr), Ints w7 AD C.tail → ∀ q, Calls Try.prog 10 #[.int .i64 x0, .int .i64 n, .int .i64 m, .slice AD (n - 1) (n - 1)] (w7.drewN q) fun e w' =>
          ∃ A' c', e = .returned (.tuple #[.slice A' m c', .int .i64 0]) ∧ Rd w' 2 A' m (flat2 (shs C m)) ∧ Below w7.heap.size w7 w' := by
        intro AD hAD q
        have hI : Ints (w7.drewN q) AD C.tail := hAD
        have h := split_b x0 n m AD (n - 1) C.tail (w7.drewN q) HSO.out hI n1 nm m8 HCTL.out HCTE.out
        rw [← HCT.out] at h
        refine h.mono ?_
        rintro e w' ⟨A', c', rfl, hr, -, hb⟩
        exact ⟨A', c', rfl, hr, (below_drewN (Below.refl w7.heap.size w7) q).trans hb⟩
      by_cases hn1 : n = 1
      · have hnil : C.tail = [] := List.eq_nil_of_length_eq_zero (by rw [HCTL.out]; omega)
        have hsp1 : ∀ q, Calls Try.prog 10 #[.int .i64 x0, .int .i64 1, .int .i64 m, .slice (some ⟨bc, oc, none⟩) 0 0] (w7.drewN q) fun e w' =>
            ∃ A' c', e = .returned (.tuple #[.slice A' m c', .int .i64 0]) ∧ Rd w' 2 A' m (flat2 (shs C m)) ∧ Below w7.heap.size w7 w' := by
          intro q
          have h := hgen (some ⟨bc, oc, none⟩) (by rw [hnil]; exact Rd.nil _ _ _) q
          rw [hn1] at h
          exact h
        have HSP := Lib.hid hsp1
        clear hgen hnil hsp1
        go_region_with (first | (go_at_call 11; refine (lelement_any _ _).mono ?_; rintro e w' ⟨rfl, rfl⟩) | (go_at_call 10; refine (HSP.out _).mono ?_; rintro e w8 ⟨A10, c10, rfl, hr10, hb8⟩))
        all_goals
          have HB8 := Lib.hid (below_trans HB4.out (below_trans HB7.out hb8))
          clear hr10 hb8
          go_wp2_with fail
          refine wp_loop_rounds 1 ?_
          rw [rounds_succ]
          go_wp2
          go_ret
          exact ⟨rfl, HB8.out⟩
      · have hn2 : ¬ n = 1 := hn1
        have hI10 : Ints w7 (some ⟨bc, oc + 1, none⟩) C.tail := by
          refine ⟨by simp, fun h0 => ⟨bc, oc + 1, rfl, fun j u hu => ?_⟩⟩
          obtain ⟨b', o', e', hc'⟩ := HI9.out.2 (by rw [HCL.out]; omega)
          injection e' with e'
          injection e' with e1 e2
          subst e1 e2
          rw [show oc + 1 + j = oc + (j + 1) by omega]
          have h1 : (C.map (Value.int .i64))[j + 1]? = some u := by rw [HCT.out, List.map_cons, List.getElem?_cons_succ]; exact hu
          exact hc' _ _ h1
        have HSP := Lib.hid (hgen _ hI10)
        clear hI10 hgen
        go_region_with (first | (go_at_call 11; refine (lelement_any _ _).mono ?_; rintro e w' ⟨rfl, rfl⟩) | (go_at_call 10; refine (HSP.out _).mono ?_; rintro e w8 ⟨A10, c10, rfl, hr10, hb8⟩))
        all_goals
          have HR10 := Lib.hid hr10
          have HB8 := Lib.hid (below_trans HB7.out hb8)
          have HB78 := Lib.hid hb8
          clear hr10 hb8
          go_wp2_with fail
          go_loopw [26] (fun u26 wr => ∃ j : Nat, j ≤ n - 1 ∧ u26 = .int .i64 j ∧ Below w8.heap.size w8 wr) (fun u26 _ => n - (intOf u26).toNat)
          case atStart => exact ⟨0, Nat.zero_le _, rfl, (by first | exact Below.refl _ _ | exact (Below.refl _ _).drew | exact below_drewN (Below.refl _ _) _)⟩
          case round =>
            obtain ⟨j, hj, rfl, hB9⟩ := hrel
            have HB9 := Lib.hid hB9; clear hB9
            by_cases hjl : j < n - 1
            · obtain ⟨kk, hkk⟩ : ∃ kk : Nat, kk = (first + j) % m := ⟨_, rfl⟩
              have hkl : kk < m := by rw [hkk]; exact Nat.mod_lt _ (by omega)
              have hpl : (placesL first m i)[j]? = some (kk : Int) := by
                have hji : j < i := by omega
                simp [placesL, hji, hkk]
              obtain ⟨b8, o8, rfl, hc8⟩ := ((HR8.out.below HB47.out).below (HB78.out.trans (HB9.out.mono HB78.out.size))).at_ hpl
              obtain ⟨b10, o10, rfl, hx1, hx2⟩ := at_rd (HR10.out.below HB9.out) (shs_get C m kk hkl)
              obtain ⟨b4, o4, rfl, hz1, hz2⟩ := at_rd (HR4.out.below (below_trans HB8.out HB9.out)) (shs_get P m kk hkl)
              have hcp := HCP.out j hjl
              rw [← hkk] at hcp
              simp only at hx1 hx2 hz1 hz2
              rw [hcp] at hx2
              generalize evp P ((kk : Int) + 1) = y at *
              clear hkk hpl hcp
              have hjl' : (j : Int) < ((n - 1 : Nat) : Int) := by omega
              have hkl' : (kk : Int) < (m : Int) := by omega
              have hyy : (y == y) = true := by simp
              go_wp2
              go_quiet (fail)
              go_wp2
              go_roundw
              case rel => exact ⟨j + 1, by omega, by go_num, below_drewN HB9.out _⟩
              case measure => simp [intOf]; omega
            · go_wp2
              go_ret
              exact ⟨rfl, below_trans HB4.out (below_trans HB8.out HB9.out)⟩

end Go.Proofs.Ythkagcelpdcfkaa
