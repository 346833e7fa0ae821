/- The law SharesDiffer: its walk. -/
import Derived.Test.YthkagcelpdcfkaaAdd
namespace Go.Proofs.Ythkagcelpdcfkaa
open Go.RowKit

/-! ### plain: polynomials that agree at enough places are the same -/
theorem ev_agree (C D : List F) (n : Nat) (hC : C.length ≤ n) (hD : D.length ≤ n) (h0 : 0 < n) (qs : List Int) (hq : qs.Nodup) (hr : ∀ x, x ∈ qs → 0 ≤ x ∧ x < 2147483647) (hl : n ≤ qs.length)
    (h : ∀ x, x ∈ qs → ev C (phi x) = ev D (phi x)) (x : Int) : ev C (phi x) = ev D (phi x) := by
  -- through the points of C
  have hex : ∀ y : F, ∃ a : Int, 0 ≤ a ∧ a < 2147483647 ∧ phi a = y := phi_surj
  let val : Int → Int := fun q => Classical.choose (hex (ev C (phi q)))
  have hval : ∀ q, 0 ≤ val q ∧ val q < 2147483647 ∧ phi (val q) = ev C (phi q) := fun q => Classical.choose_spec (hex (ev C (phi q)))
  have hg : Good (qs.map fun q => (q, val q)) := by
    refine ⟨fun p hp => ?_, ?_⟩
    · obtain ⟨q, hq', rfl⟩ := List.mem_map.1 hp
      have r1 := hr q hq'
      have r2 := hval q
      exact ⟨by rw [elemB_iff]; exact r1, by rw [elemB_iff]; exact ⟨r2.1, r2.2.1⟩⟩
    · rw [List.map_map]
      have : (List.map ((fun p : Int × Int => p.1) ∘ fun q => (q, val q)) qs) = qs := by
        conv => rhs; rw [← List.map_id qs]
        rfl
      rw [this]; exact hq
  have e1 := nv_ev _ hg C (fun p hp => by obtain ⟨q, _, rfl⟩ := List.mem_map.1 hp; exact (hval q).2.2) x (by simp; omega) (by simp; omega)
  have e2 := nv_ev _ hg D (fun p hp => by obtain ⟨q, hq', rfl⟩ := List.mem_map.1 hp; rw [← h q hq']; exact (hval q).2.2) x (by simp; omega) (by simp; omega)
  rw [← e1, e2]

theorem ev_zero_all (n : Nat) : ∀ (C D : List F), C.length = n → D.length = n → n ≤ 1000 → (∀ x : Int, 0 < x → x ≤ 1000 → ev C (phi x) = ev D (phi x)) → C = D := by
  induction n with
  | zero => intro C D h1 h2 _ _; rw [List.eq_nil_of_length_eq_zero h1, List.eq_nil_of_length_eq_zero h2]
  | succ n ih =>
    intro C D h1 h2 hn h
    have hqs : ((List.range (n + 1)).map fun (i : Nat) => (i : Int) + 1).Nodup := by
      refine List.pairwise_map.2 (List.Pairwise.imp ?_ List.nodup_range)
      intro a b hab h; exact hab (by omega)
    have h0 := ev_agree C D (n + 1) (by omega) (by omega) (by omega) _ hqs (fun x hx => by obtain ⟨i, hi, rfl⟩ := List.mem_map.1 hx; have := List.mem_range.1 hi; omega) (by simp)
      (fun x hx => by obtain ⟨i, hi, rfl⟩ := List.mem_map.1 hx; have := List.mem_range.1 hi; exact h _ (by omega) (by omega)) 0
    cases C with
    | nil => simp at h1
    | cons c C =>
      cases D with
      | nil => simp at h2
      | cons d D =>
        have hc : c = d := by simp only [ev, phi_zero] at h0; grind
        subst hc
        rw [ih C D (by simpa using h1) (by simpa using h2) (by omega) (fun x hx hx' => ?_)]
        have hxx := h x hx hx'
        simp only [ev] at hxx
        have hne : phi x ≠ 0 := by rw [← phi_zero]; exact phi_ne (by omega) (by omega) (by omega) (by omega) (by omega)
        have hz : phi x * (ev C (phi x) - ev D (phi x)) = 0 := by grind
        have := f_cancel _ _ hne hz
        grind

theorem mod_inj (f m u v : Nat) (hu : u < m) (hv : v < m) (h : (f + u) % m = (f + v) % m) : u = v := by
  have h1 := Nat.div_add_mod (f + u) m
  have h2 := Nat.div_add_mod (f + v) m
  rw [h] at h1
  generalize (f + u) / m = q1 at *
  generalize (f + v) / m = q2 at *
  rcases Nat.lt_trichotomy q1 q2 with hq | hq | hq
  · have := Nat.mul_le_mul_left m hq
    rw [Nat.mul_succ] at this; omega
  · subst hq; omega
  · have := Nat.mul_le_mul_left m hq
    rw [Nat.mul_succ] at this; omega

theorem evp_ext (n : Nat) (p q : List Int) (hp : p.length = n) (hq : q.length = n) (hn : n ≤ 100) (h0 : 0 < n) (ep : p.all elemB = true) (eq : q.all elemB = true) (qs : List Int) (hqs : qs.Nodup) (hr : ∀ x, x ∈ qs → 0 ≤ x ∧ x < 2147483647) (hl : n ≤ qs.length)
    (h : ∀ x, x ∈ qs → evp p x = evp q x) : p = q := by
  have e : p.map phi = q.map phi := ev_zero_all n _ _ (by simpa using hp) (by simpa using hq) (by omega) fun x _ _ =>
    ev_agree _ _ n (by simp; omega) (by simp; omega) h0 qs hqs hr hl (fun y hy => by rw [← phi_evp, ← phi_evp, h y hy]) x
  apply List.ext_getElem?
  intro i
  have hi := congrArg (fun l => l[i]?) e
  simp only [List.getElem?_map] at hi
  cases h1 : p[i]? with
  | none =>
    cases h2 : q[i]? with
    | none => rfl
    | some y => rw [h1, h2] at hi; simp at hi
  | some x =>
    cases h2 : q[i]? with
    | none => rw [h1, h2] at hi; simp at hi
    | some y =>
      rw [h1, h2] at hi
      simp only [Option.map_some, Option.some.injEq] at hi
      have r1 := (elemB_iff x).1 (List.all_eq_true.1 ep x (List.mem_of_getElem? h1))
      have r2 := (elemB_iff y).1 (List.all_eq_true.1 eq y (List.mem_of_getElem? h2))
      rw [phi_inj r1.1 r1.2 r2.1 r2.2 hi]

set_option maxHeartbeats 4000000 in
theorem differ_any (secret : Int) (A B : Option Addr) (c d : Nat) (raw second : List Int) (a b first : Nat) (w : World) (hA : Ints w A raw) (hB : Ints w B second) (hraw : raw.length ≤ 9223372036854775807) (hsecond : second.length ≤ 9223372036854775807) (ha : a < 256) (hb : b < 256) (hfirst : first < 256) :
    Calls Try.prog 4 #[.int .i64 secret, .slice A raw.length c, .slice B second.length d, .int .u8 a, .int .u8 b, .int .u8 first] w fun e w' => e = .returned (.bool true) ∧ Below w.heap.size w w' := by
  have HA := Lib.hid hA; clear hA
  have HB := Lib.hid hB; clear hB
  have HSE := Lib.hid (elemB_mod secret)
  obtain ⟨n1, nm, m8⟩ := nm_of a b
  go_enter Try.func4, Try.ntmps4
  go_wp2_with fail
  refine (head_any _).mono ?_
  rintro e w1 ⟨rfl, hb1⟩
  have HB1 := Lib.hid hb1; clear hb1
  go_wp2_with fail
  refine (made_b A c raw a b _ (HA.out.below HB1.out) hraw ha hb).mono ?_
  rintro e w2 ⟨A2, c2, r1, rfl, -, hl1, he1, hi1, hb2⟩
  have HB2 := Lib.hid (below_trans HB1.out hb2); clear hb2
  have HL1 := Lib.hid hl1; clear hl1
  have HE1 := Lib.hid he1; clear he1
  have HI1 := Lib.hid hi1; clear hi1
  go_wp2_with fail
  refine (made_b B d second a b _ (HB.out.below HB2.out) hsecond ha hb).mono ?_
  rintro e w3 ⟨A3, c3, r2, rfl, -, hl2, he2, hi2, hb3⟩
  have HI1' := Lib.hid (HI1.out.below hb3)
  have HB3 := Lib.hid (below_trans HB2.out hb3); clear hb3
  have HL2 := Lib.hid hl2; clear hl2
  have HE2 := Lib.hid he2; clear he2
  have HI2 := Lib.hid hi2; clear hi2
  generalize nOf a = n at *
  generalize mOf a b = m at *
  go_wp2_with fail
  refine (lelement_any _ _).mono ?_
  rintro e w' ⟨rfl, rfl⟩
  go_wp2_with fail
  refine (split_b (secret % 2147483647) n m A2 c2 r1 _ HSE.out HI1'.out n1 nm m8 HL1.out HE1.out).mono ?_
  rintro e w4 ⟨A4, c4, rfl, hr4, -, hb4⟩
  have HI2' := Lib.hid (HI2.out.below hb4)
  have HT4 := Lib.hid hb4
  have HB4 := Lib.hid (below_trans HB3.out hb4); clear hb4
  have HR4 := Lib.hid hr4; clear hr4
  go_wp2_with fail
  refine (lelement_any _ _).mono ?_
  rintro e w' ⟨rfl, rfl⟩
  go_wp2_with fail
  refine (split_b (secret % 2147483647) n m A3 c3 r2 _ HSE.out HI2'.out n1 nm m8 HL2.out HE2.out).mono ?_
  rintro e w5 ⟨A5, c5, rfl, hr5, -, hb5⟩
  have HR4' := Lib.hid (HR4.out.below hb5)
  have HT5 := Lib.hid hb5
  have HB5 := Lib.hid (below_trans HB4.out hb5); clear hb5
  have HR5 := Lib.hid hr5; clear hr5
  have hmm : ((m : Int) == (m : Int)) = true := by simp
  have hmm2 : ((m : Int) != (m : Int)) = false := by simp
  go_wp2_with fail
  go_loopw [24, 25, 26, 27] (fun u24 u25 u26 _ wr => ∃ (i : Nat) (eqv sm : Bool), i ≤ n - 1 ∧ u26 = .int .i64 i ∧ u24 = .bool eqv ∧ u25 = .bool sm ∧ Below w5.heap.size w5 wr ∧ eqv = decide (r1.take i = r2.take i) ∧ sm = decide (∀ j, j < i → evp (secret % 2147483647 :: r1) ((((first + j) % m : Nat) : Int) + 1) = evp (secret % 2147483647 :: r2) ((((first + j) % m : Nat) : Int) + 1))) (fun _ _ u26 _ _ => n - (intOf u26).toNat)
  case atStart => exact ⟨0, true, true, Nat.zero_le _, rfl, rfl, rfl, Below.refl _ _, by simp, by simp⟩
  case round =>
    obtain ⟨i, eqv, sm, hi, rfl, rfl, rfl, hBr, heq, hsm⟩ := hrel
    have HBR := Lib.hid hBr; clear hBr
    have HEQ := Lib.hid heq; clear heq
    have HSM := Lib.hid hsm; clear hsm
    by_cases hlt : i < n - 1
    · obtain ⟨x, hx⟩ := get_some r1 i (by rw [HL1.out]; exact hlt)
      obtain ⟨y, hy⟩ := get_some r2 i (by rw [HL2.out]; exact hlt)
      obtain ⟨kk, hkk⟩ : ∃ kk : Nat, kk = (first + i) % m := ⟨_, rfl⟩
      have hkl : kk < m := by rw [hkk]; exact Nat.mod_lt _ (by omega)
      have hke : ((first : Int) + (i : Int)) % (m : Int) = (kk : Int) := by rw [hkk, Int.natCast_emod, Int.natCast_add]
      obtain ⟨bx, ox, rfl, hcx⟩ := (HI1'.out.below (below_trans (below_trans HT4.out HT5.out) HBR.out)).at_ hx
      obtain ⟨by_, oy, rfl, hcy⟩ := (HI2'.out.below (below_trans HT5.out HBR.out)).at_ hy
      obtain ⟨b4, o4, rfl, hx1, hx2⟩ := at_rd (HR4'.out.below HBR.out) (shs_get (secret % 2147483647 :: r1) m kk hkl)
      obtain ⟨b5, o5, rfl, hy1, hy2⟩ := at_rd (HR5.out.below HBR.out) (shs_get (secret % 2147483647 :: r2) m kk hkl)
      simp only at hx1 hx2 hy1 hy2
      have hil : (i : Int) < ((n - 1 : Nat) : Int) := by omega
      have hEQ : ∀ e : Bool, e = (eqv && (x == y)) → e = decide (r1.take (i + 1) = r2.take (i + 1)) := by
        intro e he
        rw [he, HEQ.out, take_snoc r1 i x hx, take_snoc r2 i y hy]
        by_cases h1 : r1.take i = r2.take i
        · by_cases h2 : x = y <;> simp [h1, h2]
        · have : ¬ (r1.take i ++ [x] = r2.take i ++ [y]) := fun h => h1 (List.append_inj h (by simp [HL1.out, HL2.out])).1
          simp [h1, this]
      have hSM : ∀ e : Bool, e = (sm && (evp (secret % 2147483647 :: r1) ((kk : Int) + 1) == evp (secret % 2147483647 :: r2) ((kk : Int) + 1))) →
          e = decide (∀ j, j < i + 1 → evp (secret % 2147483647 :: r1) ((((first + j) % m : Nat) : Int) + 1) = evp (secret % 2147483647 :: r2) ((((first + j) % m : Nat) : Int) + 1)) := by
        intro e he
        rw [he, HSM.out, Bool.eq_iff_iff]
        simp only [Bool.and_eq_true, decide_eq_true_eq, beq_iff_eq]
        constructor
        · rintro ⟨h1, h2⟩ j hj
          by_cases hji : j = i
          · subst hji; rw [← hkk]; exact h2
          · exact h1 j (by omega)
        · intro h
          exact ⟨fun j hj => h j (by omega), by rw [hkk]; exact h i (by omega)⟩
      have HE := Lib.hid hEQ
      have HS := Lib.hid hSM
      clear hEQ hSM hx hy hkk
      generalize evp (secret % 2147483647 :: r1) ((kk : Int) + 1) = y1 at *
      generalize evp (secret % 2147483647 :: r2) ((kk : Int) + 1) = y2 at *
      cases hyy : (y1 == y2)
      all_goals
        have HS2 := Lib.hid HS.out
        rw [hyy] at HS2
        cases eqv <;> cases sm
        all_goals
          go_wp2
          go_quiet (fail)
          go_wp2
          go_quiet (fail)
          go_wp2
          go_roundw
          case rel => exact ⟨i + 1, _, _, by omega, by go_num, rfl, rfl, below_drewN HBR.out _, HE.out _ (by simp), HS2.out _ (by simp)⟩
          case measure => simp [intOf]; omega
    · have hin : i = n - 1 := by omega
      have hfin : (eqv == sm) = true := by
        rw [HEQ.out, HSM.out, hin, List.take_of_length_le (by rw [HL1.out]; omega), List.take_of_length_le (by rw [HL2.out]; omega), beq_iff_eq, decide_eq_decide]
        constructor
        · intro h j _; rw [h]
        · intro h
          have hmp : 0 < m := by omega
          have hqs : ((0 : Int) :: (List.range (n - 1)).map fun (j : Nat) => ((((first + j) % m : Nat) : Int) + 1)).Nodup := by
            rw [List.nodup_cons]
            constructor
            · intro h0
              obtain ⟨j, _, hj⟩ := List.mem_map.1 h0
              omega
            · refine List.pairwise_map.2 (List.Pairwise.imp_of_mem ?_ List.nodup_range)
              intro u v hu hv huv he
              have h1 := List.mem_range.1 hu
              have h2 := List.mem_range.1 hv
              have h3 : (first + u) % m = (first + v) % m := by omega
              exact huv (mod_inj first m u v (by omega) (by omega) h3)
          have := evp_ext n (secret % 2147483647 :: r1) (secret % 2147483647 :: r2) (by simp [HL1.out]; omega) (by simp [HL2.out]; omega) (by omega) (by omega)
            (by rw [List.all_cons, HSE.out, HE1.out]; rfl) (by rw [List.all_cons, HSE.out, HE2.out]; rfl) _ hqs
            (fun x hx => by
              rcases List.mem_cons.1 hx with rfl | hx
              · omega
              · obtain ⟨j, _, rfl⟩ := List.mem_map.1 hx
                have := Nat.mod_lt (first + j) hmp
                omega)
            (by simp; omega)
            (fun x hx => by
              rcases List.mem_cons.1 hx with rfl | hx
              · rw [evp_zero _ _ HSE.out, evp_zero _ _ HSE.out]
              · obtain ⟨j, hj, rfl⟩ := List.mem_map.1 hx
                exact h j (List.mem_range.1 hj))
          exact (List.cons.inj this).2
      have hil : ¬ ((i : Int) < (n : Int) - 1) := by omega
      clear hin
      go_wp2
      go_ret
      exact ⟨rfl, below_trans HB5.out HBR.out⟩

end Go.Proofs.Ythkagcelpdcfkaa
