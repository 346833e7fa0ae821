/- The reference of chapter 30: Draw. Chapter 30: the law KeeperDrawsAsReference. -/
import Derived.Test.YtjfondfjdhjooaaGreatDoorCbL
namespace Go.Proofs.YtjfondfjdhjooaaGreatDoor
set_option linter.unusedVariables false
set_option linter.unusedSimpArgs false

section
open Go.RowKit

/-- The sum before it is taken modulo 720. -/
def rsu (rs : List (Int × Int × Bool)) : Nat → Int
  | 0 => 0
  | k + 1 => rsu rs k + ((rs[k]?.map (·.1)).getD 0)
theorem rsu_mod (rs : List (Int × Int × Bool)) (k : Nat) : rsu rs k % 720 = ksum rs k := by
  induction k with
  | zero => rfl
  | succ k ih => rw [rsu, ksum, ← ih]; omega
theorem rsu_succ {rs : List (Int × Int × Bool)} {k : Nat} {v e : Int} {f : Bool} (h : rs[k]? = some (v, e, f)) : rsu rs (k + 1) = rsu rs k + v := by rw [rsu, h]; rfl
theorem rsu_range (rs : List (Int × Int × Bool)) (h : ∀ r, r ∈ rs → 0 ≤ r.1 ∧ r.1 < 720) (k : Nat) : 0 ≤ rsu rs k ∧ rsu rs k ≤ 719 * k := by
  induction k with
  | zero => simp [rsu]
  | succ k ih =>
    rw [rsu]
    cases hk : rs[k]? with
    | none => simp only [Option.map_none, Option.getD_none]; omega
    | some r =>
      have := h r (List.mem_of_getElem? hk)
      simp only [Option.map_some, Option.getD_some]
      omega
theorem krs_range {cs : List (ByteArray × ByteArray)} {n i : Int} {os : List Og} {ks : List (List Kp)} {need : Int} : ∀ r, r ∈ krs cs n i os ks need → 0 ≤ r.1 ∧ r.1 < 720 := fun r hr => by
  unfold krs at hr
  obtain ⟨q, _, rfl⟩ := List.mem_map.1 hr
  exact kone_range _ _ _ _ _ _ _
/-- What the reference's Draw asks of memory. -/
structure DrS (w : World) (CA : Option Addr) (cs : List (ByteArray × ByteArray)) (OA : Option Addr) (os : List Og) (KA : Option Addr) (ks : List Kw) : Prop where
  c : RowOf cmC 2 w CA cs
  o : RowOf ogC 4 w OA os
  k : RowOf kwC 1 w KA ks
  og : ∀ o, o ∈ os → OgS w o
  kw : ∀ k, k ∈ ks → KwS w k
  cl : cs.length ≤ 9223372036854775807
  ol : os.length ≤ 9223372036854775807
  kl : ks.length ≤ 9223372036854775807
theorem DrS.below {w w' : World} {CA OA KA : Option Addr} {cs : List (ByteArray × ByteArray)} {os : List Og} {ks : List Kw} (h : DrS w CA cs OA os KA ks) (hb : Below w.heap.size w w') : DrS w' CA cs OA os KA ks :=
  ⟨h.c.below hb, h.o.below hb, h.k.below hb, fun o ho => (h.og o ho).below hb, fun k hk => (h.kw k hk).below hb, h.cl, h.ol, h.kl⟩
theorem DrS.fit {w : World} {CA OA KA : Option Addr} {cs : List (ByteArray × ByteArray)} {os : List Og} {ks : List Kw} (h : DrS w CA cs OA os KA ks) : DrFit w CA cs OA os KA ks :=
  ⟨h.c, h.o, h.k, fun o ho => (h.og o ho).f, fun k hk => ⟨(h.kw k hk).row, fun q hq => ((h.kw k hk).each q hq).f, by have := (h.kw k hk).len; omega⟩, h.cl, h.ol, h.kl⟩

set_option maxRecDepth 100000 in
set_option maxHeartbeats 16000000 in
theorem rdraw_bad (CA : Option Addr) (cc : Nat) (cs : List (ByteArray × ByteArray)) (n i : Int) (OA : Option Addr) (oc : Nat) (os : List Og) (KA : Option Addr) (kc : Nat) (ks : List Kw) (need : Int) (w : World) (hl1 : cs.length ≤ 9223372036854775807) (hl2 : os.length ≤ 9223372036854775807) (hl3 : ks.length ≤ 9223372036854775807) (hn : i64ok n)
    (hbad : ¬ (1 ≤ cs.length ∧ cs.length ≤ 7 ∧ 1 ≤ n ∧ n ≤ 600 ∧ 0 ≤ i ∧ i ≤ n - 1 ∧ 1 ≤ need ∧ need ≤ cs.length ∧ os.length = cs.length ∧ ks.length = cs.length)) :
    Calls Tryz.prog 26 #[.slice CA cs.length cc, .int .i64 n, .int .i64 i, .slice OA os.length oc, .slice KA ks.length kc, .int .i64 need] w fun e w' => e = .returned (.tuple #[.int .i64 0, .slice none 0 0, .int .i64 1]) ∧ w = w' := by
  obtain ⟨nlo, nhi⟩ := hn
  obtain ⟨b1, hb1⟩ : ∃ b, wiB cs.length 1 7 = b := ⟨_, rfl⟩
  obtain ⟨b2, hb2⟩ : ∃ b, wiB n 1 600 = b := ⟨_, rfl⟩
  obtain ⟨b3, hb3⟩ : ∃ b, wiB i 0 (n - 1) = b := ⟨_, rfl⟩
  obtain ⟨b4, hb4⟩ : ∃ b, wiB need 1 cs.length = b := ⟨_, rfl⟩
  have HBAD : Hid (b1 = true → b2 = true → b3 = true → b4 = true → ¬ (os.length = cs.length ∧ ks.length = cs.length)) := Lib.hid (fun h1 h2 h3 h4 h5 => by
    rw [h1] at hb1; rw [h2] at hb2; rw [h3] at hb3; rw [h4] at hb4
    have g1 := of_decide_eq_true hb1
    have g2 := of_decide_eq_true hb2
    have g3 := of_decide_eq_true hb3
    have g4 := of_decide_eq_true hb4
    exact hbad (by omega))
  have H1 := Lib.hid hb1
  have H2 := Lib.hid hb2
  have H3 := Lib.hid hb3
  have H4 := Lib.hid hb4
  clear hb1 hb2 hb3 hb4 hbad
  go_enter Tryz.func26, Tryz.ntmps26
  go_wp2_with fail
  refine (rwithin_any _ _ _ _).mono ?_
  rintro e _ ⟨rfl, rfl⟩
  rw [H1.out]
  cases b1
  case false =>
    go_wp2
    go_ret3
    exact ⟨rfl, rfl⟩
  case true =>
  go_wp2_with fail
  refine (rwithin_any _ _ _ _).mono ?_
  rintro e _ ⟨rfl, rfl⟩
  rw [H2.out]
  cases b2
  case false =>
    go_wp2
    go_ret3
    exact ⟨rfl, rfl⟩
  case true =>
  obtain ⟨h21, h22⟩ := of_decide_eq_true H2.out
  go_wp2_with fail
  refine (rwithin_any _ _ _ _).mono ?_
  rintro e _ ⟨rfl, rfl⟩
  rw [H3.out]
  cases b3
  case false =>
    go_wp2
    go_ret3
    exact ⟨rfl, rfl⟩
  case true =>
  go_wp2_with fail
  refine (rwithin_any _ _ _ _).mono ?_
  rintro e _ ⟨rfl, rfl⟩
  rw [H4.out]
  cases b4
  case false =>
    go_wp2
    go_ret3
    exact ⟨rfl, rfl⟩
  case true =>
  have hb := HBAD.out (by trivial) (by trivial) (by trivial) (by trivial)
  by_cases ho : os.length = cs.length
  case neg =>
    have h1 : ((os.length : Int) == (cs.length : Int)) = false := by simp; omega
    have h2 : ((os.length : Int) != (cs.length : Int)) = true := by simp; omega
    clear ho hb
    go_wp2
    go_ret3
    exact ⟨rfl, rfl⟩
  case pos =>
  have h1 : ((os.length : Int) == (cs.length : Int)) = true := by simp; omega
  have h2 : ((os.length : Int) != (cs.length : Int)) = false := by simp; omega
  have h3 : ((ks.length : Int) == (cs.length : Int)) = false := by simp; omega
  have h4 : ((ks.length : Int) != (cs.length : Int)) = true := by simp; omega
  clear ho hb
  go_wp2
  go_ret3
  exact ⟨rfl, rfl⟩
set_option maxRecDepth 100000 in
set_option maxHeartbeats 16000000 in
theorem rdraw_ok (CA : Option Addr) (cc : Nat) (cs : List (ByteArray × ByteArray)) (n i : Nat) (OA : Option Addr) (oc : Nat) (os : List Og) (KA : Option Addr) (kc : Nat) (ks : List Kw) (need : Nat) (w : World) (hf : DrS w CA cs OA os KA ks) (h1 : 1 ≤ cs.length) (h7 : cs.length ≤ 7) (hn6 : n ≤ 600) (hin : i < n) (hn1 : 1 ≤ need) (hnc : need ≤ cs.length) (hol : os.length = cs.length) (hkl : ks.length = cs.length) :
    Calls Tryz.prog 26 #[.slice CA cs.length cc, .int .i64 n, .int .i64 i, .slice OA os.length oc, .slice KA ks.length kc, .int .i64 need] w fun e w' => ∃ v, e = .returned (.tuple #[.int .i64 (kall (krs cs n i os (ks.map (·.l)) need)).1, v, .int .i64 (kall (krs cs n i os (ks.map (·.l)) need)).2.2]) ∧ w'.ownsRow w.heap.size 3 1 v (kall (krs cs n i os (ks.map (·.l)) need)).2.1.length ((kall (krs cs n i os (ks.map (·.l)) need)).2.1.map (Value.int .i64)) ∧ Below w.heap.size w w' := by
  have HF : Hid (∀ W, Below w.heap.size w W → DrS W CA cs OA os KA ks) := Lib.hid (fun W hW => hf.below hW)
  have hrg := fun k => rsu_range (krs cs n i os (ks.map (·.l)) need) krs_range k
  obtain ⟨rs, hrs⟩ : ∃ rs, krs cs n i os (ks.map (·.l)) need = rs := ⟨_, rfl⟩
  rw [hrs] at hrg
  have HRM : Hid (∀ k, 0 ≤ rsu rs k ∧ rsu rs k ≤ 719 * k) := Lib.hid hrg
  have HRG : Hid (∀ (k : Nat) (c : ByteArray × ByteArray) (o : Og) (a : Kw), cs[k]? = some c → os[k]? = some o → ks[k]? = some a → rs[k]? = some (kone c n (cs.length : Int) i o a.l need)) := Lib.hid (fun k c o a hc ho ha => by
    rw [← hrs]; exact krs_get hc ho (by rw [List.getElem?_map, ha]; rfl))
  have HRL : Hid (rs.length = cs.length) := Lib.hid (by rw [← hrs]; exact krs_len hol (by rw [List.length_map]; exact hkl))
  rw [hrs]
  clear hrs hrg
  obtain ⟨KA1, hKA1⟩ : ∃ x, kall rs = x := ⟨_, rfl⟩
  rw [hKA1]
  have HKE := Lib.hid hKA1
  have HWL : Hid (∀ k, (kwh rs k).length ≤ k) := Lib.hid (fun k => kwh_len rs k)
  obtain ⟨i0, hi0, hz0, hz1, hz2⟩ := info_parts info_int
  have HI := Lib.hid (And.intro hi0 (And.intro hz0 (And.intro hz1 hz2)))
  have HO0 : Hid (w.ownsRow w.heap.size 3 1 (.slice none 0 0) (kwh rs 0).length ((kwh rs 0).map (Value.int .i64))) := Lib.hid (World.ownsRow_nil _ _ _ _)
  have H1 : Hid (wiB (cs.length : Int) 1 7 = true) := Lib.hid (decide_eq_true (by omega))
  have H2 : Hid (wiB (n : Int) 1 600 = true) := Lib.hid (decide_eq_true (by omega))
  have H3 : Hid (wiB (i : Int) 0 ((n : Int) - 1) = true) := Lib.hid (decide_eq_true (by omega))
  have H4 : Hid (wiB (need : Int) 1 cs.length = true) := Lib.hid (decide_eq_true (by omega))
  have HOL := Lib.hid hol
  have HKL := Lib.hid hkl
  have hb1 : ((cs.length : Int) == (cs.length : Int)) = true := by simp
  have hb2 : ((cs.length : Int) != (cs.length : Int)) = false := by simp
  clear hf hi0 hz0 hz1 hz2 hKA1
  rw [hol, hkl]
  clear hol hkl
  go_enter Tryz.func26, Tryz.ntmps26
  go_wp2_with fail
  refine (rwithin_any _ _ _ _).mono ?_
  rintro e _ ⟨rfl, rfl⟩
  rw [H1.out]
  go_wp2_with fail
  refine (rwithin_any _ _ _ _).mono ?_
  rintro e _ ⟨rfl, rfl⟩
  rw [H2.out]
  go_wp2_with fail
  refine (rwithin_any _ _ _ _).mono ?_
  rintro e _ ⟨rfl, rfl⟩
  rw [H3.out]
  go_wp2_with fail
  refine (rwithin_any _ _ _ _).mono ?_
  rintro e _ ⟨rfl, rfl⟩
  rw [H4.out]
  go_wp2_with fail
  go_loopw [15, 16, 17, 18, 19] (fun u15 u16 u17 _ _ wr => ∃ k : Nat, k ≤ cs.length ∧ u17 = .int .i64 k ∧ Below w.heap.size w wr ∧ u15 = .int .i64 (rsu rs k) ∧ wr.ownsRow w.heap.size 3 1 u16 (kwh rs k).length ((kwh rs k).map (Value.int .i64)) ∧ ∀ (j : Nat) (r : Int × Int × Bool), j < k → rs[j]? = some r → r.2.1 = 0) (fun _ _ u17 _ _ _ => cs.length - (intOf u17).toNat)
  case atStart => exact ⟨0, Nat.zero_le _, rfl, Below.refl _ _, rfl, HO0.out, fun j r hj => by omega⟩
  case round =>
  obtain ⟨k, hk, rfl, hb, rfl, ho, her⟩ := hrel
  have HBk := Lib.hid hb
  have HOk := Lib.hid ho
  have HER := Lib.hid her
  obtain ⟨hsr0, hsr1⟩ := HRM.out k
  have hwl := HWL.out k
  clear hb ho her
  by_cases hlt : k < cs.length
  case neg =>
    obtain rfl : k = cs.length := by omega
    have hke : KA1 = (rsu rs cs.length % 720, kwh rs cs.length, 0) := by
      rw [← HKE.out, kall_ok (fun j r hj => HER.out j r (by have := (List.getElem?_eq_some_iff.1 hj).1; rw [HRL.out] at this; exact this) hj), HRL.out, rsu_mod]
    have HE := Lib.hid hke
    clear hke
    go_wp2
    go_ret3
    rw [HE.out]
    exact ⟨_, rfl, HOk.out, HBk.out⟩
  case pos =>
  have hki : (k : Int) < (cs.length : Int) := by omega
  obtain ⟨c, hc⟩ := get_some cs k hlt
  obtain ⟨o, hoo⟩ := get_some os k (by rw [HOL.out]; exact hlt)
  obtain ⟨a, ha⟩ := get_some ks k (by rw [HKL.out]; exact hlt)
  have hrk := HRG.out k c o a hc hoo ha
  have hkr := kone_range c n (cs.length : Int) i o a.l need
  have hfit := HF.out wr HBk.out
  have hoix := (hfit.og o (List.mem_of_getElem? hoo)).f.ix
  have hov := (hfit.og o (List.mem_of_getElem? hoo)).f.v
  unfold i64ok at hoix hov
  obtain ⟨bO, oO, hOe, -⟩ := og_cells hfit.o hoo
  obtain ⟨bC, oC, hCe, -⟩ := cm_cells hfit.c hc
  obtain ⟨bK, oK, hKe, -⟩ := kw_cells hfit.k ha
  have HOC : Hid (∀ W, Below w.heap.size w W → W.cell? ⟨bO, oO + k * 4, none⟩ = some (.int .i64 o.ix) ∧ W.cell? ⟨bO, oO + k * 4 + 1, none⟩ = some (.int .i64 o.v) ∧ W.cell? ⟨bO, oO + k * 4 + 2, none⟩ = some (.string o.salt) ∧ W.cell? ⟨bO, oO + k * 4 + 3, none⟩ = some (.slice o.A o.p.length o.c)) := Lib.hid (fun W hW => by
    obtain ⟨b, off, he, h⟩ := og_cells (HF.out W hW).o hoo
    rw [hOe] at he
    cases he
    exact h)
  have HCC : Hid (∀ W, Below w.heap.size w W → W.cell? ⟨bC, oC + k * 2, none⟩ = some (.string c.1) ∧ W.cell? ⟨bC, oC + k * 2 + 1, none⟩ = some (.string c.2)) := Lib.hid (fun W hW => by
    obtain ⟨b, off, he, h⟩ := cm_cells (HF.out W hW).c hc
    rw [hCe] at he
    cases he
    exact h)
  have HKC : Hid (∀ W, Below w.heap.size w W → W.cell? ⟨bK, oK + k, none⟩ = some (.slice a.A a.l.length a.c)) := Lib.hid (fun W hW => by
    obtain ⟨b, off, he, h⟩ := kw_cells (HF.out W hW).k ha
    rw [hKe] at he
    cases he
    exact h)
  have HCK : Hid (∀ W, Below w.heap.size w W → _) := Lib.hid (fun W hW => rcheck30_any c n o W ((HF.out W hW).og o (List.mem_of_getElem? hoo)) ⟨by omega, by omega⟩)
  have HJN : Hid (∀ W, Below w.heap.size w W → _) := Lib.hid (fun W hW => rjoined30_any c n cs.length i a need W ((HF.out W hW).kw a (List.mem_of_getElem? ha)) hn6 (by omega) hin ⟨by omega, by omega⟩)
  have HRK := Lib.hid hrk
  rw [hOe, hCe, hKe]
  clear hfit hOe hCe hKe hc hoo ha hrk
  obtain ⟨ck, hck⟩ : ∃ b, ckB c.1 n o.ix o.v o.salt o.p = b := ⟨_, rfl⟩
  rw [hck] at HCK
  have HKO1 : Hid (o.ix = (i : Int) → ck = true → kone c n (cs.length : Int) i o a.l need = (o.v, 0, false)) := Lib.hid (fun h1 h2 => by unfold kone; rw [if_pos ⟨h1, by rw [hck]; exact h2⟩])
  have HKO2 : Hid (¬ (o.ix = (i : Int) ∧ ck = true) → kone c n (cs.length : Int) i o a.l need = ((kjn c.2 n (cs.length : Int) i a.l need).1, (kjn c.2 n (cs.length : Int) i a.l need).2, true)) := Lib.hid (fun h => by unfold kone; rw [if_neg (by rw [hck]; exact h)])
  clear hck
  generalize kone c n (cs.length : Int) i o a.l need = KO at *
  generalize kjn c.2 n (cs.length : Int) i a.l need = KN at *
  by_cases c1 : o.ix = (i : Int)
  case neg =>
    have d1 : (o.ix == (i : Int)) = false := by simpa using c1
    have C1 := Lib.hid c1
    clear c1
    go_wp2_with fail
    refine wp_region_held_drew (S := fun W => Below w.heap.size w W) (by kernel_rfl) (HBk.out.drew) (fun hS0 => ?_)
    refine wpAnyH_take (i := 0) (v := ?_) rfl (by kernel_rfl) (by kernel_rfl) (by kernel_rfl) (fun _ _ _ h => h) (Or.inl ⟨by kernel_rfl, ?hy⟩) hS0 ?rest
    case hy => (intro W hSw; clear hSw; go_simp; with_reducible rfl)
    case rest =>
    refine wpAnyH_take (i := 1) (v := ?_) rfl (by kernel_rfl) (by kernel_rfl) (by kernel_rfl) (fun _ _ _ h => h) (Or.inl ⟨by kernel_rfl, ?hy⟩) hS0 ?rest
    case hy => (intro W hSw; clear hSw; go_simp; with_reducible rfl)
    case rest =>
    refine wpAnyH_take (i := 2) (v := ?_) rfl (by kernel_rfl) (by kernel_rfl) (by kernel_rfl) (fun _ _ _ h => h) (Or.inl ⟨by kernel_rfl, ?hy⟩) hS0 ?rest
    case hy => (intro W hSw; clear hSw; go_simp; with_reducible rfl)
    case rest =>
    refine wpAnyH_take (i := 3) (v := ?_) rfl (by kernel_rfl) (by kernel_rfl) (by kernel_rfl) (fun _ _ _ h => h) (Or.inl ⟨by kernel_rfl, ?hy⟩) hS0 ?rest
    case hy => (intro W hSw; clear hSw; go_simp; with_reducible rfl)
    case rest =>
    refine wpAnyH_take (i := 4) (v := ?_) rfl (by kernel_rfl) (by kernel_rfl) (by kernel_rfl) (fun _ _ _ h => h) (Or.inl ⟨by kernel_rfl, ?hy⟩) hS0 ?rest
    case hy => (intro W hSw; obtain ⟨o0, o1, o2, o3⟩ := HOC.out W hSw; have ol_ := lt_of_cell o0; clear hSw; go_simp; with_reducible rfl)
    case rest =>
    refine wpAnyH_take (i := 5) (v := ?_) rfl (by kernel_rfl) (by kernel_rfl) (by kernel_rfl) (fun _ _ _ h => h) (Or.inl ⟨by kernel_rfl, ?hy⟩) hS0 ?rest
    case hy => (intro W hSw; clear hSw; go_simp; with_reducible rfl)
    case rest =>
    try go_simp
    refine wpAnyH_take (i := 6) (v := ?_) rfl (by kernel_rfl) (by kernel_rfl) (by kernel_rfl) (fun _ _ _ h => h) (Or.inl ⟨by kernel_rfl, ?hy⟩) hS0 ?rest
    case hy => (intro W hSw; clear hSw; go_simp; with_reducible rfl)
    case rest =>
    refine wpAnyH_take (i := 7) (v := ?_) rfl (by kernel_rfl) (by kernel_rfl) (by kernel_rfl) (fun _ _ _ h => h) (Or.inl ⟨by kernel_rfl, ?hy⟩) hS0 ?rest
    case hy => (intro W hSw; clear hSw; go_simp; with_reducible rfl)
    case rest =>
    refine wpAnyH_take (i := 8) (v := undef) rfl (by kernel_rfl) (by kernel_rfl) (by kernel_rfl) (fun _ _ _ h => h) (Or.inr ⟨by kernel_rfl, rfl⟩) hS0 ?_
    refine wpAnyH_take (i := 9) (v := undef) rfl (by kernel_rfl) (by kernel_rfl) (by kernel_rfl) (fun _ _ _ h => h) (Or.inr ⟨by kernel_rfl, rfl⟩) hS0 ?_
    refine wpAnyH_take (i := 10) (v := undef) rfl (by kernel_rfl) (by kernel_rfl) (by kernel_rfl) (fun _ _ _ h => h) (Or.inr ⟨by kernel_rfl, rfl⟩) hS0 ?_
    refine wpAnyH_take (i := 11) (v := undef) rfl (by kernel_rfl) (by kernel_rfl) (by kernel_rfl) (fun _ _ _ h => h) (Or.inr ⟨by kernel_rfl, rfl⟩) hS0 ?_
    try go_simp
    refine wpAnyH_take (i := 12) (v := undef) rfl (by kernel_rfl) (by kernel_rfl) (by kernel_rfl) (fun _ _ _ h => h) (Or.inr ⟨by kernel_rfl, rfl⟩) hS0 ?_
    refine wpAnyH_take (i := 13) (v := undef) rfl (by kernel_rfl) (by kernel_rfl) (by kernel_rfl) (fun _ _ _ h => h) (Or.inr ⟨by kernel_rfl, rfl⟩) hS0 ?_
    refine wpAnyH_take (i := 14) (v := undef) rfl (by kernel_rfl) (by kernel_rfl) (by kernel_rfl) (fun _ _ _ h => h) (Or.inr ⟨by kernel_rfl, rfl⟩) hS0 ?_
    refine wpAnyH_take (i := 15) (v := undef) rfl (by kernel_rfl) (by kernel_rfl) (by kernel_rfl) (fun _ _ _ h => h) (Or.inr ⟨by kernel_rfl, rfl⟩) hS0 ?_
    refine wpAnyH_take (i := 16) (v := undef) rfl (by kernel_rfl) (by kernel_rfl) (by kernel_rfl) (fun _ _ _ h => h) (Or.inr ⟨by kernel_rfl, rfl⟩) hS0 ?_
    refine wpAnyH_take (i := 17) (v := undef) rfl (by kernel_rfl) (by kernel_rfl) (by kernel_rfl) (fun _ _ _ h => h) (Or.inr ⟨by kernel_rfl, rfl⟩) hS0 ?_
    try go_simp
    refine wpAnyH_take (i := 18) (v := ?_) rfl (by kernel_rfl) (by kernel_rfl) (by kernel_rfl) (fun _ _ _ h => h) (Or.inl ⟨by kernel_rfl, ?hy⟩) hS0 ?rest
    case hy => (intro W hSw; clear hSw; go_simp; with_reducible rfl)
    case rest =>
    refine wpAnyH_done (by kernel_rfl) ?_ _
    have HBJ := Lib.hid (And.intro hS0 ((Below.refl wr.heap.size wr).drew))
    have hko := HKO2.out (fun h => C1.out h.1)
    have HRK2 : Hid (rs[k]? = some (KN.1, KN.2, true)) := Lib.hid (by rw [HRK.out, hko])
    have hkr2 : 0 ≤ KN.1 ∧ KN.1 < 720 := by rw [hko] at hkr; exact hkr
    obtain ⟨hk0, hk1⟩ := hkr2
    obtain ⟨sd, er⟩ := KN
    simp only at hk0 hk1
    clear hko hkr
    go_wp2_with fail
    refine wp_region_held_drew (S := fun W => Below w.heap.size w W) (by kernel_rfl) (HBJ.out.1.drew) (fun hS0 => ?_)
    refine wpAnyH_take (i := 0) (v := ?_) rfl (by kernel_rfl) (by kernel_rfl) (by kernel_rfl) (fun _ _ _ h => h) (Or.inl ⟨by kernel_rfl, ?hy⟩) hS0 ?rest
    case hy => (intro W hSw; clear hSw; go_simp; with_reducible rfl)
    case rest =>
    refine wpAnyH_take (i := 1) (v := ?_) rfl (by kernel_rfl) (by kernel_rfl) (by kernel_rfl) (fun _ _ _ h => h) (Or.inl ⟨by kernel_rfl, ?hy⟩) hS0 ?rest
    case hy => (intro W hSw; clear hSw; go_simp; with_reducible rfl)
    case rest =>
    refine wpAnyH_take (i := 2) (v := ?_) rfl (by kernel_rfl) (by kernel_rfl) (by kernel_rfl) (fun _ _ _ h => h) (Or.inl ⟨by kernel_rfl, ?hy⟩) hS0 ?rest
    case hy => (intro W hSw; clear hSw; go_simp; with_reducible rfl)
    case rest =>
    refine wpAnyH_take (i := 3) (v := ?_) rfl (by kernel_rfl) (by kernel_rfl) (by kernel_rfl) (fun _ _ _ h => h) (Or.inl ⟨by kernel_rfl, ?hy⟩) hS0 ?rest
    case hy => (intro W hSw; obtain ⟨c0, c1_⟩ := HCC.out W hSw; have cl_ := lt_of_cell c0; clear hSw; go_simp; with_reducible rfl)
    case rest =>
    refine wpAnyH_take (i := 4) (v := ?_) rfl (by kernel_rfl) (by kernel_rfl) (by kernel_rfl) (fun _ _ _ h => h) (Or.inl ⟨by kernel_rfl, ?hy⟩) hS0 ?rest
    case hy => (intro W hSw; clear hSw; go_simp; with_reducible rfl)
    case rest =>
    refine wpAnyH_take (i := 5) (v := ?_) rfl (by kernel_rfl) (by kernel_rfl) (by kernel_rfl) (fun _ _ _ h => h) (Or.inl ⟨by kernel_rfl, ?hy⟩) hS0 ?rest
    case hy => (intro W hSw; clear hSw; go_simp; with_reducible rfl)
    case rest =>
    try go_simp
    refine wpAnyH_take (i := 6) (v := ?_) rfl (by kernel_rfl) (by kernel_rfl) (by kernel_rfl) (fun _ _ _ h => h) (Or.inl ⟨by kernel_rfl, ?hy⟩) hS0 ?rest
    case hy => (intro W hSw; clear hSw; go_simp; with_reducible rfl)
    case rest =>
    refine wpAnyH_take (i := 7) (v := ?_) rfl (by kernel_rfl) (by kernel_rfl) (by kernel_rfl) (fun _ _ _ h => h) (Or.inl ⟨by kernel_rfl, ?hy⟩) hS0 ?rest
    case hy => (intro W hSw; clear hSw; go_simp; with_reducible rfl)
    case rest =>
    refine wpAnyH_take (i := 8) (v := ?_) rfl (by kernel_rfl) (by kernel_rfl) (by kernel_rfl) (fun _ _ _ h => h) (Or.inl ⟨by kernel_rfl, ?hy⟩) hS0 ?rest
    case hy => (intro W hSw; clear hSw; go_simp; with_reducible rfl)
    case rest =>
    refine wpAnyH_take (i := 9) (v := ?_) rfl (by kernel_rfl) (by kernel_rfl) (by kernel_rfl) (fun _ _ _ h => h) (Or.inl ⟨by kernel_rfl, ?hy⟩) hS0 ?rest
    case hy => (intro W hSw; clear hSw; go_simp; with_reducible rfl)
    case rest =>
    refine wpAnyH_take (i := 10) (v := ?_) rfl (by kernel_rfl) (by kernel_rfl) (by kernel_rfl) (fun _ _ _ h => h) (Or.inl ⟨by kernel_rfl, ?hy⟩) hS0 ?rest
    case hy => (intro W hSw; clear hSw; go_simp; with_reducible rfl)
    case rest =>
    refine wpAnyH_take (i := 11) (v := ?_) rfl (by kernel_rfl) (by kernel_rfl) (by kernel_rfl) (fun _ _ _ h => h) (Or.inl ⟨by kernel_rfl, ?hy⟩) hS0 ?rest
    case hy => (intro W hSw; have k0 := HKC.out W hSw; have kl_ := lt_of_cell k0; clear hSw; go_simp; with_reducible rfl)
    case rest =>
    try go_simp
    refine wpAnyH_take (i := 12) (v := ?_) rfl (by kernel_rfl) (by kernel_rfl) (by kernel_rfl) (fun _ _ _ h => h) (Or.inl ⟨by kernel_rfl, ?hy⟩) hS0 ?rest
    case hy => (intro W hSw; clear hSw; go_simp; with_reducible rfl)
    case rest =>
    refine wpAnyH_ready (rs := [13]) (by kernel_rfl) (by simp) ?_
    refine AllReadyH.cons rfl (fun K hK => ?_) (AllReadyH.nil)
    go_simp
    refine (HJN.out _ hS0).mono ?_
    rintro e wn ⟨rfl, hb⟩
    have HBN := Lib.hid (below_trans hS0 hb)
    have HBkn : Hid (Below wr.heap.size wr wn) := Lib.hid (below_trans HBJ.out.2.drew hb)
    clear hb
    go_simp
    refine hK.out _ _ HBN.out (fun hS1 => ?_)
    clear hK K
    refine wpAnyH_take (i := 14) (v := ?_) rfl (by kernel_rfl) (by kernel_rfl) (by kernel_rfl) (fun _ _ _ h => h) (Or.inl ⟨by kernel_rfl, ?hy⟩) hS1 ?rest
    case hy => (intro W hSw; clear hSw; go_simp; with_reducible rfl)
    case rest =>
    refine wpAnyH_take (i := 15) (v := ?_) rfl (by kernel_rfl) (by kernel_rfl) (by kernel_rfl) (fun _ _ _ h => h) (Or.inl ⟨by kernel_rfl, ?hy⟩) hS1 ?rest
    case hy => (intro W hSw; clear hSw; go_simp; with_reducible rfl)
    case rest =>
    refine wpAnyH_take (i := 16) (v := ?_) rfl (by kernel_rfl) (by kernel_rfl) (by kernel_rfl) (fun _ _ _ h => h) (Or.inl ⟨by kernel_rfl, ?hy⟩) hS1 ?rest
    case hy => (intro W hSw; clear hSw; go_simp; with_reducible rfl)
    case rest =>
    refine wpAnyH_take (i := 17) (v := ?_) rfl (by kernel_rfl) (by kernel_rfl) (by kernel_rfl) (fun _ _ _ h => h) (Or.inl ⟨by kernel_rfl, ?hy⟩) hS1 ?rest
    case hy => (intro W hSw; clear hSw; go_simp; with_reducible rfl)
    case rest =>
    refine wpAnyH_take (i := 18) (v := ?_) rfl (by kernel_rfl) (by kernel_rfl) (by kernel_rfl) (fun _ _ _ h => h) (Or.inl ⟨by kernel_rfl, ?hy⟩) hS1 ?rest
    case hy => (intro W hSw; clear hSw; go_simp; with_reducible rfl)
    case rest =>
    try go_simp
    refine wpAnyH_done (by kernel_rfl) ?_ _
    clear hS0 hS1
    try go_simp
    by_cases he0 : er = 0
    case neg =>
      have e1 : (er == 0) = false := by simpa using he0
      have e2 : (er != 0) = true := by simpa using he0
      have hke : KA1 = (0, [], er) := by rw [← HKE.out]; exact kall_err HER.out HRK2.out he0
      have HE := Lib.hid hke
      clear hke he0
      go_wp2
      go_ret3
      rw [HE.out]
      exact ⟨_, rfl, World.ownsRow_nil _ _ _ _, HBN.out⟩
    case pos =>
    subst he0
    have hb1' : (k : Int) < 9223372036854775807 := by omega
    have HOn := Lib.hid (row_below HOk.out HBkn.out)
    go_wp2_with (at_builtin; refine wpList_app _ rfl (.tmp 112) (.tmp 114) 23 23 rfl w.heap.size 3 3 i0 _ 1 8 Tryz.underlying23 Tryz.underlying23 HI.out.1 HI.out.2.1 HI.out.2.2.1 HI.out.2.2.2 rfl (by omega) _ (kwh rs k).length _ rfl (HOn.out.alloc _) _ 1 1 [.int .i64 k] rfl (Rd_new wn #[.int .i64 k] _ 1 1 _ rfl rfl) (by simp [Value.oneCell']) (by simp only [maxLen]; omega) (by omega) (by have := HBN.out.size; simp; omega) ?_)
    intro v3 w12 hown hg
    have HB12 : Hid (Below w.heap.size w w12) := Lib.hid ((below_alloc HBN.out _).grown hg (by have := HBN.out.size; simp; omega) (fun j hj => (HOn.out.lt j hj).1))
    have HWS : Hid (kwh rs (k + 1) = kwh rs k ++ [(k : Int)]) := Lib.hid (by rw [kwh_succ HRK2.out, if_pos rfl])
    have HRS : Hid (rsu rs (k + 1) = rsu rs k + sd) := Lib.hid (rsu_succ HRK2.out)
    have HO12 : Hid (w12.ownsRow w.heap.size 3 1 v3 (kwh rs (k + 1)).length ((kwh rs (k + 1)).map (Value.int .i64))) := Lib.hid (by rw [HWS.out, List.length_append, List.map_append]; exact hown)
    clear hown hg
    go_wp2
    go_roundw
    case rel => exact ⟨k + 1, by omega, by go_num, HB12.out, by rw [HRS.out], HO12.out, fun j r hj hr => by
      by_cases hjk : j = k
      · subst hjk
        rw [HRK2.out] at hr
        cases hr
        rfl
      · exact HER.out j r (by omega) hr⟩
    case measure => first | (simp [intOf]; done) | (simp [intOf]; omega)
  case pos =>
  have d1 : (o.ix == (i : Int)) = true := by simpa using c1
  have C1 := Lib.hid c1
  clear c1
  go_wp2_with fail
  refine wp_region_held_drew (S := fun W => Below w.heap.size w W) (by kernel_rfl) (HBk.out.drew) (fun hS0 => ?_)
  refine wpAnyH_take (i := 0) (v := ?_) rfl (by kernel_rfl) (by kernel_rfl) (by kernel_rfl) (fun _ _ _ h => h) (Or.inl ⟨by kernel_rfl, ?hy⟩) hS0 ?rest
  case hy => (intro W hSw; clear hSw; go_simp; with_reducible rfl)
  case rest =>
  refine wpAnyH_take (i := 1) (v := ?_) rfl (by kernel_rfl) (by kernel_rfl) (by kernel_rfl) (fun _ _ _ h => h) (Or.inl ⟨by kernel_rfl, ?hy⟩) hS0 ?rest
  case hy => (intro W hSw; clear hSw; go_simp; with_reducible rfl)
  case rest =>
  refine wpAnyH_take (i := 2) (v := ?_) rfl (by kernel_rfl) (by kernel_rfl) (by kernel_rfl) (fun _ _ _ h => h) (Or.inl ⟨by kernel_rfl, ?hy⟩) hS0 ?rest
  case hy => (intro W hSw; clear hSw; go_simp; with_reducible rfl)
  case rest =>
  refine wpAnyH_take (i := 3) (v := ?_) rfl (by kernel_rfl) (by kernel_rfl) (by kernel_rfl) (fun _ _ _ h => h) (Or.inl ⟨by kernel_rfl, ?hy⟩) hS0 ?rest
  case hy => (intro W hSw; clear hSw; go_simp; with_reducible rfl)
  case rest =>
  refine wpAnyH_take (i := 4) (v := ?_) rfl (by kernel_rfl) (by kernel_rfl) (by kernel_rfl) (fun _ _ _ h => h) (Or.inl ⟨by kernel_rfl, ?hy⟩) hS0 ?rest
  case hy => (intro W hSw; obtain ⟨o0, o1, o2, o3⟩ := HOC.out W hSw; have ol_ := lt_of_cell o0; clear hSw; go_simp; with_reducible rfl)
  case rest =>
  refine wpAnyH_take (i := 5) (v := ?_) rfl (by kernel_rfl) (by kernel_rfl) (by kernel_rfl) (fun _ _ _ h => h) (Or.inl ⟨by kernel_rfl, ?hy⟩) hS0 ?rest
  case hy => (intro W hSw; clear hSw; go_simp; with_reducible rfl)
  case rest =>
  try go_simp
  refine wpAnyH_take (i := 6) (v := ?_) rfl (by kernel_rfl) (by kernel_rfl) (by kernel_rfl) (fun _ _ _ h => h) (Or.inl ⟨by kernel_rfl, ?hy⟩) hS0 ?rest
  case hy => (intro W hSw; clear hSw; go_simp; with_reducible rfl)
  case rest =>
  refine wpAnyH_take (i := 7) (v := ?_) rfl (by kernel_rfl) (by kernel_rfl) (by kernel_rfl) (fun _ _ _ h => h) (Or.inl ⟨by kernel_rfl, ?hy⟩) hS0 ?rest
  case hy => (intro W hSw; clear hSw; go_simp; with_reducible rfl)
  case rest =>
  refine wpAnyH_take (i := 8) (v := ?_) rfl (by kernel_rfl) (by kernel_rfl) (by kernel_rfl) (fun _ _ _ h => h) (Or.inl ⟨by kernel_rfl, ?hy⟩) hS0 ?rest
  case hy => (intro W hSw; clear hSw; go_simp; with_reducible rfl)
  case rest =>
  refine wpAnyH_take (i := 9) (v := ?_) rfl (by kernel_rfl) (by kernel_rfl) (by kernel_rfl) (fun _ _ _ h => h) (Or.inl ⟨by kernel_rfl, ?hy⟩) hS0 ?rest
  case hy => (intro W hSw; clear hSw; go_simp; with_reducible rfl)
  case rest =>
  refine wpAnyH_take (i := 10) (v := ?_) rfl (by kernel_rfl) (by kernel_rfl) (by kernel_rfl) (fun _ _ _ h => h) (Or.inl ⟨by kernel_rfl, ?hy⟩) hS0 ?rest
  case hy => (intro W hSw; clear hSw; go_simp; with_reducible rfl)
  case rest =>
  refine wpAnyH_take (i := 11) (v := ?_) rfl (by kernel_rfl) (by kernel_rfl) (by kernel_rfl) (fun _ _ _ h => h) (Or.inl ⟨by kernel_rfl, ?hy⟩) hS0 ?rest
  case hy => (intro W hSw; obtain ⟨c0, c1_⟩ := HCC.out W hSw; have cl_ := lt_of_cell c0; clear hSw; go_simp; with_reducible rfl)
  case rest =>
  try go_simp
  refine wpAnyH_take (i := 12) (v := ?_) rfl (by kernel_rfl) (by kernel_rfl) (by kernel_rfl) (fun _ _ _ h => h) (Or.inl ⟨by kernel_rfl, ?hy⟩) hS0 ?rest
  case hy => (intro W hSw; clear hSw; go_simp; with_reducible rfl)
  case rest =>
  refine wpAnyH_take (i := 13) (v := ?_) rfl (by kernel_rfl) (by kernel_rfl) (by kernel_rfl) (fun _ _ _ h => h) (Or.inl ⟨by kernel_rfl, ?hy⟩) hS0 ?rest
  case hy => (intro W hSw; clear hSw; go_simp; with_reducible rfl)
  case rest =>
  refine wpAnyH_take (i := 14) (v := ?_) rfl (by kernel_rfl) (by kernel_rfl) (by kernel_rfl) (fun _ _ _ h => h) (Or.inl ⟨by kernel_rfl, ?hy⟩) hS0 ?rest
  case hy => (intro W hSw; clear hSw; go_simp; with_reducible rfl)
  case rest =>
  refine wpAnyH_take (i := 15) (v := ?_) rfl (by kernel_rfl) (by kernel_rfl) (by kernel_rfl) (fun _ _ _ h => h) (Or.inl ⟨by kernel_rfl, ?hy⟩) hS0 ?rest
  case hy => (intro W hSw; clear hSw; go_simp; with_reducible rfl)
  case rest =>
  refine wpAnyH_take (i := 16) (v := ?_) rfl (by kernel_rfl) (by kernel_rfl) (by kernel_rfl) (fun _ _ _ h => h) (Or.inl ⟨by kernel_rfl, ?hy⟩) hS0 ?rest
  case hy => (intro W hSw; obtain ⟨o0, o1, o2, o3⟩ := HOC.out W hSw; have ol_ := lt_of_cell o0; clear hSw; go_simp; with_reducible rfl)
  case rest =>
  refine wpAnyH_ready (rs := [17]) (by kernel_rfl) (by simp) ?_
  refine AllReadyH.cons rfl (fun K hK => ?_) (AllReadyH.nil)
  go_simp
  refine (HCK.out _ hS0).mono ?_
  rintro e w8 ⟨rfl, hb⟩
  have HB8 := Lib.hid (below_trans hS0 hb)
  have HK8 : Hid (Below wr.heap.size wr w8) := Lib.hid (below_trans ((Below.refl wr.heap.size wr).drew) hb)
  clear hb
  go_simp
  refine hK.out _ _ HB8.out (fun hS1 => ?_)
  clear hK K
  refine wpAnyH_take (i := 18) (v := ?_) rfl (by kernel_rfl) (by kernel_rfl) (by kernel_rfl) (fun _ _ _ h => h) (Or.inl ⟨by kernel_rfl, ?hy⟩) hS1 ?rest
  case hy => (intro W hSw; clear hSw; go_simp; with_reducible rfl)
  case rest =>
  try go_simp
  refine wpAnyH_done (by kernel_rfl) ?_ _
  clear hS0 hS1
  try go_simp
  cases ck
  case false =>
    have HBJ := Lib.hid (And.intro HB8.out HK8.out)
    have hko := HKO2.out (fun h => absurd h.2 (by decide))
    have HRK2 : Hid (rs[k]? = some (KN.1, KN.2, true)) := Lib.hid (by rw [HRK.out, hko])
    have hkr2 : 0 ≤ KN.1 ∧ KN.1 < 720 := by rw [hko] at hkr; exact hkr
    obtain ⟨hk0, hk1⟩ := hkr2
    obtain ⟨sd, er⟩ := KN
    simp only at hk0 hk1
    clear hko hkr
    go_wp2_with fail
    refine wp_region_held_drew (S := fun W => Below w.heap.size w W) (by kernel_rfl) (HBJ.out.1.drew) (fun hS0 => ?_)
    refine wpAnyH_take (i := 0) (v := ?_) rfl (by kernel_rfl) (by kernel_rfl) (by kernel_rfl) (fun _ _ _ h => h) (Or.inl ⟨by kernel_rfl, ?hy⟩) hS0 ?rest
    case hy => (intro W hSw; clear hSw; go_simp; with_reducible rfl)
    case rest =>
    refine wpAnyH_take (i := 1) (v := ?_) rfl (by kernel_rfl) (by kernel_rfl) (by kernel_rfl) (fun _ _ _ h => h) (Or.inl ⟨by kernel_rfl, ?hy⟩) hS0 ?rest
    case hy => (intro W hSw; clear hSw; go_simp; with_reducible rfl)
    case rest =>
    refine wpAnyH_take (i := 2) (v := ?_) rfl (by kernel_rfl) (by kernel_rfl) (by kernel_rfl) (fun _ _ _ h => h) (Or.inl ⟨by kernel_rfl, ?hy⟩) hS0 ?rest
    case hy => (intro W hSw; clear hSw; go_simp; with_reducible rfl)
    case rest =>
    refine wpAnyH_take (i := 3) (v := ?_) rfl (by kernel_rfl) (by kernel_rfl) (by kernel_rfl) (fun _ _ _ h => h) (Or.inl ⟨by kernel_rfl, ?hy⟩) hS0 ?rest
    case hy => (intro W hSw; obtain ⟨c0, c1_⟩ := HCC.out W hSw; have cl_ := lt_of_cell c0; clear hSw; go_simp; with_reducible rfl)
    case rest =>
    refine wpAnyH_take (i := 4) (v := ?_) rfl (by kernel_rfl) (by kernel_rfl) (by kernel_rfl) (fun _ _ _ h => h) (Or.inl ⟨by kernel_rfl, ?hy⟩) hS0 ?rest
    case hy => (intro W hSw; clear hSw; go_simp; with_reducible rfl)
    case rest =>
    refine wpAnyH_take (i := 5) (v := ?_) rfl (by kernel_rfl) (by kernel_rfl) (by kernel_rfl) (fun _ _ _ h => h) (Or.inl ⟨by kernel_rfl, ?hy⟩) hS0 ?rest
    case hy => (intro W hSw; clear hSw; go_simp; with_reducible rfl)
    case rest =>
    try go_simp
    refine wpAnyH_take (i := 6) (v := ?_) rfl (by kernel_rfl) (by kernel_rfl) (by kernel_rfl) (fun _ _ _ h => h) (Or.inl ⟨by kernel_rfl, ?hy⟩) hS0 ?rest
    case hy => (intro W hSw; clear hSw; go_simp; with_reducible rfl)
    case rest =>
    refine wpAnyH_take (i := 7) (v := ?_) rfl (by kernel_rfl) (by kernel_rfl) (by kernel_rfl) (fun _ _ _ h => h) (Or.inl ⟨by kernel_rfl, ?hy⟩) hS0 ?rest
    case hy => (intro W hSw; clear hSw; go_simp; with_reducible rfl)
    case rest =>
    refine wpAnyH_take (i := 8) (v := ?_) rfl (by kernel_rfl) (by kernel_rfl) (by kernel_rfl) (fun _ _ _ h => h) (Or.inl ⟨by kernel_rfl, ?hy⟩) hS0 ?rest
    case hy => (intro W hSw; clear hSw; go_simp; with_reducible rfl)
    case rest =>
    refine wpAnyH_take (i := 9) (v := ?_) rfl (by kernel_rfl) (by kernel_rfl) (by kernel_rfl) (fun _ _ _ h => h) (Or.inl ⟨by kernel_rfl, ?hy⟩) hS0 ?rest
    case hy => (intro W hSw; clear hSw; go_simp; with_reducible rfl)
    case rest =>
    refine wpAnyH_take (i := 10) (v := ?_) rfl (by kernel_rfl) (by kernel_rfl) (by kernel_rfl) (fun _ _ _ h => h) (Or.inl ⟨by kernel_rfl, ?hy⟩) hS0 ?rest
    case hy => (intro W hSw; clear hSw; go_simp; with_reducible rfl)
    case rest =>
    refine wpAnyH_take (i := 11) (v := ?_) rfl (by kernel_rfl) (by kernel_rfl) (by kernel_rfl) (fun _ _ _ h => h) (Or.inl ⟨by kernel_rfl, ?hy⟩) hS0 ?rest
    case hy => (intro W hSw; have k0 := HKC.out W hSw; have kl_ := lt_of_cell k0; clear hSw; go_simp; with_reducible rfl)
    case rest =>
    try go_simp
    refine wpAnyH_take (i := 12) (v := ?_) rfl (by kernel_rfl) (by kernel_rfl) (by kernel_rfl) (fun _ _ _ h => h) (Or.inl ⟨by kernel_rfl, ?hy⟩) hS0 ?rest
    case hy => (intro W hSw; clear hSw; go_simp; with_reducible rfl)
    case rest =>
    refine wpAnyH_ready (rs := [13]) (by kernel_rfl) (by simp) ?_
    refine AllReadyH.cons rfl (fun K hK => ?_) (AllReadyH.nil)
    go_simp
    refine (HJN.out _ hS0).mono ?_
    rintro e wn ⟨rfl, hb⟩
    have HBN := Lib.hid (below_trans hS0 hb)
    have HBkn : Hid (Below wr.heap.size wr wn) := Lib.hid (below_trans HBJ.out.2.drew hb)
    clear hb
    go_simp
    refine hK.out _ _ HBN.out (fun hS1 => ?_)
    clear hK K
    refine wpAnyH_take (i := 14) (v := ?_) rfl (by kernel_rfl) (by kernel_rfl) (by kernel_rfl) (fun _ _ _ h => h) (Or.inl ⟨by kernel_rfl, ?hy⟩) hS1 ?rest
    case hy => (intro W hSw; clear hSw; go_simp; with_reducible rfl)
    case rest =>
    refine wpAnyH_take (i := 15) (v := ?_) rfl (by kernel_rfl) (by kernel_rfl) (by kernel_rfl) (fun _ _ _ h => h) (Or.inl ⟨by kernel_rfl, ?hy⟩) hS1 ?rest
    case hy => (intro W hSw; clear hSw; go_simp; with_reducible rfl)
    case rest =>
    refine wpAnyH_take (i := 16) (v := ?_) rfl (by kernel_rfl) (by kernel_rfl) (by kernel_rfl) (fun _ _ _ h => h) (Or.inl ⟨by kernel_rfl, ?hy⟩) hS1 ?rest
    case hy => (intro W hSw; clear hSw; go_simp; with_reducible rfl)
    case rest =>
    refine wpAnyH_take (i := 17) (v := ?_) rfl (by kernel_rfl) (by kernel_rfl) (by kernel_rfl) (fun _ _ _ h => h) (Or.inl ⟨by kernel_rfl, ?hy⟩) hS1 ?rest
    case hy => (intro W hSw; clear hSw; go_simp; with_reducible rfl)
    case rest =>
    refine wpAnyH_take (i := 18) (v := ?_) rfl (by kernel_rfl) (by kernel_rfl) (by kernel_rfl) (fun _ _ _ h => h) (Or.inl ⟨by kernel_rfl, ?hy⟩) hS1 ?rest
    case hy => (intro W hSw; clear hSw; go_simp; with_reducible rfl)
    case rest =>
    try go_simp
    refine wpAnyH_done (by kernel_rfl) ?_ _
    clear hS0 hS1
    try go_simp
    by_cases he0 : er = 0
    case neg =>
      have e1 : (er == 0) = false := by simpa using he0
      have e2 : (er != 0) = true := by simpa using he0
      have hke : KA1 = (0, [], er) := by rw [← HKE.out]; exact kall_err HER.out HRK2.out he0
      have HE := Lib.hid hke
      clear hke he0
      go_wp2
      go_ret3
      rw [HE.out]
      exact ⟨_, rfl, World.ownsRow_nil _ _ _ _, HBN.out⟩
    case pos =>
    subst he0
    have hb1' : (k : Int) < 9223372036854775807 := by omega
    have HOn := Lib.hid (row_below HOk.out HBkn.out)
    go_wp2_with (at_builtin; refine wpList_app _ rfl (.tmp 112) (.tmp 114) 23 23 rfl w.heap.size 3 3 i0 _ 1 8 Tryz.underlying23 Tryz.underlying23 HI.out.1 HI.out.2.1 HI.out.2.2.1 HI.out.2.2.2 rfl (by omega) _ (kwh rs k).length _ rfl (HOn.out.alloc _) _ 1 1 [.int .i64 k] rfl (Rd_new wn #[.int .i64 k] _ 1 1 _ rfl rfl) (by simp [Value.oneCell']) (by simp only [maxLen]; omega) (by omega) (by have := HBN.out.size; simp; omega) ?_)
    intro v3 w12 hown hg
    have HB12 : Hid (Below w.heap.size w w12) := Lib.hid ((below_alloc HBN.out _).grown hg (by have := HBN.out.size; simp; omega) (fun j hj => (HOn.out.lt j hj).1))
    have HWS : Hid (kwh rs (k + 1) = kwh rs k ++ [(k : Int)]) := Lib.hid (by rw [kwh_succ HRK2.out, if_pos rfl])
    have HRS : Hid (rsu rs (k + 1) = rsu rs k + sd) := Lib.hid (rsu_succ HRK2.out)
    have HO12 : Hid (w12.ownsRow w.heap.size 3 1 v3 (kwh rs (k + 1)).length ((kwh rs (k + 1)).map (Value.int .i64))) := Lib.hid (by rw [HWS.out, List.length_append, List.map_append]; exact hown)
    clear hown hg
    go_wp2
    go_roundw
    case rel => exact ⟨k + 1, by omega, by go_num, HB12.out, by rw [HRS.out], HO12.out, fun j r hj hr => by
      by_cases hjk : j = k
      · subst hjk
        rw [HRK2.out] at hr
        cases hr
        rfl
      · exact HER.out j r (by omega) hr⟩
    case measure => first | (simp [intOf]; done) | (simp [intOf]; omega)
  case true =>
  have hko := HKO1.out C1.out (by trivial)
  have HRK2 : Hid (rs[k]? = some (o.v, 0, false)) := Lib.hid (by rw [HRK.out, hko])
  have hkr2 : 0 ≤ o.v ∧ o.v < 720 := by rw [hko] at hkr; exact hkr
  obtain ⟨hk0, hk1⟩ := hkr2
  have HWS : Hid (kwh rs (k + 1) = kwh rs k) := Lib.hid (by rw [kwh_succ HRK2.out, if_neg (by decide), List.append_nil])
  have HRS : Hid (rsu rs (k + 1) = rsu rs k + o.v) := Lib.hid (rsu_succ HRK2.out)
  have HOn := Lib.hid (row_below HOk.out HK8.out)
  obtain ⟨o0, o1, o2, o3⟩ := HOC.out w8 HB8.out
  have ol_ := lt_of_cell o0
  clear hko hkr
  go_wp2
  go_roundw
  case rel => exact ⟨k + 1, by omega, by go_num, HB8.out, by rw [HRS.out], by rw [HWS.out]; exact HOn.out, fun j r hj hr => by
    by_cases hjk : j = k
    · subst hjk
      rw [HRK2.out] at hr
      cases hr
      rfl
    · exact HER.out j r (by omega) hr⟩
  case measure => first | (simp [intOf]; done) | (simp [intOf]; omega)
end

section
open Go.RowKit
theorem kdraw_all (CA : Option Addr) (cc : Nat) (cs : List (ByteArray × ByteArray)) (n i : Int) (OA : Option Addr) (oc : Nat) (os : List Og) (KA : Option Addr) (kc : Nat) (ks : List Kw) (need : Int) (w : World) (hf : DrS w CA cs OA os KA ks) (hn : i64ok n) (hT : Tabs w) :
    Calls Tryz.prog 25 #[.slice CA cs.length cc, .int .i64 n, .int .i64 i, .slice OA os.length oc, .slice KA ks.length kc, .int .i64 need] w fun e w' => ∃ v, e = .returned (.tuple #[.int .i64 (kdraw cs n i os (ks.map (·.l)) need).1, v, .int .i64 (kdraw cs n i os (ks.map (·.l)) need).2.2]) ∧ w'.ownsRow w.heap.size 3 1 v (kdraw cs n i os (ks.map (·.l)) need).2.1.length ((kdraw cs n i os (ks.map (·.l)) need).2.1.map (Value.int .i64)) ∧ Below w.heap.size w w' := by
  unfold kdraw
  rw [List.length_map]
  by_cases h : 1 ≤ cs.length ∧ cs.length ≤ 7 ∧ 1 ≤ n ∧ n ≤ 600 ∧ 0 ≤ i ∧ i ≤ n - 1 ∧ 1 ≤ need ∧ need ≤ cs.length ∧ os.length = cs.length ∧ ks.length = cs.length
  · rw [if_pos h]
    obtain ⟨N, rfl⟩ : ∃ N : Nat, n = (N : Int) := ⟨n.toNat, by omega⟩
    obtain ⟨I, rfl⟩ : ∃ I : Nat, i = (I : Int) := ⟨i.toNat, by omega⟩
    obtain ⟨D, rfl⟩ : ∃ D : Nat, need = (D : Int) := ⟨need.toNat, by omega⟩
    exact kdraw_ok CA cc cs N I OA oc os KA kc ks D w hf.fit (by omega) (by omega) (by omega) (by omega) (by omega) (by omega) (by omega) (by omega) hT
  · rw [if_neg h]
    refine (kdraw_bad CA cc cs n i OA oc os KA kc ks need w hf.cl hf.ol hf.kl hn h).mono ?_
    rintro e w' ⟨rfl, rfl⟩
    exact ⟨_, rfl, World.ownsRow_nil _ _ _ _, Below.refl _ _⟩
theorem rdraw_all (CA : Option Addr) (cc : Nat) (cs : List (ByteArray × ByteArray)) (n i : Int) (OA : Option Addr) (oc : Nat) (os : List Og) (KA : Option Addr) (kc : Nat) (ks : List Kw) (need : Int) (w : World) (hf : DrS w CA cs OA os KA ks) (hn : i64ok n) :
    Calls Tryz.prog 26 #[.slice CA cs.length cc, .int .i64 n, .int .i64 i, .slice OA os.length oc, .slice KA ks.length kc, .int .i64 need] w fun e w' => ∃ v, e = .returned (.tuple #[.int .i64 (kdraw cs n i os (ks.map (·.l)) need).1, v, .int .i64 (kdraw cs n i os (ks.map (·.l)) need).2.2]) ∧ w'.ownsRow w.heap.size 3 1 v (kdraw cs n i os (ks.map (·.l)) need).2.1.length ((kdraw cs n i os (ks.map (·.l)) need).2.1.map (Value.int .i64)) ∧ Below w.heap.size w w' := by
  unfold kdraw
  rw [List.length_map]
  by_cases h : 1 ≤ cs.length ∧ cs.length ≤ 7 ∧ 1 ≤ n ∧ n ≤ 600 ∧ 0 ≤ i ∧ i ≤ n - 1 ∧ 1 ≤ need ∧ need ≤ cs.length ∧ os.length = cs.length ∧ ks.length = cs.length
  · rw [if_pos h]
    obtain ⟨N, rfl⟩ : ∃ N : Nat, n = (N : Int) := ⟨n.toNat, by omega⟩
    obtain ⟨I, rfl⟩ : ∃ I : Nat, i = (I : Int) := ⟨i.toNat, by omega⟩
    obtain ⟨D, rfl⟩ : ∃ D : Nat, need = (D : Int) := ⟨need.toNat, by omega⟩
    exact rdraw_ok CA cc cs N I OA oc os KA kc ks D w hf (by omega) (by omega) (by omega) (by omega) (by omega) (by omega) (by omega) (by omega)
  · rw [if_neg h]
    refine (rdraw_bad CA cc cs n i OA oc os KA kc ks need w hf.cl hf.ol hf.kl hn h).mono ?_
    rintro e w' ⟨rfl, rfl⟩
    exact ⟨_, rfl, World.ownsRow_nil _ _ _ _, Below.refl _ _⟩
theorem kdraw_len (cs : List (ByteArray × ByteArray)) (n i : Int) (os : List Og) (ks : List (List Kp)) (need : Int) : (kdraw cs n i os ks need).2.1.length ≤ cs.length := by
  unfold kdraw
  split
  · next h =>
    unfold kall
    split
    · exact Nat.zero_le _
    · have h1 : (krs cs n i os ks need).length = cs.length := krs_len h.2.2.2.2.2.2.2.2.1 h.2.2.2.2.2.2.2.2.2
      rw [← h1]
      exact kwh_len _ _
  · exact Nat.zero_le _
set_option maxRecDepth 100000 in
set_option maxHeartbeats 64000000 in
theorem kda_walk (CA : Option Addr) (cc : Nat) (cs : List (ByteArray × ByteArray)) (n i : Int) (OA : Option Addr) (oc : Nat) (os : List Og) (KA : Option Addr) (kc : Nat) (ks : List Kw) (need : Int) (o : Og) (w : World) (hT : Tabs w) (hC : RowOf cmC 2 w CA cs) (hO : RowOf ogC 4 w OA os) (hK : RowOf kwC 1 w KA ks) (hOI : ∀ o, o ∈ os → OgIn w o) (hKI : ∀ k, k ∈ ks → KwIn w k) (hcl : cs.length ≤ 9223372036854775807) (hol : os.length ≤ 9223372036854775807) (hkl : ks.length ≤ 9223372036854775807) (hn : i64ok n) (hoI : OgIn w o) :
    Calls Tryz.prog 5 #[.slice CA cs.length cc, .int .i64 n, .int .i64 i, .slice OA os.length oc, .slice KA ks.length kc, .int .i64 need, .agg #[.int .i64 o.ix, .int .i64 o.v, .string o.salt, .slice o.A o.p.length o.c]] w fun e w' => e = .returned (.bool true) ∧ Below w.heap.size w w' := by
  have HC : Hid (∀ W, Below w.heap.size w W → RowOf cmC 2 W CA cs) := Lib.hid (fun W hW => hC.below hW)
  have HO : Hid (∀ W, Below w.heap.size w W → RowOf ogC 4 W OA os) := Lib.hid (fun W hW => hO.below hW)
  have HK : Hid (∀ W, Below w.heap.size w W → RowOf kwC 1 W KA ks) := Lib.hid (fun W hW => hK.below hW)
  have HOI : Hid (∀ o, o ∈ os → ∀ W, Below w.heap.size w W → OgIn W o) := Lib.hid (fun o h W hW => (hOI o h).below hW)
  have HKI : Hid (∀ k, k ∈ ks → ∀ W, Below w.heap.size w W → KwIn W k) := Lib.hid (fun k h W hW => (hKI k h).below hW)
  have HT : Hid (∀ W, Below w.heap.size w W → Tabs W) := Lib.hid (fun W hW => hT.below hW)
  have HOO : Hid (∀ W, Below w.heap.size w W → OgIn W o) := Lib.hid (fun W hW => hoI.below hW)
  have HN := Lib.hid hn
  obtain ⟨w0, hw0⟩ : ∃ w0, w.alloc (.cells #[.int .i64 o.ix, .int .i64 o.v, .string o.salt, .slice o.A o.p.length o.c] 32) = w0 := ⟨_, rfl⟩
  have HB0 : Hid (Below w.heap.size w w0) := Lib.hid (by rw [← hw0]; exact below_alloc (Below.refl _ _) _)
  have HBX : Hid (∀ W, Below w0.heap.size w0 W → Blk W w.heap.size 32 #[.int .i64 o.ix, .int .i64 o.v, .string o.salt, .slice o.A o.p.length o.c]) := Lib.hid (fun W hW => by
    have hb : Blk w0 w.heap.size 32 #[.int .i64 o.ix, .int .i64 o.v, .string o.salt, .slice o.A o.p.length o.c] := by rw [← hw0]; exact Blk.new w _ _ _ rfl
    exact (hW.block _ hb.lt).trans hb)
  have HW0 := Lib.hid hw0
  clear hT hC hO hK hOI hKI hn hoI hw0
  go_enter Tryz.func5, Tryz.ntmps5
  go_wp2_with fail
  try rw [HW0.out]
  refine (khead_any w0 (HT.out w0 HB0.out)).mono ?_
  rintro e w1 ⟨rfl, hb⟩
  have HX1 := Lib.hid hb
  have HB1 := Lib.hid (below_trans HB0.out hb)
  clear hb
  by_cases h9 : 9 < cs.length
  case pos =>
    have h9i : (9 : Int) < (cs.length : Int) := by omega
    go_wp2
    go_ret
    exact ⟨rfl, HB1.out⟩
  case neg =>
  have h9i : ¬ (9 : Int) < (cs.length : Int) := by omega
  go_wp2_with fail
  refine (rshort_any OA oc os KA kc ks w1 (HO.out w1 HB1.out) (HK.out w1 HB1.out) (fun o h => HOI.out o h w1 HB1.out) (fun k h => HKI.out k h w1 HB1.out) hol hkl).mono ?_
  rintro e _ ⟨rfl, rfl⟩
  obtain ⟨bs, hbs⟩ : ∃ b, shB os ks = b := ⟨_, rfl⟩
  rw [hbs]
  cases bs with
  | false =>
    clear hbs
    go_wp2
    go_ret
    exact ⟨rfl, HB1.out⟩
  | true =>
  have HSB := Lib.hid hbs
  clear hbs
  have z0 := (HBX.out w1 HX1.out).of_cell (i := 0) rfl
  have z1 := (HBX.out w1 HX1.out).of_cell (i := 1) rfl
  have z2 := (HBX.out w1 HX1.out).of_cell (i := 2) rfl
  have z3 := (HBX.out w1 HX1.out).of_cell (i := 3) rfl
  have zl := (HBX.out w1 HX1.out).lt
  go_wp2_with fail
  clear z0 z1 z2 z3 zl
  refine (rshort_any (some ⟨w1.heap.size, 0, none⟩) 1 [o] none 0 [] _ (RowOf.below (l := [o]) (f := ogC) (m := 4) (Rd_new w1 #[.int .i64 o.ix, .int .i64 o.v, .string o.salt, .slice o.A o.p.length o.c] _ 4 1 _ rfl rfl) (Below.refl _ _)) (show Rd _ 1 none 0 [] from ⟨rfl, fun h => absurd h (by simp)⟩) (fun q hq => by rw [List.mem_singleton.1 hq]; exact HOO.out _ (below_alloc HB1.out _)) (fun q hq => (by cases hq)) (show 1 ≤ 9223372036854775807 by decide) (show 0 ≤ 9223372036854775807 by decide)).mono ?_
  rintro e w2 ⟨rfl, hw2⟩
  have HB2 : Hid (Below w.heap.size w w2) := Lib.hid (by rw [← hw2]; exact below_alloc HB1.out _)
  have HX2 : Hid (Below w0.heap.size w0 w2) := Lib.hid (by rw [← hw2]; exact below_alloc HX1.out _)
  clear hw2
  obtain ⟨bo, hbo⟩ : ∃ b, shB [o] [] = b := ⟨_, rfl⟩
  rw [hbo]
  cases bo with
  | false =>
    clear hbo
    go_wp2
    go_ret
    exact ⟨rfl, HB2.out⟩
  | true =>
  have hso : shO o = true := by unfold shB at hbo; simpa using hbo
  have HSO : Hid (∀ W, Below w.heap.size w W → OgS W o) := Lib.hid (fun W hW => OgS.of hso (HOO.out W hW))
  have hsb := HSB.out
  unfold shB at hsb
  simp only [Bool.and_eq_true, decide_eq_true_eq, List.all_eq_true] at hsb
  have HDS : Hid (∀ W, Below w.heap.size w W → DrS W CA cs OA os KA ks) := Lib.hid (fun W hW => ⟨HC.out W hW, HO.out W hW, HK.out W hW, fun q hq => OgS.of (hsb.1.2 q hq) (HOI.out q hq W hW), fun a ha => by
    have h := hsb.2 a ha
    unfold shW at h
    simp only [Bool.and_eq_true, decide_eq_true_eq, List.all_eq_true] at h
    have hi := HKI.out a ha W hW
    exact ⟨hi.row, fun q hq => KpS.of (h.2 q hq) (hi.each q hq), h.1⟩, hcl, hol, hkl⟩)
  have HD1 : Hid (∀ W, Below w.heap.size w W → _) := Lib.hid (fun W hW => kdraw_all CA cc cs n i OA oc os KA kc ks need W (HDS.out W hW) HN.out (HT.out W hW))
  have HD2 : Hid (∀ W, Below w.heap.size w W → _) := Lib.hid (fun W hW => rdraw_all CA cc cs n i OA oc os KA kc ks need W (HDS.out W hW) HN.out)
  have hdl := kdraw_len cs n i os (ks.map (·.l)) need
  obtain ⟨D, hD⟩ : ∃ D, kdraw cs n i os (ks.map (·.l)) need = D := ⟨_, rfl⟩
  rw [hD] at HD1 HD2 hdl
  have HDL : Hid (D.2.1.length ≤ 9) := Lib.hid (by omega)
  clear hbo hso hsb hD hdl
  go_wp2_with fail
  refine (HD1.out w2 HB2.out).mono ?_
  rintro e w3 ⟨v3, rfl, ho, hb⟩
  obtain ⟨A3, c3, rfl, -, -, hr3⟩ := Rd.of_own ho
  have HX3 := Lib.hid (below_trans HX2.out hb)
  have HB3 := Lib.hid (below_trans HB2.out hb)
  have HI3 : Hid (Ints w3 A3 D.2.1) := Lib.hid hr3
  clear ho hb hr3
  go_wp2_with fail
  refine (HD2.out w3 HB3.out).mono ?_
  rintro e w4 ⟨v4, rfl, ho, hb⟩
  obtain ⟨A4, c4, rfl, -, -, hr4⟩ := Rd.of_own ho
  have HX4 := Lib.hid (below_trans HX3.out hb)
  have HB4 := Lib.hid (below_trans HB3.out hb)
  have HI4 : Hid (Ints w4 A4 D.2.1) := Lib.hid hr4
  have HI3' := Lib.hid (HI3.out.below hb)
  clear ho hb hr4
  go_wp2_with fail
  go_loopw [22] (fun u wr => ∃ k : Nat, k ≤ cs.length ∧ u = .int .i64 k ∧ Below w4.heap.size w4 wr) (fun u _ => cs.length - (intOf u).toNat)
  case atStart => exact ⟨0, Nat.zero_le _, rfl, Below.refl _ _⟩
  case round =>
  obtain ⟨k, hk, rfl, hb⟩ := hrel
  have HYk := Lib.hid hb
  have HBk := Lib.hid (below_trans HB4.out hb)
  clear hb
  by_cases hlt : k < cs.length
  case neg =>
    obtain rfl : k = cs.length := by omega
    go_wp2_with fail
    refine (kequal_any A3 A4 c3 c4 D.2.1 D.2.1 wr (HI3'.out.below HYk.out) (HI4.out.below HYk.out) (by have := HDL.out; omega) (by have := HDL.out; omega)).mono ?_
    rintro e w5 ⟨rfl, hb⟩
    rw [decide_eq_true (rfl : D.2.1 = D.2.1)]
    have HB5 := Lib.hid (below_trans HBk.out hb)
    clear hb
    go_wp2
    go_ret
    exact ⟨rfl, HB5.out⟩
  case pos =>
  have hki : (k : Int) < (cs.length : Int) := by omega
  obtain ⟨c, hc⟩ := get_some cs k hlt
  obtain ⟨bC, oC, hCe, -⟩ := cm_cells (HC.out w (Below.refl _ _)) hc
  have HCC : Hid (∀ W, Below w.heap.size w W → W.cell? ⟨bC, oC + k * 2, none⟩ = some (.string c.1) ∧ W.cell? ⟨bC, oC + k * 2 + 1, none⟩ = some (.string c.2)) := Lib.hid (fun W hW => by
    obtain ⟨b, off, he, h⟩ := cm_cells (HC.out W hW) hc
    rw [hCe] at he
    cases he
    exact h)
  obtain ⟨ck, hck⟩ : ∃ b, ckB c.1 n o.ix o.v o.salt o.p = b := ⟨_, rfl⟩
  have HK1 : Hid (∀ W, Below w.heap.size w W → _) := Lib.hid (fun W hW => kcheck_any c n o W (HSO.out W hW).f HN.out (HT.out W hW))
  have HK2 : Hid (∀ W, Below w.heap.size w W → _) := Lib.hid (fun W hW => rcheck30_any c n o W (HSO.out W hW) HN.out)
  rw [hck] at HK1 HK2
  rw [hCe]
  clear hCe hc hck
  go_wp2_with fail
  refine wp_region_held_drew (S := fun W => Below w4.heap.size w4 W) (by kernel_rfl) (HYk.out.drew) (fun hS0 => ?_)
  refine wpAnyH_take (i := 0) (v := ?_) rfl (by kernel_rfl) (by kernel_rfl) (by kernel_rfl) (fun _ _ _ h => h) (Or.inl ⟨by kernel_rfl, ?hy⟩) hS0 ?rest
  case hy => (intro W hSw; clear hSw; go_simp; with_reducible rfl)
  case rest =>
  refine wpAnyH_take (i := 1) (v := ?_) rfl (by kernel_rfl) (by kernel_rfl) (by kernel_rfl) (fun _ _ _ h => h) (Or.inl ⟨by kernel_rfl, ?hy⟩) hS0 ?rest
  case hy => (intro W hSw; clear hSw; go_simp; with_reducible rfl)
  case rest =>
  refine wpAnyH_take (i := 2) (v := ?_) rfl (by kernel_rfl) (by kernel_rfl) (by kernel_rfl) (fun _ _ _ h => h) (Or.inl ⟨by kernel_rfl, ?hy⟩) hS0 ?rest
  case hy => (intro W hSw; clear hSw; go_simp; with_reducible rfl)
  case rest =>
  refine wpAnyH_take (i := 3) (v := ?_) rfl (by kernel_rfl) (by kernel_rfl) (by kernel_rfl) (fun _ _ _ h => h) (Or.inl ⟨by kernel_rfl, ?hy⟩) hS0 ?rest
  case hy => (intro W hSw; obtain ⟨c0, c1_⟩ := HCC.out W (below_trans HB4.out hSw); have cl_ := lt_of_cell c0; clear hSw; go_simp; with_reducible rfl)
  case rest =>
  refine wpAnyH_take (i := 4) (v := ?_) rfl (by kernel_rfl) (by kernel_rfl) (by kernel_rfl) (fun _ _ _ h => h) (Or.inl ⟨by kernel_rfl, ?hy⟩) hS0 ?rest
  case hy => (intro W hSw; clear hSw; go_simp; with_reducible rfl)
  case rest =>
  refine wpAnyH_take (i := 5) (v := ?_) rfl (by kernel_rfl) (by kernel_rfl) (by kernel_rfl) (fun _ _ _ h => h) (Or.inl ⟨by kernel_rfl, ?hy⟩) hS0 ?rest
  case hy => (intro W hSw; have z0 := (HBX.out W (below_trans HX4.out hSw)).of_cell (i := 0) rfl; have z1 := (HBX.out W (below_trans HX4.out hSw)).of_cell (i := 1) rfl; have z2 := (HBX.out W (below_trans HX4.out hSw)).of_cell (i := 2) rfl; have z3 := (HBX.out W (below_trans HX4.out hSw)).of_cell (i := 3) rfl; have zl := (HBX.out W (below_trans HX4.out hSw)).lt; clear hSw; go_simp; with_reducible rfl)
  case rest =>
  try go_simp
  refine wpAnyH_take (i := 7) (v := ?_) rfl (by kernel_rfl) (by kernel_rfl) (by kernel_rfl) (fun _ _ _ h => h) (Or.inl ⟨by kernel_rfl, ?hy⟩) hS0 ?rest
  case hy => (intro W hSw; clear hSw; go_simp; with_reducible rfl)
  case rest =>
  refine wpAnyH_take (i := 8) (v := ?_) rfl (by kernel_rfl) (by kernel_rfl) (by kernel_rfl) (fun _ _ _ h => h) (Or.inl ⟨by kernel_rfl, ?hy⟩) hS0 ?rest
  case hy => (intro W hSw; clear hSw; go_simp; with_reducible rfl)
  case rest =>
  refine wpAnyH_take (i := 9) (v := ?_) rfl (by kernel_rfl) (by kernel_rfl) (by kernel_rfl) (fun _ _ _ h => h) (Or.inl ⟨by kernel_rfl, ?hy⟩) hS0 ?rest
  case hy => (intro W hSw; clear hSw; go_simp; with_reducible rfl)
  case rest =>
  refine wpAnyH_take (i := 10) (v := ?_) rfl (by kernel_rfl) (by kernel_rfl) (by kernel_rfl) (fun _ _ _ h => h) (Or.inl ⟨by kernel_rfl, ?hy⟩) hS0 ?rest
  case hy => (intro W hSw; obtain ⟨c0, c1_⟩ := HCC.out W (below_trans HB4.out hSw); have cl_ := lt_of_cell c0; clear hSw; go_simp; with_reducible rfl)
  case rest =>
  refine wpAnyH_take (i := 11) (v := ?_) rfl (by kernel_rfl) (by kernel_rfl) (by kernel_rfl) (fun _ _ _ h => h) (Or.inl ⟨by kernel_rfl, ?hy⟩) hS0 ?rest
  case hy => (intro W hSw; clear hSw; go_simp; with_reducible rfl)
  case rest =>
  refine wpAnyH_take (i := 12) (v := ?_) rfl (by kernel_rfl) (by kernel_rfl) (by kernel_rfl) (fun _ _ _ h => h) (Or.inl ⟨by kernel_rfl, ?hy⟩) hS0 ?rest
  case hy => (intro W hSw; have z0 := (HBX.out W (below_trans HX4.out hSw)).of_cell (i := 0) rfl; have z1 := (HBX.out W (below_trans HX4.out hSw)).of_cell (i := 1) rfl; have z2 := (HBX.out W (below_trans HX4.out hSw)).of_cell (i := 2) rfl; have z3 := (HBX.out W (below_trans HX4.out hSw)).of_cell (i := 3) rfl; have zl := (HBX.out W (below_trans HX4.out hSw)).lt; clear hSw; go_simp; with_reducible rfl)
  case rest =>
  try go_simp
  refine wpAnyH_ready (rs := [6]) (by kernel_rfl) (by simp) ?_
  refine AllReadyH.cons rfl (fun K hK => ?_) (AllReadyH.nil)
  go_simp
  refine (HK1.out _ (below_trans HB4.out hS0)).mono ?_
  rintro e w6 ⟨rfl, hb⟩
  have HY6 := Lib.hid (below_trans hS0 hb)
  clear hb
  go_simp
  refine hK.out _ _ HY6.out (fun hS1 => ?_)
  clear hK K
  refine wpAnyH_ready (rs := [13]) (by kernel_rfl) (by simp) ?_
  refine AllReadyH.cons rfl (fun K hK => ?_) (AllReadyH.nil)
  go_simp
  refine (HK2.out _ (below_trans HB4.out HY6.out)).mono ?_
  rintro e w7 ⟨rfl, hb⟩
  have HY7 := Lib.hid (below_trans HY6.out hb)
  clear hb
  go_simp
  refine hK.out _ _ HY7.out (fun hS2 => ?_)
  clear hK K
  refine wpAnyH_take (i := 14) (v := ?_) rfl (by kernel_rfl) (by kernel_rfl) (by kernel_rfl) (fun _ _ _ h => h) (Or.inl ⟨by kernel_rfl, ?hy⟩) hS2 ?rest
  case hy => (intro W hSw; clear hSw; go_simp; with_reducible rfl)
  case rest =>
  refine wpAnyH_done (by kernel_rfl) ?_ _
  clear hS0 hS1 hS2
  try go_simp
  go_wp2
  go_roundw
  case rel => exact ⟨k + 1, by omega, by go_num, HY7.out⟩
  case measure => first | (simp [intOf]; done) | (simp [intOf]; omega)
end

end Go.Proofs.YtjfondfjdhjooaaGreatDoor
