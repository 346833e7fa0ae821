/- keeper: Draw. Chapter 30: the laws' helpers: Few, few, equal, example. -/
import Derived.Test.YtjfondfjdhjooaaGreatDoorChKeeperRecoversE
namespace Go.Proofs.YtjfondfjdhjooaaGreatDoor

section
open Go.RowKit Go.Maps

theorem joinF_range (l : List (Int × Int)) (need : Int) : 0 ≤ (joinF l need).1 := by
  unfold joinF
  split
  · exact Int.le_refl 0
  split
  · exact Int.le_refl 0
  · next hv =>
    split
    · exact Int.le_refl 0
    split
    · exact Int.le_refl 0
    split
    · exact Int.le_refl 0
    · refine (nv_range 0 (l.take need.toNat) (fun p hp => ?_) _ _).1
      have hv' : l.all validB = true := by simpa using hv
      have := (validB_iff p).1 (List.all_eq_true.1 hv' p (List.mem_of_mem_take hp))
      exact ⟨by rw [elemB_iff]; omega, this.2.2⟩
theorem kjn_range (root : ByteArray) (n kp i : Int) (l : List Kp) (need : Int) : 0 ≤ (kjn root n kp i l need).1 ∧ (kjn root n kp i l need).1 < 720 := by
  unfold kjn
  split
  · exact ⟨Int.le_refl 0, by simp⟩
  split
  · exact ⟨Int.le_refl 0, by simp⟩
  · next h => exact ⟨joinF_range _ _, by simp only; omega⟩
theorem kone_range (c : ByteArray × ByteArray) (n kp i : Int) (o : Og) (l : List Kp) (need : Int) : 0 ≤ (kone c n kp i o l need).1 ∧ (kone c n kp i o l need).1 < 720 := by
  unfold kone
  split
  · next h =>
    have := h.2
    simp only [ckB, Bool.and_eq_true, decide_eq_true_eq] at this
    exact ⟨by simp only; omega, by simp only; omega⟩
  · exact kjn_range _ _ _ _ _ _
theorem ksum_range (rs : List (Int × Int × Bool)) (k : Nat) : 0 ≤ ksum rs k ∧ ksum rs k < 720 := by
  cases k with
  | zero => exact ⟨Int.le_refl 0, by simp [ksum]⟩
  | succ k => unfold ksum; omega
theorem ksum_succ {rs : List (Int × Int × Bool)} {k : Nat} {v e : Int} {f : Bool} (h : rs[k]? = some (v, e, f)) : ksum rs (k + 1) = (ksum rs k + v) % 720 := by rw [ksum, h]; rfl
theorem kwh_succ {rs : List (Int × Int × Bool)} {k : Nat} {v e : Int} {f : Bool} (h : rs[k]? = some (v, e, f)) : kwh rs (k + 1) = kwh rs k ++ (if f then [(k : Int)] else []) := by rw [kwh, h]; rfl
theorem kwh_len (rs : List (Int × Int × Bool)) (k : Nat) : (kwh rs k).length ≤ k := by
  induction k with
  | zero => exact Nat.le_refl _
  | succ k ih => rw [kwh, List.length_append]; split <;> simp <;> omega
theorem kall_ok {rs : List (Int × Int × Bool)} (h : ∀ (k : Nat) (r : Int × Int × Bool), rs[k]? = some r → r.2.1 = 0) : kall rs = (ksum rs rs.length, kwh rs rs.length, 0) := by
  unfold kall
  have : rs.find? (fun r => r.2.1 != 0) = none := by
    rw [List.find?_eq_none]
    intro r hr
    obtain ⟨k, hk⟩ := List.getElem?_of_mem hr
    simp [h k r hk]
  rw [this]
theorem kall_err {rs : List (Int × Int × Bool)} {k : Nat} {r : Int × Int × Bool} (h : ∀ (j : Nat) (r : Int × Int × Bool), j < k → rs[j]? = some r → r.2.1 = 0) (hk : rs[k]? = some r) (hr : r.2.1 ≠ 0) : kall rs = (0, [], r.2.1) := by
  unfold kall
  have e : rs = rs.take k ++ r :: rs.drop (k + 1) := by
    obtain ⟨hl, rfl⟩ := List.getElem?_eq_some_iff.1 hk
    rw [← List.drop_eq_getElem_cons hl, List.take_append_drop]
  have h1 : (rs.take k).find? (fun r => r.2.1 != 0) = none := by
    rw [List.find?_eq_none]
    intro q hq
    obtain ⟨j, hj⟩ := List.getElem?_of_mem hq
    rw [List.getElem?_take] at hj
    split at hj
    · next hlt => simp [h j q hlt hj]
    · cases hj
  have : rs.find? (fun r => r.2.1 != 0) = some r := by
    rw [e, List.find?_append, h1]
    simp [hr]
  rw [this]
theorem krs_get {cs : List (ByteArray × ByteArray)} {n i : Int} {os : List Og} {ks : List (List Kp)} {need : Int} {k : Nat} {c : ByteArray × ByteArray} {o : Og} {l : List Kp} (hc : cs[k]? = some c) (ho : os[k]? = some o) (hl : ks[k]? = some l) :
    (krs cs n i os ks need)[k]? = some (kone c n (cs.length : Int) i o l need) := by
  have h1 : (List.zip os ks)[k]? = some (o, l) := List.getElem?_zip_eq_some.2 ⟨ho, hl⟩
  have h2 : (List.zip cs (List.zip os ks))[k]? = some (c, (o, l)) := List.getElem?_zip_eq_some.2 ⟨hc, h1⟩
  unfold krs
  rw [List.getElem?_map, h2]; rfl
theorem krs_len {cs : List (ByteArray × ByteArray)} {n i : Int} {os : List Og} {ks : List (List Kp)} {need : Int} (h1 : os.length = cs.length) (h2 : ks.length = cs.length) : (krs cs n i os ks need).length = cs.length := by
  simp [krs, h1, h2]

theorem og_cells {w : World} {A : Option Addr} {l : List Og} (h : RowOf ogC 4 w A l) {j : Nat} {o : Og} (hj : l[j]? = some o) : ∃ b off, A = some ⟨b, off, none⟩ ∧ w.cell? ⟨b, off + j * 4, none⟩ = some (.int .i64 o.ix) ∧ w.cell? ⟨b, off + j * 4 + 1, none⟩ = some (.int .i64 o.v) ∧ w.cell? ⟨b, off + j * 4 + 2, none⟩ = some (.string o.salt) ∧ w.cell? ⟨b, off + j * 4 + 3, none⟩ = some (.slice o.A o.p.length o.c) := by
  obtain ⟨b, off, he, hc⟩ := h.at_ ogC_len hj
  exact ⟨b, off, he, by have := hc 0 _ rfl; simpa using this, hc 1 _ rfl, hc 2 _ rfl, hc 3 _ rfl⟩
theorem cm_cells {w : World} {A : Option Addr} {l : List (ByteArray × ByteArray)} (h : RowOf cmC 2 w A l) {j : Nat} {o : ByteArray × ByteArray} (hj : l[j]? = some o) : ∃ b off, A = some ⟨b, off, none⟩ ∧ w.cell? ⟨b, off + j * 2, none⟩ = some (.string o.1) ∧ w.cell? ⟨b, off + j * 2 + 1, none⟩ = some (.string o.2) := by
  obtain ⟨b, off, he, hc⟩ := h.at_ cmC_len hj
  exact ⟨b, off, he, by have := hc 0 _ rfl; simpa using this, hc 1 _ rfl⟩
theorem kw_cells {w : World} {A : Option Addr} {l : List Kw} (h : RowOf kwC 1 w A l) {j : Nat} {o : Kw} (hj : l[j]? = some o) : ∃ b off, A = some ⟨b, off, none⟩ ∧ w.cell? ⟨b, off + j, none⟩ = some (.slice o.A o.l.length o.c) := by
  obtain ⟨b, off, he, hc⟩ := h.at_ kwC_len hj
  exact ⟨b, off, he, by have := hc 0 _ rfl; simpa using this⟩

/-- What Draw asks of memory. -/
structure DrFit (w : World) (CA : Option Addr) (cs : List (ByteArray × ByteArray)) (OA : Option Addr) (os : List Og) (KA : Option Addr) (ks : List Kw) : Prop where
  c : RowOf cmC 2 w CA cs
  o : RowOf ogC 4 w OA os
  k : RowOf kwC 1 w KA ks
  og : ∀ o, o ∈ os → OgFit w o
  kw : ∀ k, k ∈ ks → KwFit w k
  cl : cs.length ≤ 9223372036854775807
  ol : os.length ≤ 9223372036854775807
  kl : ks.length ≤ 9223372036854775807
theorem DrFit.below {w w' : World} {CA OA KA : Option Addr} {cs : List (ByteArray × ByteArray)} {os : List Og} {ks : List Kw} (h : DrFit w CA cs OA os KA ks) (hb : Below w.heap.size w w') : DrFit w' CA cs OA os KA ks :=
  ⟨h.c.below hb, h.o.below hb, h.k.below hb, fun o ho => (h.og o ho).below hb, fun k hk => (h.kw k hk).below hb, h.cl, h.ol, h.kl⟩

set_option maxRecDepth 100000 in
set_option maxHeartbeats 16000000 in
theorem kdraw_bad (CA : Option Addr) (cc : Nat) (cs : List (ByteArray × ByteArray)) (n i : Int) (OA : Option Addr) (oc : Nat) (os : List Og) (KA : Option Addr) (kc : Nat) (ks : List Kw) (need : Int) (w : World) (hl1 : cs.length ≤ 9223372036854775807) (hl2 : os.length ≤ 9223372036854775807) (hl3 : ks.length ≤ 9223372036854775807) (hn : i64ok n)
    (hbad : ¬ (1 ≤ cs.length ∧ cs.length ≤ 7 ∧ 1 ≤ n ∧ n ≤ 600 ∧ 0 ≤ i ∧ i ≤ n - 1 ∧ 1 ≤ need ∧ need ≤ cs.length ∧ os.length = cs.length ∧ ks.length = cs.length)) :
    Calls Tryz.prog 25 #[.slice CA cs.length cc, .int .i64 n, .int .i64 i, .slice OA os.length oc, .slice KA ks.length kc, .int .i64 need] w fun e w' => e = .returned (.tuple #[.int .i64 0, .slice none 0 0, .int .i64 1]) ∧ w = w' := by
  obtain ⟨nlo, nhi⟩ := hn
  obtain ⟨b1, hb1⟩ : ∃ b, wiB cs.length 1 7 = b := ⟨_, rfl⟩
  obtain ⟨b2, hb2⟩ : ∃ b, wiB n 1 600 = b := ⟨_, rfl⟩
  obtain ⟨b3, hb3⟩ : ∃ b, wiB i 0 (n - 1) = b := ⟨_, rfl⟩
  obtain ⟨b4, hb4⟩ : ∃ b, wiB need 1 cs.length = b := ⟨_, rfl⟩
  have HBAD : Hid (b1 = true → b2 = true → b3 = true → b4 = true → ¬ (os.length = cs.length ∧ ks.length = cs.length)) := Lib.hid (fun h1 h2 h3 h4 h5 => by
    rw [h1] at hb1; rw [h2] at hb2; rw [h3] at hb3; rw [h4] at hb4
    have g1 := of_decide_eq_true hb1
    have g2 := of_decide_eq_true hb2
    have g3 := of_decide_eq_true hb3
    have g4 := of_decide_eq_true hb4
    exact hbad (by omega))
  have H1 := Lib.hid hb1
  have H2 := Lib.hid hb2
  have H3 := Lib.hid hb3
  have H4 := Lib.hid hb4
  clear hb1 hb2 hb3 hb4 hbad
  go_enter Tryz.func25, Tryz.ntmps25
  go_wp2_with fail
  refine (kwithin_any _ _ _ _).mono ?_
  rintro e _ ⟨rfl, rfl⟩
  rw [H1.out]
  cases b1
  case false =>
    go_wp2
    go_ret3
    exact ⟨rfl, rfl⟩
  case true =>
  go_wp2_with fail
  refine (kwithin_any _ _ _ _).mono ?_
  rintro e _ ⟨rfl, rfl⟩
  rw [H2.out]
  cases b2
  case false =>
    go_wp2
    go_ret3
    exact ⟨rfl, rfl⟩
  case true =>
  have h2 := of_decide_eq_true H2.out
  obtain ⟨h21, h22⟩ := h2
  go_wp2_with fail
  refine (kwithin_any _ _ _ _).mono ?_
  rintro e _ ⟨rfl, rfl⟩
  rw [H3.out]
  cases b3
  case false =>
    go_wp2
    go_ret3
    exact ⟨rfl, rfl⟩
  case true =>
  go_wp2_with fail
  refine (kwithin_any _ _ _ _).mono ?_
  rintro e _ ⟨rfl, rfl⟩
  rw [H4.out]
  cases b4
  case false =>
    go_wp2
    go_ret3
    exact ⟨rfl, rfl⟩
  case true =>
  have hb := HBAD.out (by trivial) (by trivial) (by trivial) (by trivial)
  by_cases ho : os.length = cs.length
  case neg =>
    have h1 : ((os.length : Int) == (cs.length : Int)) = false := by simp; omega
    have h2 : ((os.length : Int) != (cs.length : Int)) = true := by simp; omega
    clear ho hb
    go_wp2
    go_ret3
    exact ⟨rfl, rfl⟩
  case pos =>
  have h1 : ((os.length : Int) == (cs.length : Int)) = true := by simp; omega
  have h2 : ((os.length : Int) != (cs.length : Int)) = false := by simp; omega
  have h3 : ((ks.length : Int) == (cs.length : Int)) = false := by simp; omega
  have h4 : ((ks.length : Int) != (cs.length : Int)) = true := by simp; omega
  clear ho hb
  go_wp2
  go_ret3
  exact ⟨rfl, rfl⟩
set_option maxRecDepth 100000 in
set_option maxHeartbeats 16000000 in
theorem kdraw_ok (CA : Option Addr) (cc : Nat) (cs : List (ByteArray × ByteArray)) (n i : Nat) (OA : Option Addr) (oc : Nat) (os : List Og) (KA : Option Addr) (kc : Nat) (ks : List Kw) (need : Nat) (w : World) (hf : DrFit w CA cs OA os KA ks) (h1 : 1 ≤ cs.length) (h7 : cs.length ≤ 7) (hn6 : n ≤ 600) (hin : i < n) (hn1 : 1 ≤ need) (hnc : need ≤ cs.length) (hol : os.length = cs.length) (hkl : ks.length = cs.length) (hT : Tabs w) :
    Calls Tryz.prog 25 #[.slice CA cs.length cc, .int .i64 n, .int .i64 i, .slice OA os.length oc, .slice KA ks.length kc, .int .i64 need] w fun e w' => ∃ v, e = .returned (.tuple #[.int .i64 (kall (krs cs n i os (ks.map (·.l)) need)).1, v, .int .i64 (kall (krs cs n i os (ks.map (·.l)) need)).2.2]) ∧ w'.ownsRow w.heap.size 3 1 v (kall (krs cs n i os (ks.map (·.l)) need)).2.1.length ((kall (krs cs n i os (ks.map (·.l)) need)).2.1.map (Value.int .i64)) ∧ Below w.heap.size w w' := by
  have HF : Hid (∀ W, Below w.heap.size w W → DrFit W CA cs OA os KA ks) := Lib.hid (fun W hW => hf.below hW)
  have HT : Hid (∀ W, Below w.heap.size w W → Tabs W) := Lib.hid (fun W hW => hT.below hW)
  obtain ⟨rs, hrs⟩ : ∃ rs, krs cs n i os (ks.map (·.l)) need = rs := ⟨_, rfl⟩
  have HRG : Hid (∀ (k : Nat) (c : ByteArray × ByteArray) (o : Og) (a : Kw), cs[k]? = some c → os[k]? = some o → ks[k]? = some a → rs[k]? = some (kone c n (cs.length : Int) i o a.l need)) := Lib.hid (fun k c o a hc ho ha => by
    rw [← hrs]; exact krs_get hc ho (by rw [List.getElem?_map, ha]; rfl))
  have HRL : Hid (rs.length = cs.length) := Lib.hid (by rw [← hrs]; exact krs_len hol (by rw [List.length_map]; exact hkl))
  rw [hrs]
  clear hrs
  obtain ⟨KA1, hKA1⟩ : ∃ x, kall rs = x := ⟨_, rfl⟩
  rw [hKA1]
  have HKE := Lib.hid hKA1
  have HSR : Hid (∀ k, 0 ≤ ksum rs k ∧ ksum rs k < 720) := Lib.hid (fun k => ksum_range rs k)
  have HWL : Hid (∀ k, (kwh rs k).length ≤ k) := Lib.hid (fun k => kwh_len rs k)
  obtain ⟨i0, hi0, hz0, hz1, hz2⟩ := info_parts info_int
  have HI := Lib.hid (And.intro hi0 (And.intro hz0 (And.intro hz1 hz2)))
  have HO0 : Hid (w.ownsRow w.heap.size 3 1 (.slice none 0 0) (kwh rs 0).length ((kwh rs 0).map (Value.int .i64))) := Lib.hid (World.ownsRow_nil _ _ _ _)
  have HS0 : Hid (ksum rs 0 = 0) := Lib.hid rfl
  have hw1 : wiB (cs.length : Int) 1 7 = true := decide_eq_true (by omega)
  have hw2 : wiB (n : Int) 1 600 = true := decide_eq_true (by omega)
  have hw3 : wiB (i : Int) 0 ((n : Int) - 1) = true := decide_eq_true (by omega)
  have hw4 : wiB (need : Int) 1 cs.length = true := decide_eq_true (by omega)
  have H1 := Lib.hid hw1
  have H2 := Lib.hid hw2
  have H3 := Lib.hid hw3
  have H4 := Lib.hid hw4
  have HOL := Lib.hid hol
  have HKL := Lib.hid hkl
  have hb1 : ((cs.length : Int) == (cs.length : Int)) = true := by simp
  have hb2 : ((cs.length : Int) != (cs.length : Int)) = false := by simp
  clear hf hT hi0 hz0 hz1 hz2 hw1 hw2 hw3 hw4 hKA1
  rw [hol, hkl]
  clear hol hkl
  go_enter Tryz.func25, Tryz.ntmps25
  go_wp2_with fail
  refine (kwithin_any _ _ _ _).mono ?_
  rintro e _ ⟨rfl, rfl⟩
  rw [H1.out]
  go_wp2_with fail
  refine (kwithin_any _ _ _ _).mono ?_
  rintro e _ ⟨rfl, rfl⟩
  rw [H2.out]
  go_wp2_with fail
  refine (kwithin_any _ _ _ _).mono ?_
  rintro e _ ⟨rfl, rfl⟩
  rw [H3.out]
  go_wp2_with fail
  refine (kwithin_any _ _ _ _).mono ?_
  rintro e _ ⟨rfl, rfl⟩
  rw [H4.out]
  go_wp2_with fail
  go_loopw [15, 16, 17, 18, 19, 20, 60] (fun u15 u16 _ _ _ _ u60 wr => ∃ k : Nat, k ≤ cs.length ∧ u60 = .int .i64 k ∧ Below w.heap.size w wr ∧ u15 = .int .i64 (ksum rs k) ∧ wr.ownsRow w.heap.size 3 1 u16 (kwh rs k).length ((kwh rs k).map (Value.int .i64)) ∧ (∀ (j : Nat) (r : Int × Int × Bool), j < k → rs[j]? = some r → r.2.1 = 0)) (fun _ _ _ _ _ _ u60 _ => cs.length - (intOf u60).toNat)
  case atStart => exact ⟨0, Nat.zero_le _, rfl, Below.refl _ _, rfl, HO0.out, fun j r hj => by omega⟩
  case round =>
  obtain ⟨k, hk, rfl, hb, rfl, ho, her⟩ := hrel
  have HBk := Lib.hid hb
  have HOk := Lib.hid ho
  have HER := Lib.hid her
  obtain ⟨hsr0, hsr1⟩ := HSR.out k
  have hwl := HWL.out k
  clear hb ho her
  by_cases hlt : k < cs.length
  case neg =>
    obtain rfl : k = cs.length := by omega
    have hke : KA1 = (ksum rs cs.length, kwh rs cs.length, 0) := by
      rw [← HKE.out, kall_ok (fun j r hj => HER.out j r (by have := (List.getElem?_eq_some_iff.1 hj).1; rw [HRL.out] at this; exact this) hj), HRL.out]
    have HE := Lib.hid hke
    clear hke
    go_wp2
    go_ret3
    rw [HE.out]
    exact ⟨_, rfl, HOk.out, HBk.out⟩
  case pos =>
  have hfit := HF.out wr HBk.out
  obtain ⟨c, hc⟩ := get_some cs k hlt
  obtain ⟨o, hoo⟩ := get_some os k (by rw [HOL.out]; exact hlt)
  obtain ⟨a, ha⟩ := get_some ks k (by rw [HKL.out]; exact hlt)
  have hrk := HRG.out k c o a hc hoo ha
  have hof := hfit.og o (List.mem_of_getElem? hoo)
  have haf := hfit.kw a (List.mem_of_getElem? ha)
  have hkr := kone_range c n (cs.length : Int) i o a.l need
  have hoix := hof.ix
  have hov := hof.v
  unfold i64ok at hoix hov
  obtain ⟨bO, oO, hOe, o0, o1, o2, o3⟩ := og_cells hfit.o hoo
  have ol_ := lt_of_cell o0
  have HCC : Hid (∀ W, Below w.heap.size w W → ∃ b off, CA = some ⟨b, off, none⟩ ∧ W.cell? ⟨b, off + k * 2, none⟩ = some (.string c.1) ∧ W.cell? ⟨b, off + k * 2 + 1, none⟩ = some (.string c.2) ∧ b < W.heap.size) := Lib.hid (fun W hW => by
    obtain ⟨b, off, he, c0, c1⟩ := cm_cells (HF.out W hW).c hc
    exact ⟨b, off, he, c0, c1, lt_of_cell c0⟩)
  have HKW : Hid (∀ W, Below w.heap.size w W → ∃ b off, KA = some ⟨b, off, none⟩ ∧ W.cell? ⟨b, off + k, none⟩ = some (.slice a.A a.l.length a.c) ∧ b < W.heap.size) := Lib.hid (fun W hW => by
    obtain ⟨b, off, he, c0⟩ := kw_cells (HF.out W hW).k ha
    exact ⟨b, off, he, c0, lt_of_cell c0⟩)
  obtain ⟨bC, oC, hCe, -, -, -⟩ := HCC.out w (Below.refl _ _)
  obtain ⟨bK, oK, hKe, -, -⟩ := HKW.out w (Below.refl _ _)
  have HRK := Lib.hid hrk
  have HOF : Hid (∀ W, Below w.heap.size w W → OgFit W o) := Lib.hid (fun W hW => (HF.out W hW).og o (List.mem_of_getElem? hoo))
  have HAF : Hid (∀ W, Below w.heap.size w W → KwFit W a) := Lib.hid (fun W hW => (HF.out W hW).kw a (List.mem_of_getElem? ha))
  subst hOe hCe hKe
  clear hfit hc hoo ha hrk hof haf
  obtain ⟨wa, hwa⟩ : ∃ wa, wr.alloc (.cells #[.int .i64 o.ix, .int .i64 o.v, .string o.salt, .slice o.A o.p.length o.c] 32) = wa := ⟨_, rfl⟩
  have HBa : Hid (Below w.heap.size w wa) := Lib.hid (by rw [← hwa]; exact below_alloc HBk.out _)
  have HOa := Lib.hid (HOk.out.alloc (.cells #[.int .i64 o.ix, .int .i64 o.v, .string o.salt, .slice o.A o.p.length o.c] 32))
  rw [hwa] at HOa
  have HOC : Hid (∀ W, Below wa.heap.size wa W → W.cell? ⟨wr.heap.size, 0, none⟩ = some (.int .i64 o.ix) ∧ W.cell? ⟨wr.heap.size, 1, none⟩ = some (.int .i64 o.v) ∧ W.cell? ⟨wr.heap.size, 2, none⟩ = some (.string o.salt) ∧ W.cell? ⟨wr.heap.size, 3, none⟩ = some (.slice o.A o.p.length o.c) ∧ wr.heap.size < W.heap.size) := Lib.hid (fun W hW => by
    have h1 : Blk wa wr.heap.size 32 #[.int .i64 o.ix, .int .i64 o.v, .string o.salt, .slice o.A o.p.length o.c] := by rw [← hwa]; exact Blk.new _ _ _ _ rfl
    have h0 := kept_cell hW (h1.of_cell (i := 0) rfl)
    exact ⟨h0, kept_cell hW (h1.of_cell (i := 1) rfl), kept_cell hW (h1.of_cell (i := 2) rfl), kept_cell hW (h1.of_cell (i := 3) rfl), lt_of_cell h0⟩)
  have HCK : Hid (∀ W, Below wa.heap.size wa W → Calls Tryz.prog 27 #[.agg #[.string c.1, .string c.2], .int .i64 n, .agg #[.int .i64 o.ix, .int .i64 o.v, .string o.salt, .slice o.A o.p.length o.c]] W fun e w' => e = .returned (.bool (ckB c.1 n o.ix o.v o.salt o.p)) ∧ Below wa.heap.size wa w') := Lib.hid (fun W hW => by
    have hW2 := below_trans HBa.out hW
    exact (kcheck_any c n o W (HOF.out W hW2) ⟨by omega, by omega⟩ (HT.out W hW2)).mono fun _ _ ⟨he, hb⟩ => ⟨he, below_trans hW hb⟩)
  have HJN : Hid (∀ W, Below w.heap.size w W → Calls Tryz.prog 62 #[.agg #[.string c.1, .string c.2], .int .i64 n, .int .i64 cs.length, .int .i64 i, .slice a.A a.l.length a.c, .int .i64 need] W fun e w' => e = .returned (.tuple #[.int .i64 (kjn c.2 n (cs.length : Int) i a.l need).1, .int .i64 (kjn c.2 n (cs.length : Int) i a.l need).2]) ∧ Below W.heap.size W w') := Lib.hid (fun W hW => kjoin_any c n cs.length i a need W (HAF.out W hW) hn6 (by omega) hin ⟨by omega, by omega⟩ (HT.out W hW))
  have HWA := Lib.hid hwa
  clear hwa
  obtain ⟨ck, hck⟩ : ∃ b, ckB c.1 n o.ix o.v o.salt o.p = b := ⟨_, rfl⟩
  rw [hck] at HCK
  have HKO1 : Hid (o.ix = (i : Int) → ck = true → kone c n (cs.length : Int) i o a.l need = (o.v, 0, false)) := Lib.hid (fun h1 h2 => by unfold kone; rw [if_pos ⟨h1, by rw [hck]; exact h2⟩])
  have HKO2 : Hid (¬ (o.ix = (i : Int) ∧ ck = true) → kone c n (cs.length : Int) i o a.l need = ((kjn c.2 n (cs.length : Int) i a.l need).1, (kjn c.2 n (cs.length : Int) i a.l need).2, true)) := Lib.hid (fun h => by unfold kone; rw [if_neg (by rw [hck]; exact h)])
  clear hck
  generalize kone c n (cs.length : Int) i o a.l need = KO at *
  generalize kjn c.2 n (cs.length : Int) i a.l need = KN at *
  go_wp2_with fail
  have hwa := HWA.out
  rw [hwa]
  clear hwa o0 o1 o2 o3 ol_
  by_cases c1 : o.ix = (i : Int)
  case neg =>
    have c1' : ¬ o.ix = (i : Int) := c1
    have d1 : (o.ix == (i : Int)) = false := by simpa using c1
    have d2 : (o.ix != (i : Int)) = true := by simpa using c1
    clear c1
    refine wp_region_belowC (by kernel_rfl) (by kernel_rfl) (fun WQ HQS HQN => ?_)
    refine HQS.go (fun K hK => ?_)
    go_simp
    apply Exists.intro
    refine ⟨fun W hW => ?_, hK _ ?_⟩
    · (try go_simp)
      exact rfl
    clear hK K
    refine HQS.go (fun K hK => ?_)
    go_simp
    apply Exists.intro
    refine ⟨fun W hW => ?_, hK _ ?_⟩
    · obtain ⟨z0, z1, z2, z3, zl⟩ := HOC.out W hW
      go_simp
      exact rfl
    clear hK K
    refine HQS.go (fun K hK => ?_)
    go_simp
    apply Exists.intro
    refine ⟨fun W hW => ?_, hK _ ?_⟩
    · (try go_simp)
      exact rfl
    clear hK K
    refine HQS.go (fun K hK => ?_)
    go_simp
    apply Exists.intro
    refine ⟨fun W hW => ?_, hK _ ?_⟩
    · (try go_simp)
      exact rfl
    clear hK K
    refine HQS.go (fun K hK => ?_)
    go_simp
    apply Exists.intro
    refine ⟨fun W hW => ?_, hK _ ?_⟩
    · (try go_simp)
      exact rfl
    clear hK K
    refine HQS.go (fun K hK => ?_)
    go_simp
    refine hK _ ?_
    clear hK K
    refine HQS.go (fun K hK => ?_)
    go_simp
    refine hK _ ?_
    clear hK K
    refine HQS.go (fun K hK => ?_)
    go_simp
    refine hK _ ?_
    clear hK K
    refine HQS.go (fun K hK => ?_)
    go_simp
    refine hK _ ?_
    clear hK K
    refine HQS.go (fun K hK => ?_)
    go_simp
    refine hK _ ?_
    clear hK K
    refine HQS.go (fun K hK => ?_)
    go_simp
    refine hK _ ?_
    clear hK K
    refine HQS.go (fun K hK => ?_)
    go_simp
    refine hK _ ?_
    clear hK K
    refine HQS.go (fun K hK => ?_)
    go_simp
    refine hK _ ?_
    clear hK K
    refine HQS.go (fun K hK => ?_)
    go_simp
    apply Exists.intro
    refine ⟨fun W hW => ?_, hK _ ?_⟩
    · (try go_simp)
      exact rfl
    clear hK K
    refine HQN.go ?_
    intro wb hb
    have HBb := Lib.hid (below_trans HBa.out hb)
    have HOb := Lib.hid (row_below HOa.out hb)
    clear hb
    have hk2 := HKO2.out (by first | exact fun h => absurd h.1 c1' | exact fun h => absurd h.2 (by simp))
    have HK2 := Lib.hid hk2
    clear hk2
    go_wp2_with fail
    refine wp_region_belowC (by kernel_rfl) (by kernel_rfl) (fun WQ HQS HQN => ?_)
    refine HQS.go (fun K hK => ?_)
    go_simp
    apply Exists.intro
    refine ⟨fun W hW => ?_, hK _ ?_⟩
    · (try go_simp)
      exact rfl
    clear hK K
    refine HQS.go (fun K hK => ?_)
    go_simp
    apply Exists.intro
    refine ⟨fun W hW => ?_, hK _ ?_⟩
    · (try go_simp)
      exact rfl
    clear hK K
    refine HQS.go (fun K hK => ?_)
    go_simp
    apply Exists.intro
    refine ⟨fun W hW => ?_, hK _ ?_⟩
    · (try go_simp)
      exact rfl
    clear hK K
    refine HQS.go (fun K hK => ?_)
    go_simp
    apply Exists.intro
    refine ⟨fun W hW => ?_, hK _ ?_⟩
    · obtain ⟨b_, f_, he_, y0, y1, yl⟩ := HCC.out W (below_trans HBb.out hW)
      cases he_
      go_simp
      exact rfl
    clear hK K
    refine HQS.go (fun K hK => ?_)
    go_simp
    apply Exists.intro
    refine ⟨fun W hW => ?_, hK _ ?_⟩
    · (try go_simp)
      exact rfl
    clear hK K
    refine HQS.go (fun K hK => ?_)
    go_simp
    apply Exists.intro
    refine ⟨fun W hW => ?_, hK _ ?_⟩
    · (try go_simp)
      exact rfl
    clear hK K
    refine HQS.go (fun K hK => ?_)
    go_simp
    apply Exists.intro
    refine ⟨fun W hW => ?_, hK _ ?_⟩
    · (try go_simp)
      exact rfl
    clear hK K
    refine HQS.go (fun K hK => ?_)
    go_simp
    apply Exists.intro
    refine ⟨fun W hW => ?_, hK _ ?_⟩
    · (try go_simp)
      exact rfl
    clear hK K
    refine HQS.go (fun K hK => ?_)
    go_simp
    apply Exists.intro
    refine ⟨fun W hW => ?_, hK _ ?_⟩
    · (try go_simp)
      exact rfl
    clear hK K
    refine HQS.go (fun K hK => ?_)
    go_simp
    apply Exists.intro
    refine ⟨fun W hW => ?_, hK _ ?_⟩
    · (try go_simp)
      exact rfl
    clear hK K
    refine HQS.go (fun K hK => ?_)
    go_simp
    apply Exists.intro
    refine ⟨fun W hW => ?_, hK _ ?_⟩
    · (try go_simp)
      exact rfl
    clear hK K
    refine HQS.go (fun K hK => ?_)
    go_simp
    apply Exists.intro
    refine ⟨fun W hW => ?_, hK _ ?_⟩
    · obtain ⟨b_, f_, he_, y0, yl⟩ := HKW.out W (below_trans HBb.out hW)
      cases he_
      go_simp
      exact rfl
    clear hK K
    refine HQS.go (fun K hK => ?_)
    go_simp
    apply Exists.intro
    refine ⟨fun W hW => ?_, hK _ ?_⟩
    · (try go_simp)
      exact rfl
    clear hK K
    refine HQS.go (fun K hK => ?_)
    go_simp
    apply Exists.intro
    refine ⟨fun W hW => ?_, hK _ ?_⟩
    · exact (HJN.out W (below_trans HBb.out hW)).mono fun _ _ ⟨he, hb⟩ => ⟨he, below_trans hW hb⟩
    clear hK K
    refine HQS.go (fun K hK => ?_)
    go_simp
    apply Exists.intro
    refine ⟨fun W hW => ?_, hK _ ?_⟩
    · (try go_simp)
      exact rfl
    clear hK K
    refine HQS.go (fun K hK => ?_)
    go_simp
    apply Exists.intro
    refine ⟨fun W hW => ?_, hK _ ?_⟩
    · (try go_simp)
      exact rfl
    clear hK K
    refine HQS.go (fun K hK => ?_)
    go_simp
    apply Exists.intro
    refine ⟨fun W hW => ?_, hK _ ?_⟩
    · (try go_simp)
      exact rfl
    clear hK K
    refine HQS.go (fun K hK => ?_)
    go_simp
    apply Exists.intro
    refine ⟨fun W hW => ?_, hK _ ?_⟩
    · (try go_simp)
      exact rfl
    clear hK K
    refine HQS.go (fun K hK => ?_)
    go_simp
    apply Exists.intro
    refine ⟨fun W hW => ?_, hK _ ?_⟩
    · (try go_simp)
      exact rfl
    clear hK K
    refine HQN.go ?_
    intro wc hb
    have HBc := Lib.hid (below_trans HBb.out hb)
    have HOc := Lib.hid (row_below HOb.out hb)
    clear hb
    obtain ⟨x, er⟩ := KN
    simp only at HK2
    have hr2 := HRK.out
    rw [HK2.out] at hr2 hkr
    have HR2 := Lib.hid hr2
    obtain ⟨hx0, hx1⟩ := hkr
    simp only at hx0 hx1
    clear hr2
    by_cases he0 : er = 0
    case neg =>
      have hke : KA1 = (0, [], er) := by rw [← HKE.out]; exact kall_err HER.out HR2.out he0
      have HE := Lib.hid hke
      have hb3 : (er == 0) = false := by simpa using he0
      have hb4 : (er != 0) = true := by simpa using he0
      clear hke
      go_wp2
      go_ret3
      rw [HE.out]
      exact ⟨_, rfl, World.ownsRow_nil _ _ _ _, HBc.out⟩
    case pos =>
    subst he0
    have hks := ksum_succ HR2.out
    have hkw := kwh_succ HR2.out
    rw [if_pos rfl] at hkw
    have HKS := Lib.hid hks
    have HKW2 := Lib.hid hkw
    have hsz := HBc.out.size
    clear hks hkw
    generalize ksum rs k = sk at *
    generalize hwk : kwh rs k = wk at *
    go_wp2_with (at_builtin; refine wpList_app _ rfl (.tmp 101) (.tmp 103) 23 23 rfl w.heap.size 3 3 i0 _ 1 8 Tryz.underlying23 Tryz.underlying23 HI.out.1 HI.out.2.1 HI.out.2.2.1 HI.out.2.2.2 rfl (by omega) _ wk.length _ rfl (HOc.out.alloc _) _ 1 1 [.int .i64 k] rfl (Rd_new wc #[.int .i64 k] _ 1 1 _ rfl rfl) (by simp [Value.oneCell']) (by simp only [maxLen]; omega) (by omega) (by simp; omega) ?_)
    intro v1 wd hownd hgd
    have e5 : wk.map (Value.int .i64) ++ [.int .i64 (k : Int)] = (kwh rs (k + 1)).map (Value.int .i64) := by rw [HKW2.out, List.map_append]; rfl
    have e6 : wk.length + 1 = (kwh rs (k + 1)).length := by rw [HKW2.out]; simp
    rw [e5, e6] at hownd
    have HBd : Hid (Below w.heap.size w wd) := Lib.hid ((below_alloc HBc.out _).grown hgd (by simp; omega) (fun j hj => (HOc.out.lt j hj).1))
    have HOd := Lib.hid hownd
    clear hownd hgd e5 e6 hwk
    go_wp2
    go_roundw
    case rel =>
      refine ⟨k + 1, by omega, by go_num, HBd.out, by rw [HKS.out], HOd.out, fun j r hj hr => ?_⟩
      by_cases hjk : j < k
      · exact HER.out j r hjk hr
      · obtain rfl : j = k := by omega
        rw [HR2.out] at hr
        rw [← Option.some.inj hr]
    case measure => simp [intOf]; omega
  case pos =>
  have d1 : (o.ix == (i : Int)) = true := by simpa using c1
  have d2 : (o.ix != (i : Int)) = false := by simpa using c1
  have HC1 := Lib.hid c1
  clear c1
  refine wp_region_belowC (by kernel_rfl) (by kernel_rfl) (fun WQ HQS HQN => ?_)
  refine HQS.go (fun K hK => ?_)
  go_simp
  apply Exists.intro
  refine ⟨fun W hW => ?_, hK _ ?_⟩
  · (try go_simp)
    exact rfl
  clear hK K
  refine HQS.go (fun K hK => ?_)
  go_simp
  apply Exists.intro
  refine ⟨fun W hW => ?_, hK _ ?_⟩
  · obtain ⟨z0, z1, z2, z3, zl⟩ := HOC.out W hW
    go_simp
    exact rfl
  clear hK K
  refine HQS.go (fun K hK => ?_)
  go_simp
  apply Exists.intro
  refine ⟨fun W hW => ?_, hK _ ?_⟩
  · (try go_simp)
    exact rfl
  clear hK K
  refine HQS.go (fun K hK => ?_)
  go_simp
  apply Exists.intro
  refine ⟨fun W hW => ?_, hK _ ?_⟩
  · (try go_simp)
    exact rfl
  clear hK K
  refine HQS.go (fun K hK => ?_)
  go_simp
  apply Exists.intro
  refine ⟨fun W hW => ?_, hK _ ?_⟩
  · (try go_simp)
    exact rfl
  clear hK K
  refine HQS.go (fun K hK => ?_)
  go_simp
  apply Exists.intro
  refine ⟨fun W hW => ?_, hK _ ?_⟩
  · (try go_simp)
    exact rfl
  clear hK K
  refine HQS.go (fun K hK => ?_)
  go_simp
  apply Exists.intro
  refine ⟨fun W hW => ?_, hK _ ?_⟩
  · (try go_simp)
    exact rfl
  clear hK K
  refine HQS.go (fun K hK => ?_)
  go_simp
  apply Exists.intro
  refine ⟨fun W hW => ?_, hK _ ?_⟩
  · (try go_simp)
    exact rfl
  clear hK K
  refine HQS.go (fun K hK => ?_)
  go_simp
  apply Exists.intro
  refine ⟨fun W hW => ?_, hK _ ?_⟩
  · obtain ⟨b_, f_, he_, y0, y1, yl⟩ := HCC.out W (below_trans HBa.out hW)
    cases he_
    go_simp
    exact rfl
  clear hK K
  refine HQS.go (fun K hK => ?_)
  go_simp
  apply Exists.intro
  refine ⟨fun W hW => ?_, hK _ ?_⟩
  · (try go_simp)
    exact rfl
  clear hK K
  refine HQS.go (fun K hK => ?_)
  go_simp
  apply Exists.intro
  refine ⟨fun W hW => ?_, hK _ ?_⟩
  · obtain ⟨z0, z1, z2, z3, zl⟩ := HOC.out W hW
    go_simp
    exact rfl
  clear hK K
  refine HQS.go (fun K hK => ?_)
  go_simp
  apply Exists.intro
  refine ⟨fun W hW => ?_, hK _ ?_⟩
  · exact HCK.out W hW
  clear hK K
  refine HQS.go (fun K hK => ?_)
  go_simp
  apply Exists.intro
  refine ⟨fun W hW => ?_, hK _ ?_⟩
  · (try go_simp)
    exact rfl
  clear hK K
  refine HQS.go (fun K hK => ?_)
  go_simp
  apply Exists.intro
  refine ⟨fun W hW => ?_, hK _ ?_⟩
  · (try go_simp)
    exact rfl
  clear hK K
  refine HQN.go ?_
  intro wb hb
  have HBb := Lib.hid (below_trans HBa.out hb)
  have HOb := Lib.hid (row_below HOa.out hb)
  clear hb
  cases ck
  case false =>
    have hk2 := HKO2.out (by first | exact fun h => absurd h.1 c1' | exact fun h => absurd h.2 (by simp))
    have HK2 := Lib.hid hk2
    clear hk2
    go_wp2_with fail
    refine wp_region_belowC (by kernel_rfl) (by kernel_rfl) (fun WQ HQS HQN => ?_)
    refine HQS.go (fun K hK => ?_)
    go_simp
    apply Exists.intro
    refine ⟨fun W hW => ?_, hK _ ?_⟩
    · (try go_simp)
      exact rfl
    clear hK K
    refine HQS.go (fun K hK => ?_)
    go_simp
    apply Exists.intro
    refine ⟨fun W hW => ?_, hK _ ?_⟩
    · (try go_simp)
      exact rfl
    clear hK K
    refine HQS.go (fun K hK => ?_)
    go_simp
    apply Exists.intro
    refine ⟨fun W hW => ?_, hK _ ?_⟩
    · (try go_simp)
      exact rfl
    clear hK K
    refine HQS.go (fun K hK => ?_)
    go_simp
    apply Exists.intro
    refine ⟨fun W hW => ?_, hK _ ?_⟩
    · obtain ⟨b_, f_, he_, y0, y1, yl⟩ := HCC.out W (below_trans HBb.out hW)
      cases he_
      go_simp
      exact rfl
    clear hK K
    refine HQS.go (fun K hK => ?_)
    go_simp
    apply Exists.intro
    refine ⟨fun W hW => ?_, hK _ ?_⟩
    · (try go_simp)
      exact rfl
    clear hK K
    refine HQS.go (fun K hK => ?_)
    go_simp
    apply Exists.intro
    refine ⟨fun W hW => ?_, hK _ ?_⟩
    · (try go_simp)
      exact rfl
    clear hK K
    refine HQS.go (fun K hK => ?_)
    go_simp
    apply Exists.intro
    refine ⟨fun W hW => ?_, hK _ ?_⟩
    · (try go_simp)
      exact rfl
    clear hK K
    refine HQS.go (fun K hK => ?_)
    go_simp
    apply Exists.intro
    refine ⟨fun W hW => ?_, hK _ ?_⟩
    · (try go_simp)
      exact rfl
    clear hK K
    refine HQS.go (fun K hK => ?_)
    go_simp
    apply Exists.intro
    refine ⟨fun W hW => ?_, hK _ ?_⟩
    · (try go_simp)
      exact rfl
    clear hK K
    refine HQS.go (fun K hK => ?_)
    go_simp
    apply Exists.intro
    refine ⟨fun W hW => ?_, hK _ ?_⟩
    · (try go_simp)
      exact rfl
    clear hK K
    refine HQS.go (fun K hK => ?_)
    go_simp
    apply Exists.intro
    refine ⟨fun W hW => ?_, hK _ ?_⟩
    · (try go_simp)
      exact rfl
    clear hK K
    refine HQS.go (fun K hK => ?_)
    go_simp
    apply Exists.intro
    refine ⟨fun W hW => ?_, hK _ ?_⟩
    · obtain ⟨b_, f_, he_, y0, yl⟩ := HKW.out W (below_trans HBb.out hW)
      cases he_
      go_simp
      exact rfl
    clear hK K
    refine HQS.go (fun K hK => ?_)
    go_simp
    apply Exists.intro
    refine ⟨fun W hW => ?_, hK _ ?_⟩
    · (try go_simp)
      exact rfl
    clear hK K
    refine HQS.go (fun K hK => ?_)
    go_simp
    apply Exists.intro
    refine ⟨fun W hW => ?_, hK _ ?_⟩
    · exact (HJN.out W (below_trans HBb.out hW)).mono fun _ _ ⟨he, hb⟩ => ⟨he, below_trans hW hb⟩
    clear hK K
    refine HQS.go (fun K hK => ?_)
    go_simp
    apply Exists.intro
    refine ⟨fun W hW => ?_, hK _ ?_⟩
    · (try go_simp)
      exact rfl
    clear hK K
    refine HQS.go (fun K hK => ?_)
    go_simp
    apply Exists.intro
    refine ⟨fun W hW => ?_, hK _ ?_⟩
    · (try go_simp)
      exact rfl
    clear hK K
    refine HQS.go (fun K hK => ?_)
    go_simp
    apply Exists.intro
    refine ⟨fun W hW => ?_, hK _ ?_⟩
    · (try go_simp)
      exact rfl
    clear hK K
    refine HQS.go (fun K hK => ?_)
    go_simp
    apply Exists.intro
    refine ⟨fun W hW => ?_, hK _ ?_⟩
    · (try go_simp)
      exact rfl
    clear hK K
    refine HQS.go (fun K hK => ?_)
    go_simp
    apply Exists.intro
    refine ⟨fun W hW => ?_, hK _ ?_⟩
    · (try go_simp)
      exact rfl
    clear hK K
    refine HQN.go ?_
    intro wc hb
    have HBc := Lib.hid (below_trans HBb.out hb)
    have HOc := Lib.hid (row_below HOb.out hb)
    clear hb
    obtain ⟨x, er⟩ := KN
    simp only at HK2
    have hr2 := HRK.out
    rw [HK2.out] at hr2 hkr
    have HR2 := Lib.hid hr2
    obtain ⟨hx0, hx1⟩ := hkr
    simp only at hx0 hx1
    clear hr2
    by_cases he0 : er = 0
    case neg =>
      have hke : KA1 = (0, [], er) := by rw [← HKE.out]; exact kall_err HER.out HR2.out he0
      have HE := Lib.hid hke
      have hb3 : (er == 0) = false := by simpa using he0
      have hb4 : (er != 0) = true := by simpa using he0
      clear hke
      go_wp2
      go_ret3
      rw [HE.out]
      exact ⟨_, rfl, World.ownsRow_nil _ _ _ _, HBc.out⟩
    case pos =>
    subst he0
    have hks := ksum_succ HR2.out
    have hkw := kwh_succ HR2.out
    rw [if_pos rfl] at hkw
    have HKS := Lib.hid hks
    have HKW2 := Lib.hid hkw
    have hsz := HBc.out.size
    clear hks hkw
    generalize ksum rs k = sk at *
    generalize hwk : kwh rs k = wk at *
    go_wp2_with (at_builtin; refine wpList_app _ rfl (.tmp 101) (.tmp 103) 23 23 rfl w.heap.size 3 3 i0 _ 1 8 Tryz.underlying23 Tryz.underlying23 HI.out.1 HI.out.2.1 HI.out.2.2.1 HI.out.2.2.2 rfl (by omega) _ wk.length _ rfl (HOc.out.alloc _) _ 1 1 [.int .i64 k] rfl (Rd_new wc #[.int .i64 k] _ 1 1 _ rfl rfl) (by simp [Value.oneCell']) (by simp only [maxLen]; omega) (by omega) (by simp; omega) ?_)
    intro v1 wd hownd hgd
    have e5 : wk.map (Value.int .i64) ++ [.int .i64 (k : Int)] = (kwh rs (k + 1)).map (Value.int .i64) := by rw [HKW2.out, List.map_append]; rfl
    have e6 : wk.length + 1 = (kwh rs (k + 1)).length := by rw [HKW2.out]; simp
    rw [e5, e6] at hownd
    have HBd : Hid (Below w.heap.size w wd) := Lib.hid ((below_alloc HBc.out _).grown hgd (by simp; omega) (fun j hj => (HOc.out.lt j hj).1))
    have HOd := Lib.hid hownd
    clear hownd hgd e5 e6 hwk
    go_wp2
    go_roundw
    case rel =>
      refine ⟨k + 1, by omega, by go_num, HBd.out, by rw [HKS.out], HOd.out, fun j r hj hr => ?_⟩
      by_cases hjk : j < k
      · exact HER.out j r hjk hr
      · obtain rfl : j = k := by omega
        rw [HR2.out] at hr
        rw [← Option.some.inj hr]
    case measure => simp [intOf]; omega
  case true =>
  have hk1 := HKO1.out HC1.out rfl
  have hr2 := HRK.out
  rw [hk1] at hr2 hkr
  have HR2 := Lib.hid hr2
  obtain ⟨hx0, hx1⟩ := hkr
  simp only at hx0 hx1
  have hks := ksum_succ HR2.out
  have hkw := kwh_succ HR2.out
  rw [if_neg (by simp), List.append_nil] at hkw
  have HKS := Lib.hid hks
  have HKW2 := Lib.hid hkw
  clear hks hkw hr2 hk1
  generalize ksum rs k = sk at *
  generalize kwh rs k = wk at *
  go_wp2
  go_roundw
  case rel =>
    refine ⟨k + 1, by omega, by go_num, HBb.out, by rw [HKS.out], by rw [HKW2.out]; exact HOb.out, fun j r hj hr => ?_⟩
    by_cases hjk : j < k
    · exact HER.out j r hjk hr
    · obtain rfl : j = k := by omega
      rw [HR2.out] at hr
      rw [← Option.some.inj hr]
  case measure => simp [intOf]; omega
end

section
open Go.RowKit

theorem below_drewN {B : Nat} {w0 w : World} (h : Below B w0 w) (n : Nat) : Below B w0 (w.drewN n) := ⟨h.os, h.tape, h.output, h.size, h.block⟩

set_option maxRecDepth 100000 in
set_option maxHeartbeats 4000000 in
theorem kequal_any (A B : Option Addr) (c d : Nat) (l m : List Int) (w : World) (hA : Ints w A l) (hB : Ints w B m) (hl : l.length ≤ 1000000) (hm : m.length ≤ 1000000) :
    Calls Tryz.prog 29 #[.slice A l.length c, .slice B m.length d] w fun e w' => e = .returned (.bool (decide (l = m))) ∧ Below w.heap.size w w' := by
  have HA := Lib.hid hA; clear hA
  have HB := Lib.hid hB; clear hB
  by_cases hlen : l.length = m.length
  case neg =>
    have h1 : (((l.length : Int)) == (m.length : Int)) = false := by simp; omega
    have h2 : (((l.length : Int)) != (m.length : Int)) = true := by simp; omega
    have hne : decide (l = m) = false := by
      rw [decide_eq_false_iff_not]
      intro e
      exact hlen (by rw [e])
    have HNE := Lib.hid hne; clear hne hlen
    go_enter Tryz.func29, Tryz.ntmps29
    go_wp2
    go_ret
    rw [HNE.out]
    exact ⟨rfl, Below.refl _ _⟩
  case pos =>
  have h1 : (((l.length : Int)) == (m.length : Int)) = true := by simp [hlen]
  have h2 : (((l.length : Int)) != (m.length : Int)) = false := by simp [hlen]
  have HL := Lib.hid hlen; clear hlen
  go_enter Tryz.func29, Tryz.ntmps29
  go_wp2_with fail
  go_loopw [5] (fun u5 wr => ∃ (k q : Nat), k ≤ l.length ∧ u5 = .int .i64 k ∧ wr = w.drewN q ∧ l.take k = m.take k) (fun u5 _ => l.length - (intOf u5).toNat)
  case atStart => exact ⟨0, 0, Nat.zero_le _, rfl, rfl, rfl⟩
  case round =>
  obtain ⟨k, q, hk, rfl, rfl, hkm⟩ := hrel
  have HKM := Lib.hid hkm; clear hkm
  by_cases hlt : k < l.length
  case neg =>
    have he : decide (l = m) = true := by
      have := HKM.out
      have hl := HL.out
      rw [List.take_of_length_le (by omega), List.take_of_length_le (by omega)] at this
      simpa using this
    have HE := Lib.hid he; clear he
    go_wp2
    go_ret
    rw [HE.out]
    exact ⟨rfl, below_drewN (Below.refl _ _) _⟩
  case pos =>
  obtain ⟨s, hs⟩ := get_some l k hlt
  obtain ⟨t, ht⟩ := get_some m k (by rw [← HL.out]; exact hlt)
  have hmk : k < m.length := (List.getElem?_eq_some_iff.1 ht).1
  obtain ⟨b, off, rfl, hc1⟩ := HA.out.at_ hs
  obtain ⟨b', off', rfl, hd1⟩ := HB.out.at_ ht
  have HS := Lib.hid hs
  have HT := Lib.hid ht
  clear hs ht
  by_cases hst : s = t
  case pos =>
    have e1 : (s == t) = true := by simp [hst]
    have e2 : (s != t) = false := by simp [hst]
    have HST := Lib.hid hst; clear hst
    go_wp2
    go_quiet (fail)
    go_wp2
    go_roundw
    case rel => exact ⟨k + 1, _, by omega, by go_num, rfl, by rw [take_snoc l k s HS.out, take_snoc m k t HT.out, HKM.out, HST.out]⟩
    case measure => simp [intOf]; omega
  case neg =>
    have hne : decide (l = m) = false := by
      rw [decide_eq_false_iff_not]
      intro e
      have h1 := HS.out
      have h2 := HT.out
      rw [e, h2] at h1
      exact hst (Option.some.inj h1).symm
    have HNE := Lib.hid hne; clear hne
    have e1 : (s == t) = false := by simp [hst]
    have e2 : (s != t) = true := by simp [hst]
    clear hst
    go_wp2
    go_quiet (fail)
    go_wp2
    go_ret
    rw [HNE.out]
    exact ⟨rfl, below_drewN (below_drewN (Below.refl _ _) _) _⟩
def fw30 (l : List Int) (salt : ByteArray) (random : List Int) : Bool := decide (l.length ≤ 6 ∧ (salt.size ≤ 60 ∨ 400 < salt.size ∧ salt.size ≤ 500) ∧ random.length ≤ 40)
set_option maxHeartbeats 2000000 in
theorem rfew30_any (A : Option Addr) (c : Nat) (l : List Int) (salt : ByteArray) (B : Option Addr) (d : Nat) (random : List Int) (w : World) :
    Calls Tryz.prog 11 #[.slice A l.length c, .string salt, .slice B random.length d] w fun e w' => e = .returned (.bool (fw30 l salt random)) ∧ w = w' := by
  by_cases h1 : l.length ≤ 6
  case neg =>
    go_enter Tryz.func11, Tryz.ntmps11
    go_wp2
    go_ret
    exact ⟨ret_bool (by rw [Bool.eq_iff_iff]; simp [fw30]; omega), rfl⟩
  case pos =>
  by_cases h2 : salt.size ≤ 60
  case pos =>
    by_cases h3 : random.length ≤ 40
    all_goals
      go_enter Tryz.func11, Tryz.ntmps11
      go_wp2
      go_ret
      exact ⟨ret_bool (by rw [Bool.eq_iff_iff]; simp [fw30]; omega), rfl⟩
  case neg =>
  by_cases h4 : 400 < salt.size
  case neg =>
    go_enter Tryz.func11, Tryz.ntmps11
    go_wp2
    go_ret
    exact ⟨ret_bool (by rw [Bool.eq_iff_iff]; simp [fw30]; omega), rfl⟩
  case pos =>
  by_cases h5 : salt.size ≤ 500
  case neg =>
    go_enter Tryz.func11, Tryz.ntmps11
    go_wp2
    go_ret
    exact ⟨ret_bool (by rw [Bool.eq_iff_iff]; simp [fw30]; omega), rfl⟩
  case pos =>
  by_cases h3 : random.length ≤ 40
  all_goals
    go_enter Tryz.func11, Tryz.ntmps11
    go_wp2
    go_ret
    exact ⟨ret_bool (by rw [Bool.eq_iff_iff]; simp [fw30]; omega), rfl⟩

def fwK (l : List Kr) (kr : Kr) : Bool := fw30 kr.seeds kr.salt kr.random && decide (kr.seeds.length = ((l[0]?.map (·.seeds.length)).getD 0))
def fewK (l : List Kr) : Bool := decide (1 ≤ l.length ∧ l.length ≤ 4) && l.all (fwK l)
theorem kr_cells {w : World} {A : Option Addr} {l : List Kr} (h : RowOf krC 3 w A l) {j : Nat} {o : Kr} (hj : l[j]? = some o) : ∃ b off, A = some ⟨b, off, none⟩ ∧ w.cell? ⟨b, off + j * 3, none⟩ = some (.slice o.SA o.seeds.length o.sc) ∧ w.cell? ⟨b, off + j * 3 + 1, none⟩ = some (.string o.salt) ∧ w.cell? ⟨b, off + j * 3 + 2, none⟩ = some (.slice o.RA o.random.length o.rc) := by
  obtain ⟨b, off, he, hc⟩ := h.at_ krC_len hj
  exact ⟨b, off, he, by have := hc 0 _ rfl; simpa using this, hc 1 _ rfl, hc 2 _ rfl⟩

set_option maxRecDepth 100000 in
set_option maxHeartbeats 8000000 in
theorem kfew_any (A : Option Addr) (c : Nat) (l : List Kr) (w : World) (hA : RowOf krC 3 w A l) (hl : l.length ≤ 9223372036854775807) :
    Calls Tryz.prog 33 #[.slice A l.length c] w fun e w' => e = .returned (.bool (fewK l)) ∧ Below w.heap.size w w' := by
  have HA : Hid (∀ W, Below w.heap.size w W → RowOf krC 3 W A l) := Lib.hid (fun W hW => hA.below hW)
  have HAT : Hid (∀ (k : Nat) (x : Kr), l[k]? = some x → fwK l x = false → fewK l = false) := Lib.hid (fun k x hx h => by unfold fewK; rw [all_false_of (fwK l) l k x hx h, Bool.and_false])
  have HBG : Hid (¬ (1 ≤ l.length ∧ l.length ≤ 4) → fewK l = false) := Lib.hid (fun h => by unfold fewK; rw [decide_eq_false h]; rfl)
  have HOK : Hid (1 ≤ l.length → l.length ≤ 4 → l.all (fwK l) = true → fewK l = true) := Lib.hid (fun h1 h2 h3 => by unfold fewK; rw [h3, decide_eq_true ⟨h1, h2⟩]; rfl)
  have HFW : Hid (∀ x : Kr, fwK l x = (fw30 x.seeds x.salt x.random && decide (x.seeds.length = ((l[0]?.map (·.seeds.length)).getD 0)))) := Lib.hid (fun x => rfl)
  obtain ⟨r, hr⟩ : ∃ r, fewK l = r := ⟨_, rfl⟩
  rw [hr] at HAT HBG HOK ⊢
  clear hA hr
  go_enter Tryz.func33, Tryz.ntmps33
  go_wp2_with fail
  go_loopw [3] (fun u3 wr => ∃ k : Nat, k ≤ l.length ∧ k ≤ 9 ∧ u3 = .int .i64 k ∧ Below w.heap.size w wr ∧ (l.take k).all (fwK l) = true) (fun u3 _ => 10 - (intOf u3).toNat)
  case atStart => exact ⟨0, Nat.zero_le _, by omega, rfl, Below.refl _ _, rfl⟩
  case round =>
  obtain ⟨k, hk, hk9, rfl, hb, hall⟩ := hrel
  have HBk := Lib.hid hb
  have HAL := Lib.hid hall
  clear hb hall
  by_cases hlt : k < l.length
  case neg =>
    obtain rfl : k = l.length := by omega
    have hal := HAL.out
    rw [List.take_of_length_le (Nat.le_refl _)] at hal
    by_cases h1 : 1 ≤ l.length
    · by_cases h4 : l.length ≤ 4
      · have hrt := HOK.out h1 h4 hal
        subst hrt
        clear hal
        go_wp2
        go_ret
        exact ⟨ret_bool (by first | rfl | (simp; done) | (simp; omega)), HBk.out⟩
      · have hrt := HBG.out (fun h => h4 h.2)
        subst hrt
        clear hal
        go_wp2
        go_ret
        exact ⟨ret_bool (by first | rfl | (simp; done) | (simp; omega)), HBk.out⟩
    · have hrt := HBG.out (fun h => h1 h.1)
      subst hrt
      clear hal
      go_wp2
      go_ret
      exact ⟨ret_bool (by first | rfl | (simp; done) | (simp; omega)), HBk.out⟩
  case pos =>
  by_cases h9 : k < 9
  case neg =>
    have hrt := HBG.out (fun h => by omega)
    subst hrt
    go_wp2
    go_ret
    exact ⟨ret_bool (by first | rfl | (simp; done) | (simp; omega)), HBk.out⟩
  case pos =>
  obtain ⟨x, hx⟩ := get_some l k hlt
  obtain ⟨x0, hx0⟩ := get_some l 0 (by omega)
  have HC : Hid (∀ W, Below w.heap.size w W → ∃ b off, A = some ⟨b, off, none⟩ ∧ W.cell? ⟨b, off + k * 3, none⟩ = some (.slice x.SA x.seeds.length x.sc) ∧ W.cell? ⟨b, off + k * 3 + 1, none⟩ = some (.string x.salt) ∧ W.cell? ⟨b, off + k * 3 + 2, none⟩ = some (.slice x.RA x.random.length x.rc) ∧ W.cell? ⟨b, off, none⟩ = some (.slice x0.SA x0.seeds.length x0.sc) ∧ b < W.heap.size) := Lib.hid (fun W hW => by
    obtain ⟨b, off, he, c0, c1, c2⟩ := kr_cells (HA.out W hW) hx
    obtain ⟨b', off', he', d0, _, _⟩ := kr_cells (HA.out W hW) hx0
    rw [he] at he'
    injection he' with he'
    injection he' with e1 e2
    subst e1 e2
    exact ⟨b, off, he, c0, c1, c2, by simpa using d0, lt_of_cell c0⟩)
  obtain ⟨bA, oA, hAe, -, -, -, -, -⟩ := HC.out w (Below.refl _ _)
  subst hAe
  have HX := Lib.hid hx
  have hfw := HFW.out x
  rw [hx0] at hfw
  have h0l : 0 < l.length := by omega
  have h0i : (0 : Int) < (l.length : Int) := by omega
  have hki : (k : Int) < (l.length : Int) := by omega
  have hk9i : (k : Int) < 9 := by omega
  obtain ⟨bf, hbf⟩ : ∃ b, fw30 x.seeds x.salt x.random = b := ⟨_, rfl⟩
  have HF : Hid (∀ W, Calls Tryz.prog 11 #[.slice x.SA x.seeds.length x.sc, .string x.salt, .slice x.RA x.random.length x.rc] W fun e w' => e = .returned (.bool bf) ∧ W = w') := Lib.hid (fun W => by
    have := rfew30_any x.SA x.sc x.seeds x.salt x.RA x.rc x.random W
    rw [hbf] at this
    exact this)
  rw [hbf] at hfw
  clear hx hx0 hbf
  have hfw' : fwK l x = (bf && decide (x.seeds.length = x0.seeds.length)) := hfw
  have HFX := Lib.hid hfw'
  clear hfw hfw'
  cases bf
  case false =>
    have hrt := HAT.out k x HX.out (by rw [HFX.out]; rfl)
    subst hrt
    go_wp2_with fail
    refine wp_region_belowC (by kernel_rfl) (by kernel_rfl) (fun WQ HQS HQN => ?_)
    refine HQS.go (fun K hK => ?_)
    go_simp
    apply Exists.intro
    refine ⟨fun W hW => ?_, hK _ ?_⟩
    · (try go_simp)
      exact rfl
    clear hK K
    refine HQS.go (fun K hK => ?_)
    go_simp
    apply Exists.intro
    refine ⟨fun W hW => ?_, hK _ ?_⟩
    · (try go_simp)
      exact rfl
    clear hK K
    refine HQS.go (fun K hK => ?_)
    go_simp
    apply Exists.intro
    refine ⟨fun W hW => ?_, hK _ ?_⟩
    · (try go_simp)
      exact rfl
    clear hK K
    refine HQS.go (fun K hK => ?_)
    go_simp
    apply Exists.intro
    refine ⟨fun W hW => ?_, hK _ ?_⟩
    · (try go_simp)
      exact rfl
    clear hK K
    refine HQS.go (fun K hK => ?_)
    go_simp
    apply Exists.intro
    refine ⟨fun W hW => ?_, hK _ ?_⟩
    · obtain ⟨b_, f_, he_, c0, c1, c2, d0, cl⟩ := HC.out W (below_trans HBk.out hW)
      cases he_
      go_simp
      exact rfl
    clear hK K
    refine HQS.go (fun K hK => ?_)
    go_simp
    apply Exists.intro
    refine ⟨fun W hW => ?_, hK _ ?_⟩
    · (try go_simp)
      exact rfl
    clear hK K
    refine HQS.go (fun K hK => ?_)
    go_simp
    apply Exists.intro
    refine ⟨fun W hW => ?_, hK _ ?_⟩
    · (try go_simp)
      exact rfl
    clear hK K
    refine HQS.go (fun K hK => ?_)
    go_simp
    apply Exists.intro
    refine ⟨fun W hW => ?_, hK _ ?_⟩
    · (try go_simp)
      exact rfl
    clear hK K
    refine HQS.go (fun K hK => ?_)
    go_simp
    apply Exists.intro
    refine ⟨fun W hW => ?_, hK _ ?_⟩
    · (try go_simp)
      exact rfl
    clear hK K
    refine HQS.go (fun K hK => ?_)
    go_simp
    apply Exists.intro
    refine ⟨fun W hW => ?_, hK _ ?_⟩
    · obtain ⟨b_, f_, he_, c0, c1, c2, d0, cl⟩ := HC.out W (below_trans HBk.out hW)
      cases he_
      go_simp
      exact rfl
    clear hK K
    refine HQS.go (fun K hK => ?_)
    go_simp
    apply Exists.intro
    refine ⟨fun W hW => ?_, hK _ ?_⟩
    · (try go_simp)
      exact rfl
    clear hK K
    refine HQS.go (fun K hK => ?_)
    go_simp
    apply Exists.intro
    refine ⟨fun W hW => ?_, hK _ ?_⟩
    · (try go_simp)
      exact rfl
    clear hK K
    refine HQS.go (fun K hK => ?_)
    go_simp
    apply Exists.intro
    refine ⟨fun W hW => ?_, hK _ ?_⟩
    · (try go_simp)
      exact rfl
    clear hK K
    refine HQS.go (fun K hK => ?_)
    go_simp
    apply Exists.intro
    refine ⟨fun W hW => ?_, hK _ ?_⟩
    · (try go_simp)
      exact rfl
    clear hK K
    refine HQS.go (fun K hK => ?_)
    go_simp
    apply Exists.intro
    refine ⟨fun W hW => ?_, hK _ ?_⟩
    · obtain ⟨b_, f_, he_, c0, c1, c2, d0, cl⟩ := HC.out W (below_trans HBk.out hW)
      cases he_
      go_simp
      exact rfl
    clear hK K
    refine HQS.go (fun K hK => ?_)
    go_simp
    apply Exists.intro
    refine ⟨fun W hW => ?_, hK _ ?_⟩
    · exact (HF.out W).mono fun _ _ ⟨he, hw⟩ => ⟨he, hw ▸ hW⟩
    clear hK K
    refine HQS.go (fun K hK => ?_)
    go_simp
    apply Exists.intro
    refine ⟨fun W hW => ?_, hK _ ?_⟩
    · (try go_simp)
      exact rfl
    clear hK K
    refine HQS.go (fun K hK => ?_)
    go_simp
    apply Exists.intro
    refine ⟨fun W hW => ?_, hK _ ?_⟩
    · (try go_simp)
      exact rfl
    clear hK K
    refine HQS.go (fun K hK => ?_)
    go_simp
    refine hK _ ?_
    clear hK K
    refine HQS.go (fun K hK => ?_)
    go_simp
    refine hK _ ?_
    clear hK K
    refine HQS.go (fun K hK => ?_)
    go_simp
    refine hK _ ?_
    clear hK K
    refine HQS.go (fun K hK => ?_)
    go_simp
    refine hK _ ?_
    clear hK K
    refine HQS.go (fun K hK => ?_)
    go_simp
    refine hK _ ?_
    clear hK K
    refine HQS.go (fun K hK => ?_)
    go_simp
    refine hK _ ?_
    clear hK K
    refine HQS.go (fun K hK => ?_)
    go_simp
    refine hK _ ?_
    clear hK K
    refine HQS.go (fun K hK => ?_)
    go_simp
    refine hK _ ?_
    clear hK K
    refine HQS.go (fun K hK => ?_)
    go_simp
    refine hK _ ?_
    clear hK K
    refine HQS.go (fun K hK => ?_)
    go_simp
    refine hK _ ?_
    clear hK K
    refine HQS.go (fun K hK => ?_)
    go_simp
    refine hK _ ?_
    clear hK K
    refine HQS.go (fun K hK => ?_)
    go_simp
    refine hK _ ?_
    clear hK K
    refine HQS.go (fun K hK => ?_)
    go_simp
    apply Exists.intro
    refine ⟨fun W hW => ?_, hK _ ?_⟩
    · (try go_simp)
      exact rfl
    clear hK K
    refine HQN.go ?_
    intro w1 hW
    have HB1 := Lib.hid (below_trans HBk.out hW)
    clear hW
    go_wp2
    go_ret
    exact ⟨rfl, HB1.out⟩
  case true =>
    by_cases hse : x.seeds.length = x0.seeds.length
    case neg =>
      have hrt := HAT.out k x HX.out (by rw [HFX.out, decide_eq_false hse]; rfl)
      subst hrt
      have d1 : ((x.seeds.length : Int) == (x0.seeds.length : Int)) = false := by simp; omega
      have d2 : ((x.seeds.length : Int) != (x0.seeds.length : Int)) = true := by simp; omega
      clear hse
      go_wp2_with fail
      refine wp_region_belowC (by kernel_rfl) (by kernel_rfl) (fun WQ HQS HQN => ?_)
      refine HQS.go (fun K hK => ?_)
      go_simp
      apply Exists.intro
      refine ⟨fun W hW => ?_, hK _ ?_⟩
      · (try go_simp)
        exact rfl
      clear hK K
      refine HQS.go (fun K hK => ?_)
      go_simp
      apply Exists.intro
      refine ⟨fun W hW => ?_, hK _ ?_⟩
      · (try go_simp)
        exact rfl
      clear hK K
      refine HQS.go (fun K hK => ?_)
      go_simp
      apply Exists.intro
      refine ⟨fun W hW => ?_, hK _ ?_⟩
      · (try go_simp)
        exact rfl
      clear hK K
      refine HQS.go (fun K hK => ?_)
      go_simp
      apply Exists.intro
      refine ⟨fun W hW => ?_, hK _ ?_⟩
      · (try go_simp)
        exact rfl
      clear hK K
      refine HQS.go (fun K hK => ?_)
      go_simp
      apply Exists.intro
      refine ⟨fun W hW => ?_, hK _ ?_⟩
      · obtain ⟨b_, f_, he_, c0, c1, c2, d0, cl⟩ := HC.out W (below_trans HBk.out hW)
        cases he_
        go_simp
        exact rfl
      clear hK K
      refine HQS.go (fun K hK => ?_)
      go_simp
      apply Exists.intro
      refine ⟨fun W hW => ?_, hK _ ?_⟩
      · (try go_simp)
        exact rfl
      clear hK K
      refine HQS.go (fun K hK => ?_)
      go_simp
      apply Exists.intro
      refine ⟨fun W hW => ?_, hK _ ?_⟩
      · (try go_simp)
        exact rfl
      clear hK K
      refine HQS.go (fun K hK => ?_)
      go_simp
      apply Exists.intro
      refine ⟨fun W hW => ?_, hK _ ?_⟩
      · (try go_simp)
        exact rfl
      clear hK K
      refine HQS.go (fun K hK => ?_)
      go_simp
      apply Exists.intro
      refine ⟨fun W hW => ?_, hK _ ?_⟩
      · (try go_simp)
        exact rfl
      clear hK K
      refine HQS.go (fun K hK => ?_)
      go_simp
      apply Exists.intro
      refine ⟨fun W hW => ?_, hK _ ?_⟩
      · obtain ⟨b_, f_, he_, c0, c1, c2, d0, cl⟩ := HC.out W (below_trans HBk.out hW)
        cases he_
        go_simp
        exact rfl
      clear hK K
      refine HQS.go (fun K hK => ?_)
      go_simp
      apply Exists.intro
      refine ⟨fun W hW => ?_, hK _ ?_⟩
      · (try go_simp)
        exact rfl
      clear hK K
      refine HQS.go (fun K hK => ?_)
      go_simp
      apply Exists.intro
      refine ⟨fun W hW => ?_, hK _ ?_⟩
      · (try go_simp)
        exact rfl
      clear hK K
      refine HQS.go (fun K hK => ?_)
      go_simp
      apply Exists.intro
      refine ⟨fun W hW => ?_, hK _ ?_⟩
      · (try go_simp)
        exact rfl
      clear hK K
      refine HQS.go (fun K hK => ?_)
      go_simp
      apply Exists.intro
      refine ⟨fun W hW => ?_, hK _ ?_⟩
      · (try go_simp)
        exact rfl
      clear hK K
      refine HQS.go (fun K hK => ?_)
      go_simp
      apply Exists.intro
      refine ⟨fun W hW => ?_, hK _ ?_⟩
      · obtain ⟨b_, f_, he_, c0, c1, c2, d0, cl⟩ := HC.out W (below_trans HBk.out hW)
        cases he_
        go_simp
        exact rfl
      clear hK K
      refine HQS.go (fun K hK => ?_)
      go_simp
      apply Exists.intro
      refine ⟨fun W hW => ?_, hK _ ?_⟩
      · exact (HF.out W).mono fun _ _ ⟨he, hw⟩ => ⟨he, hw ▸ hW⟩
      clear hK K
      refine HQS.go (fun K hK => ?_)
      go_simp
      apply Exists.intro
      refine ⟨fun W hW => ?_, hK _ ?_⟩
      · (try go_simp)
        exact rfl
      clear hK K
      refine HQS.go (fun K hK => ?_)
      go_simp
      apply Exists.intro
      refine ⟨fun W hW => ?_, hK _ ?_⟩
      · (try go_simp)
        exact rfl
      clear hK K
      refine HQS.go (fun K hK => ?_)
      go_simp
      apply Exists.intro
      refine ⟨fun W hW => ?_, hK _ ?_⟩
      · (try go_simp)
        exact rfl
      clear hK K
      refine HQS.go (fun K hK => ?_)
      go_simp
      apply Exists.intro
      refine ⟨fun W hW => ?_, hK _ ?_⟩
      · (try go_simp)
        exact rfl
      clear hK K
      refine HQS.go (fun K hK => ?_)
      go_simp
      apply Exists.intro
      refine ⟨fun W hW => ?_, hK _ ?_⟩
      · (try go_simp)
        exact rfl
      clear hK K
      refine HQS.go (fun K hK => ?_)
      go_simp
      apply Exists.intro
      refine ⟨fun W hW => ?_, hK _ ?_⟩
      · (try go_simp)
        exact rfl
      clear hK K
      refine HQS.go (fun K hK => ?_)
      go_simp
      apply Exists.intro
      refine ⟨fun W hW => ?_, hK _ ?_⟩
      · obtain ⟨b_, f_, he_, c0, c1, c2, d0, cl⟩ := HC.out W (below_trans HBk.out hW)
        cases he_
        go_simp
        exact rfl
      clear hK K
      refine HQS.go (fun K hK => ?_)
      go_simp
      apply Exists.intro
      refine ⟨fun W hW => ?_, hK _ ?_⟩
      · (try go_simp)
        exact rfl
      clear hK K
      refine HQS.go (fun K hK => ?_)
      go_simp
      apply Exists.intro
      refine ⟨fun W hW => ?_, hK _ ?_⟩
      · (try go_simp)
        exact rfl
      clear hK K
      refine HQS.go (fun K hK => ?_)
      go_simp
      apply Exists.intro
      refine ⟨fun W hW => ?_, hK _ ?_⟩
      · (try go_simp)
        exact rfl
      clear hK K
      refine HQS.go (fun K hK => ?_)
      go_simp
      apply Exists.intro
      refine ⟨fun W hW => ?_, hK _ ?_⟩
      · (try go_simp)
        exact rfl
      clear hK K
      refine HQS.go (fun K hK => ?_)
      go_simp
      apply Exists.intro
      refine ⟨fun W hW => ?_, hK _ ?_⟩
      · obtain ⟨b_, f_, he_, c0, c1, c2, d0, cl⟩ := HC.out W (below_trans HBk.out hW)
        cases he_
        go_simp
        exact rfl
      clear hK K
      refine HQS.go (fun K hK => ?_)
      go_simp
      apply Exists.intro
      refine ⟨fun W hW => ?_, hK _ ?_⟩
      · (try go_simp)
        exact rfl
      clear hK K
      refine HQS.go (fun K hK => ?_)
      go_simp
      apply Exists.intro
      refine ⟨fun W hW => ?_, hK _ ?_⟩
      · (try go_simp)
        exact rfl
      clear hK K
      refine HQS.go (fun K hK => ?_)
      go_simp
      apply Exists.intro
      refine ⟨fun W hW => ?_, hK _ ?_⟩
      · (try go_simp)
        exact rfl
      clear hK K
      refine HQN.go ?_
      intro w1 hW
      have HB1 := Lib.hid (below_trans HBk.out hW)
      clear hW
      go_wp2
      go_ret
      exact ⟨rfl, HB1.out⟩
    case pos =>
      have hgo : (l.take (k + 1)).all (fwK l) = true := by rw [all_take_succ (fwK l) l k x HX.out, HAL.out, HFX.out, decide_eq_true hse]; rfl
      have HGO := Lib.hid hgo
      have d1 : ((x.seeds.length : Int) == (x0.seeds.length : Int)) = true := by simp; omega
      have d2 : ((x.seeds.length : Int) != (x0.seeds.length : Int)) = false := by simp; omega
      clear hse hgo
      go_wp2_with fail
      refine wp_region_belowC (by kernel_rfl) (by kernel_rfl) (fun WQ HQS HQN => ?_)
      refine HQS.go (fun K hK => ?_)
      go_simp
      apply Exists.intro
      refine ⟨fun W hW => ?_, hK _ ?_⟩
      · (try go_simp)
        exact rfl
      clear hK K
      refine HQS.go (fun K hK => ?_)
      go_simp
      apply Exists.intro
      refine ⟨fun W hW => ?_, hK _ ?_⟩
      · (try go_simp)
        exact rfl
      clear hK K
      refine HQS.go (fun K hK => ?_)
      go_simp
      apply Exists.intro
      refine ⟨fun W hW => ?_, hK _ ?_⟩
      · (try go_simp)
        exact rfl
      clear hK K
      refine HQS.go (fun K hK => ?_)
      go_simp
      apply Exists.intro
      refine ⟨fun W hW => ?_, hK _ ?_⟩
      · (try go_simp)
        exact rfl
      clear hK K
      refine HQS.go (fun K hK => ?_)
      go_simp
      apply Exists.intro
      refine ⟨fun W hW => ?_, hK _ ?_⟩
      · obtain ⟨b_, f_, he_, c0, c1, c2, d0, cl⟩ := HC.out W (below_trans HBk.out hW)
        cases he_
        go_simp
        exact rfl
      clear hK K
      refine HQS.go (fun K hK => ?_)
      go_simp
      apply Exists.intro
      refine ⟨fun W hW => ?_, hK _ ?_⟩
      · (try go_simp)
        exact rfl
      clear hK K
      refine HQS.go (fun K hK => ?_)
      go_simp
      apply Exists.intro
      refine ⟨fun W hW => ?_, hK _ ?_⟩
      · (try go_simp)
        exact rfl
      clear hK K
      refine HQS.go (fun K hK => ?_)
      go_simp
      apply Exists.intro
      refine ⟨fun W hW => ?_, hK _ ?_⟩
      · (try go_simp)
        exact rfl
      clear hK K
      refine HQS.go (fun K hK => ?_)
      go_simp
      apply Exists.intro
      refine ⟨fun W hW => ?_, hK _ ?_⟩
      · (try go_simp)
        exact rfl
      clear hK K
      refine HQS.go (fun K hK => ?_)
      go_simp
      apply Exists.intro
      refine ⟨fun W hW => ?_, hK _ ?_⟩
      · obtain ⟨b_, f_, he_, c0, c1, c2, d0, cl⟩ := HC.out W (below_trans HBk.out hW)
        cases he_
        go_simp
        exact rfl
      clear hK K
      refine HQS.go (fun K hK => ?_)
      go_simp
      apply Exists.intro
      refine ⟨fun W hW => ?_, hK _ ?_⟩
      · (try go_simp)
        exact rfl
      clear hK K
      refine HQS.go (fun K hK => ?_)
      go_simp
      apply Exists.intro
      refine ⟨fun W hW => ?_, hK _ ?_⟩
      · (try go_simp)
        exact rfl
      clear hK K
      refine HQS.go (fun K hK => ?_)
      go_simp
      apply Exists.intro
      refine ⟨fun W hW => ?_, hK _ ?_⟩
      · (try go_simp)
        exact rfl
      clear hK K
      refine HQS.go (fun K hK => ?_)
      go_simp
      apply Exists.intro
      refine ⟨fun W hW => ?_, hK _ ?_⟩
      · (try go_simp)
        exact rfl
      clear hK K
      refine HQS.go (fun K hK => ?_)
      go_simp
      apply Exists.intro
      refine ⟨fun W hW => ?_, hK _ ?_⟩
      · obtain ⟨b_, f_, he_, c0, c1, c2, d0, cl⟩ := HC.out W (below_trans HBk.out hW)
        cases he_
        go_simp
        exact rfl
      clear hK K
      refine HQS.go (fun K hK => ?_)
      go_simp
      apply Exists.intro
      refine ⟨fun W hW => ?_, hK _ ?_⟩
      · exact (HF.out W).mono fun _ _ ⟨he, hw⟩ => ⟨he, hw ▸ hW⟩
      clear hK K
      refine HQS.go (fun K hK => ?_)
      go_simp
      apply Exists.intro
      refine ⟨fun W hW => ?_, hK _ ?_⟩
      · (try go_simp)
        exact rfl
      clear hK K
      refine HQS.go (fun K hK => ?_)
      go_simp
      apply Exists.intro
      refine ⟨fun W hW => ?_, hK _ ?_⟩
      · (try go_simp)
        exact rfl
      clear hK K
      refine HQS.go (fun K hK => ?_)
      go_simp
      apply Exists.intro
      refine ⟨fun W hW => ?_, hK _ ?_⟩
      · (try go_simp)
        exact rfl
      clear hK K
      refine HQS.go (fun K hK => ?_)
      go_simp
      apply Exists.intro
      refine ⟨fun W hW => ?_, hK _ ?_⟩
      · (try go_simp)
        exact rfl
      clear hK K
      refine HQS.go (fun K hK => ?_)
      go_simp
      apply Exists.intro
      refine ⟨fun W hW => ?_, hK _ ?_⟩
      · (try go_simp)
        exact rfl
      clear hK K
      refine HQS.go (fun K hK => ?_)
      go_simp
      apply Exists.intro
      refine ⟨fun W hW => ?_, hK _ ?_⟩
      · (try go_simp)
        exact rfl
      clear hK K
      refine HQS.go (fun K hK => ?_)
      go_simp
      apply Exists.intro
      refine ⟨fun W hW => ?_, hK _ ?_⟩
      · obtain ⟨b_, f_, he_, c0, c1, c2, d0, cl⟩ := HC.out W (below_trans HBk.out hW)
        cases he_
        go_simp
        exact rfl
      clear hK K
      refine HQS.go (fun K hK => ?_)
      go_simp
      apply Exists.intro
      refine ⟨fun W hW => ?_, hK _ ?_⟩
      · (try go_simp)
        exact rfl
      clear hK K
      refine HQS.go (fun K hK => ?_)
      go_simp
      apply Exists.intro
      refine ⟨fun W hW => ?_, hK _ ?_⟩
      · (try go_simp)
        exact rfl
      clear hK K
      refine HQS.go (fun K hK => ?_)
      go_simp
      apply Exists.intro
      refine ⟨fun W hW => ?_, hK _ ?_⟩
      · (try go_simp)
        exact rfl
      clear hK K
      refine HQS.go (fun K hK => ?_)
      go_simp
      apply Exists.intro
      refine ⟨fun W hW => ?_, hK _ ?_⟩
      · (try go_simp)
        exact rfl
      clear hK K
      refine HQS.go (fun K hK => ?_)
      go_simp
      apply Exists.intro
      refine ⟨fun W hW => ?_, hK _ ?_⟩
      · obtain ⟨b_, f_, he_, c0, c1, c2, d0, cl⟩ := HC.out W (below_trans HBk.out hW)
        cases he_
        go_simp
        exact rfl
      clear hK K
      refine HQS.go (fun K hK => ?_)
      go_simp
      apply Exists.intro
      refine ⟨fun W hW => ?_, hK _ ?_⟩
      · (try go_simp)
        exact rfl
      clear hK K
      refine HQS.go (fun K hK => ?_)
      go_simp
      apply Exists.intro
      refine ⟨fun W hW => ?_, hK _ ?_⟩
      · (try go_simp)
        exact rfl
      clear hK K
      refine HQS.go (fun K hK => ?_)
      go_simp
      apply Exists.intro
      refine ⟨fun W hW => ?_, hK _ ?_⟩
      · (try go_simp)
        exact rfl
      clear hK K
      refine HQN.go ?_
      intro w1 hW
      have HB1 := Lib.hid (below_trans HBk.out hW)
      clear hW
      go_wp2
      go_roundw
      case rel => exact ⟨k + 1, by omega, by omega, by go_num, HB1.out, HGO.out⟩
      case measure => simp [intOf]; omega
end

end Go.Proofs.YtjfondfjdhjooaaGreatDoor
