/- Chapter 30, plain: the nights of honest keepers. Chapter 30: the laws' example: two keepers. Chapter 30: a night's lists fit a draw; the example's keepers are right. Chapter 30, plain: the draw of a night in which all open. Chapter 30: the example's nights. Chapter 30, plain: the example's draws with a seed that is withheld. Chapter 30: the draw of a night in which all open, as a contract. Chapter 30: a draw of two keepers at slot 1, with any openings and shares. Chapter 30: the laws' head. A row that a call owns, by its block: what is read of it, and what a store changes. Chapter 30, plain: few keepers; another seed of one of them. Chapter 30, plain: a draw in which some keepers do not open. Chapter 30: the law KeeperRecovers. -/
import Derived.Test.YtjfondfjdhjooaaGreatDoorChKeeperRecoversG
import Derived.Deep.MidRow
namespace Go.Proofs.YtjfondfjdhjooaaGreatDoor

section
open Go.RowKit

theorem okK_dv {m : Nat} {need i : Int} {kr : Kr} (h : okK m need i kr = true) : dvB kr.seeds kr.salt need m kr.random = true := by
  unfold okK at h
  rw [Bool.and_eq_true] at h
  exact h.1
theorem okK_seed {m : Nat} {need i : Int} {kr : Kr} (h : okK m need i kr = true) : ∃ v, kr.seeds[i.toNat]? = some v ∧ 0 ≤ v ∧ v ≤ 719 ∧ ((i.toNat : Nat) : Int) = i ∧ i.toNat < kr.seeds.length ∧ kr.seeds.length ≤ 600 := by
  obtain ⟨n', m', -, -, hok⟩ := DivOk.of (okK_dv h)
  unfold okK at h
  rw [Bool.and_eq_true] at h
  have hi := of_decide_eq_true h.2
  obtain ⟨v, hv⟩ := get_some kr.seeds i.toNat (by omega)
  have hr := sdV_at hok.sd hv
  exact ⟨v, hv, hr.1, hr.2, by omega, by omega, hok.few⟩
theorem okK_num {m : Nat} {need i : Int} {kr : Kr} (h : okK m need i kr = true) : ∃ n : Nat, need = n ∧ DivOk kr.seeds n m kr.random := by
  obtain ⟨n', m', hn, hm, hok⟩ := DivOk.of (okK_dv h)
  obtain rfl : m = m' := by omega
  exact ⟨n', hn, hok⟩
theorem cmK_eq {m : Nat} {need i : Int} {kr : Kr} (h : okK m need i kr = true) : cmK m need kr = (rt (ksL kr.seeds kr.salt), rt (khP kr.seeds need.toNat m kr.random kr.seeds.length)) := by
  unfold cmK cmR
  rw [if_pos (okK_dv h), Int.toNat_natCast]
/-- An own opening counts. -/
theorem kone_own {m : Nat} {need i : Int} {kr : Kr} (h : okK m need i kr = true) (A : Option Addr) (c : Nat) (kp : Int) (l : List Kp) (nd : Int) :
    kone (cmK m need kr) (kr.seeds.length : Int) kp i (ogOf kr i.toNat A c) l nd = (kr.seeds[i.toNat]?.getD 0, 0, false) := by
  obtain ⟨v, hv, h0, h1, hi, -, -⟩ := okK_seed h
  have hdv := okK_dv h
  unfold dvB at hdv
  rw [Bool.and_eq_true] at hdv
  have hck := ck_own hdv.1 hv
  unfold kone
  rw [cmK_eq h]
  refine if_pos ⟨hi, ?_⟩
  simp only [ogOf, hv, Option.getD_some]
  exact hck
/-- An own share counts. -/
theorem kgood_own {m : Nat} {need i : Int} {kr : Kr} (h : okK m need i kr = true) (j : Nat) (hj : j < m) (A : Option Addr) (c : Nat) :
    kgood (cmK m need kr).2 (kr.seeds.length : Int) (m : Int) i (kpOf kr need.toNat m i.toNat j A c) = true := by
  obtain ⟨v, hv, -, -, hi, hil, h6⟩ := okK_seed h
  obtain ⟨n, rfl, hok⟩ := okK_num h
  have hkv := kv_own kr.seeds n m kr.random i.toNat j h6 (Nat.le_trans hok.m7 (by omega)) hil hj
  rw [cmK_eq h]
  rw [hi] at hkv
  have her := evp_range (kpoly kr.seeds n kr.random i.toNat) ((j : Int) + 1)
  simp only [kgood, kpOf, Int.toNat_natCast]
  rw [Bool.and_eq_true, Bool.and_eq_true, Bool.and_eq_true]
  exact ⟨⟨⟨decide_eq_true hi, decide_eq_true ⟨by omega, by omega⟩⟩, (elemB_iff _).2 her⟩, by rw [← hi] at hkv ⊢; exact hkv⟩
theorem jfold_all {root : ByteArray} {n kp i : Int} (l : List Kp) (S : List (Int × Int)) (hg : ∀ k, k ∈ l → kgood root n kp i k = true) (hd : (S.map (·.1) ++ l.map (·.s.1)).Nodup) : l.foldl (jst root n kp i) S = S ++ l.map (·.s) := by
  induction l generalizing S with
  | nil => simp
  | cons k l ih =>
    have hk := hg k List.mem_cons_self
    have hn : (S.map (·.1)).contains k.s.1 = false := by
      rw [List.nodup_append] at hd
      simp only [List.contains_eq_mem, decide_eq_false_iff_not]
      intro hm
      exact hd.2.2 k.s.1 hm k.s.1 (by simp) rfl
    have hs : jst root n kp i S k = S ++ [k.s] := by unfold jst; rw [hk, hn]; rfl
    rw [List.foldl_cons, hs, ih _ (fun q hq => hg q (List.mem_cons_of_mem _ hq)) (by simpa using hd)]
    simp
theorem jfd_all {root : ByteArray} {n kp i : Int} {l : List Kp} (hg : ∀ k, k ∈ l → kgood root n kp i k = true) (hd : (l.map (·.s.1)).Nodup) : jfd root n kp i l = l.map (·.s) := by
  unfold jfd
  rw [jfold_all l [] hg (by simpa using hd)]
  rfl
/-- Some own shares, each once: joined they say the seed, if there are enough. -/
theorem kjn_own {m : Nat} {need i : Int} {kr : Kr} (h : okK m need i kr = true) {l : List Kp} (hl : ∀ k, k ∈ l → ∃ j A c, j < m ∧ k = kpOf kr need.toNat m i.toNat j A c) (hd : (l.map (·.s.1)).Nodup) :
    kjn (cmK m need kr).2 (kr.seeds.length : Int) (m : Int) i l need = if (l.length : Int) < need then (0, 25) else (kr.seeds[i.toNat]?.getD 0, 0) := by
  have hg : ∀ k, k ∈ l → kgood (cmK m need kr).2 (kr.seeds.length : Int) (m : Int) i k = true := fun k hk => by
    obtain ⟨j, A, c, hj, rfl⟩ := hl k hk
    exact kgood_own h j hj A c
  have hj := jfd_all hg hd
  have hlen : (jfd (cmK m need kr).2 (kr.seeds.length : Int) (m : Int) i l).length = l.length := by rw [hj, List.length_map]
  obtain ⟨v, hv, hv0, hv1, hi, hil, h6⟩ := okK_seed h
  obtain ⟨n, rfl, hok⟩ := okK_num h
  by_cases hlt : (l.length : Int) < (n : Int)
  · rw [if_pos hlt]
    exact kjn_few (by rw [hlen]; exact hlt)
  · rw [if_neg hlt]
    have hon : On (kpoly kr.seeds n kr.random i.toNat) (jfd (cmK m (n : Int) kr).2 (kr.seeds.length : Int) (m : Int) i l) := jfd_on (by have := hok.m7; omega) (fun k hk _ => by
      obtain ⟨j, A, c, _, rfl⟩ := hl k hk
      simp only [kpOf, Int.toNat_natCast])
    have hp0 : evp (kpoly kr.seeds n kr.random i.toNat) 0 = v := by
      unfold kpoly
      rw [hv]
      simp only [Option.getD_some, evp]
      omega
    have hpl : (kpoly kr.seeds n kr.random i.toNat).length ≤ n := by
      unfold kpoly
      have := hok.one
      simp only [List.length_cons, List.length_take]
      omega
    have := kjn_ok (n := (kr.seeds.length : Int)) (kp := (m : Int)) (i := i) (l := l) (root := (cmK m (n : Int) kr).2) (need := n) hon hok.one (by have := hok.le; have := hok.m7; omega) hpl (by rw [hlen]; omega) (by rw [hp0]; exact hv1)
    rw [this, hp0, hv]
    rfl
/-- A keeper whose opening does not count. -/
theorem kone_held {m : Nat} {need i : Int} {kr : Kr} (h : okK m need i kr = true) {o : Og} (ho : o.ix = i → ckB (cmK m need kr).1 (kr.seeds.length : Int) o.ix o.v o.salt o.p = false) {l : List Kp} (hl : ∀ k, k ∈ l → ∃ j A c, j < m ∧ k = kpOf kr need.toNat m i.toNat j A c) (hd : (l.map (·.s.1)).Nodup) :
    kone (cmK m need kr) (kr.seeds.length : Int) (m : Int) i o l need = if (l.length : Int) < need then (0, 25, true) else (kr.seeds[i.toNat]?.getD 0, 0, true) := by
  unfold kone
  rw [if_neg (fun hc => by rw [ho hc.1] at hc; exact absurd hc.2 (by simp)), kjn_own h hl hd]
  split <;> rfl
theorem ck_empty (root : ByteArray) (n : Int) (ix v : Int) (p : List ByteArray) : ckB root n ix v ⟨#[]⟩ p = false := by
  have : isD (⟨#[]⟩ : ByteArray) = false := by decide
  simp only [ckB, this, Bool.and_false, Bool.false_and]
/-- The kept shares of a night: each once. -/
theorem KpsOk.nodup {kr : Kr} {n m i j : Nat} {l : List Kp} (h : KpsOk kr n m i j l) : (l.map (·.s.1)).Nodup := by
  have e : l.map (·.s.1) = (List.range j).map (fun q : Nat => ((q : Int) + 1)) := by
    apply List.ext_getElem?
    intro q
    by_cases hq : q < j
    · obtain ⟨A, c, hk⟩ := h.2 q hq
      rw [List.getElem?_map, hk, List.getElem?_map, List.getElem?_range hq]
      rfl
    · rw [List.getElem?_eq_none (by rw [List.length_map, h.1]; omega), List.getElem?_eq_none (by rw [List.length_map, List.length_range]; omega)]
  rw [e]
  rw [List.nodup_iff_pairwise_ne, List.pairwise_map]
  exact List.Pairwise.imp (fun {a b} hab => by omega) (List.nodup_iff_pairwise_ne.1 List.nodup_range)
theorem KpsOk.each {kr : Kr} {n m i j : Nat} {l : List Kp} (h : KpsOk kr n m i j l) {k : Kp} (hk : k ∈ l) : ∃ q A c, q < j ∧ k = kpOf kr n m i q A c := by
  obtain ⟨q, hq⟩ := List.getElem?_of_mem hk
  have hql : q < l.length := (List.getElem?_eq_some_iff.1 hq).1
  obtain ⟨A, c, he⟩ := h.2 q (by rw [← h.1]; exact hql)
  rw [hq] at he
  cases he
  exact ⟨q, A, c, by rw [← h.1]; exact hql, rfl⟩
end

section
open Go.RowKit
theorem kex_zero : (Tryz.prog.info? 27).map (fun i => (i.zero, i.size)) = some (some (.agg #[.slice none 0 0, .string ByteArray.empty, .slice none 0 0]), 3) := by kernel_rfl
structure Ex (w : World) (A : Option Addr) (x y : Kr) : Prop where
  row : RowOf krC 3 w A [x, y]
  ix : KrIn w x
  iy : KrIn w y
  xs : x.seeds = [700, 5]
  xt : x.salt = ⟨#[97]⟩
  xr : x.random = [1, 2]
  ys : y.seeds = [50, 719]
  yt : y.salt = ⟨#[98]⟩
  yr : y.random = [3, 4]
theorem kints_new (w : World) (a b : Int) (g : Nat) (hg : g = w.heap.size) : Ints (w.alloc (.cells #[.int .i64 a, .int .i64 b] 3)) (some ⟨g, 0, none⟩) [a, b] :=
  Rd_new w #[.int .i64 a, .int .i64 b] 3 1 2 g rfl hg
set_option maxRecDepth 100000 in
set_option maxHeartbeats 8000000 in
theorem kex_any (w : World) : Calls Tryz.prog 41 #[] w fun e w' => ∃ A x y, e = .returned (.slice A 2 2) ∧ Ex w' A x y ∧ Below w.heap.size w w' := by
  go_enter Tryz.func41, Tryz.ntmps41
  go_wp2
  go_ret
  refine ⟨_, ⟨some ⟨w.heap.size, 0, none⟩, 2, [700, 5], ⟨#[97]⟩, some ⟨w.heap.size + 1, 0, none⟩, 2, [1, 2]⟩, ⟨some ⟨w.heap.size + 2, 0, none⟩, 2, [50, 719], ⟨#[98]⟩, some ⟨w.heap.size + 3, 0, none⟩, 2, [3, 4]⟩, rfl, ?_, ?_⟩
  · refine ⟨?_, ⟨?_, ?_, (show (2 : Nat) ≤ 9223372036854775807 by decide), (show (2 : Nat) ≤ 9223372036854775807 by decide), Nat.le_refl 2, Nat.le_refl 2, (show (1 : Nat) ≤ 9223372036854775807 by decide), (show (2 : Nat) ≤ 9223372036854775807 by decide), (show (2 : Nat) ≤ 9223372036854775807 by decide)⟩, ⟨?_, ?_, (show (2 : Nat) ≤ 9223372036854775807 by decide), (show (2 : Nat) ≤ 9223372036854775807 by decide), Nat.le_refl 2, Nat.le_refl 2, (show (1 : Nat) ≤ 9223372036854775807 by decide), (show (2 : Nat) ≤ 9223372036854775807 by decide), (show (2 : Nat) ≤ 9223372036854775807 by decide)⟩, rfl, rfl, rfl, rfl, rfl, rfl⟩
    · exact Rd_new _ #[.slice (some ⟨w.heap.size, 0, none⟩) 2 2, .string ⟨#[97]⟩, .slice (some ⟨w.heap.size + 1, 0, none⟩) 2 2, .slice (some ⟨w.heap.size + 2, 0, none⟩) 2 2, .string ⟨#[98]⟩, .slice (some ⟨w.heap.size + 3, 0, none⟩) 2 2] 27 3 2 _ rfl (by simp)
    · exact (kints_new w 700 5 _ rfl).below (below_alloc (below_alloc (below_alloc (below_alloc (Below.refl _ _) _) _) _) _)
    · exact (kints_new _ 1 2 _ (by simp)).below (below_alloc (below_alloc (below_alloc (Below.refl _ _) _) _) _)
    · exact (kints_new _ 50 719 _ (by simp)).below (below_alloc (below_alloc (Below.refl _ _) _) _)
    · exact (kints_new _ 3 4 _ (by simp)).below (below_alloc (Below.refl _ _) _)
  · exact below_alloc (below_alloc (below_alloc (below_alloc (below_alloc (Below.refl _ _) _) _) _) _) _
end

section
open Go.RowKit

theorem Ex.ok {w : World} {A : Option Addr} {x y : Kr} (h : Ex w A x y) : okK 2 2 0 x = true ∧ okK 2 2 0 y = true ∧ okK 2 2 1 x = true ∧ okK 2 2 1 y = true := by
  unfold okK
  rw [h.xs, h.xt, h.xr, h.ys, h.yt, h.yr]
  exact ⟨by decide, by decide, by decide, by decide⟩
theorem og_fit {m : Nat} {need i : Int} {kr : Kr} (h : okK m need i kr = true) {w : World} {A : Option Addr} {c : Nat} (hp : PathIn w A (pt (ksL kr.seeds kr.salt) i.toNat)) : OgFit w (ogOf kr i.toNat A c) := by
  obtain ⟨v, hv, h0, h1, hi, hil, h6⟩ := okK_seed h
  have hpl : (pt (ksL kr.seeds kr.salt) i.toNat).length ≤ 600 := by
    rw [pt_len, ksL_length]
    have := plen_lt_n kr.seeds.length i.toNat (by omega)
    omega
  have hsm := allD_sm' (allD_pt (ksL kr.seeds kr.salt) i.toNat (ksL_D _ _))
  refine ⟨hp.1, by show (pt (ksL kr.seeds kr.salt) i.toNat).length ≤ _; omega, fun s hs => by have := hsm s hs; omega, by show (dg _).size ≤ _; rw [dg_size]; omega, ⟨?_, ?_⟩, ⟨?_, ?_⟩⟩
  · show _ ≤ ((i.toNat : Nat) : Int); omega
  · show ((i.toNat : Nat) : Int) ≤ _; omega
  · show _ ≤ kr.seeds[i.toNat]?.getD 0; rw [hv]; show _ ≤ v; omega
  · show kr.seeds[i.toNat]?.getD 0 ≤ _; rw [hv]; show v ≤ _; omega
theorem kp_fit {m : Nat} {need i : Int} {kr : Kr} (h : okK m need i kr = true) {w : World} {A : Option Addr} {c j : Nat} (hj : j < m) (hp : PathIn w A (kpOf kr need.toNat m i.toNat j A c).p) : KpFit w (kpOf kr need.toNat m i.toNat j A c) := by
  obtain ⟨v, hv, h0, h1, hi, hil, h6⟩ := okK_seed h
  obtain ⟨n, rfl, hok⟩ := okK_num h
  have hm7 := hok.m7
  have hlm : kr.seeds.length * m ≤ 4200 := Nat.le_trans (Nat.mul_le_mul h6 hm7) (by omega)
  have him : i.toNat * m + j < kr.seeds.length * m := by
    have : (i.toNat + 1) * m ≤ kr.seeds.length * m := Nat.mul_le_mul_right m hil
    rw [Nat.add_mul, Nat.one_mul] at this
    omega
  have hpl : (kpOf kr (n : Int).toNat m i.toNat j A c).p.length ≤ 4200 := by
    show (pt (khP _ _ _ _ _) _).length ≤ _
    rw [pt_len, khP_length]
    have := plen_lt_n (kr.seeds.length * m) (i.toNat * m + j) (by omega)
    omega
  have hsm := allD_sm' (allD_pt (khP kr.seeds (n : Int).toNat m kr.random kr.seeds.length) (i.toNat * m + j) (khP_D _ _ _ _ _))
  have her := evp_range (kpoly kr.seeds (n : Int).toNat kr.random i.toNat) ((j : Int) + 1)
  refine ⟨hp.1, by omega, fun s hs => by have := hsm s hs; omega, ⟨?_, ?_⟩, ⟨?_, ?_⟩, ⟨?_, ?_⟩⟩
  · show _ ≤ ((i.toNat : Nat) : Int); omega
  · show ((i.toNat : Nat) : Int) ≤ _; omega
  · show _ ≤ (j : Int) + 1; omega
  · show (j : Int) + 1 ≤ _; omega
  · show _ ≤ evp (kpoly kr.seeds (n : Int).toNat kr.random i.toNat) ((j : Int) + 1); omega
  · show evp (kpoly kr.seeds (n : Int).toNat kr.random i.toNat) ((j : Int) + 1) ≤ _; omega
/-- What open answers fits a draw. -/
theorem NightRes.fit {l : List Kr} {need i : Int} {w : World} {CA OA KA : Option Addr} {cc oc kc : Nat} {os : List Og} {ks : List Kw} (h : NightRes l need i w CA cc OA oc KA kc os ks) (ha : l.all (okK l.length need i) = true) (hl : l.length ≤ 7) :
    DrFit w CA (l.map (cmK l.length need)) OA os KA ks := by
  have hok := List.all_eq_true.1 ha
  refine ⟨h.c, h.o, h.k, fun o ho => ?_, fun a hk => ?_, by rw [List.length_map]; omega, by rw [h.ok.ol]; omega, by rw [h.ok.kl]; omega⟩
  · have hp := (h.mem.1 o ho).1
    obtain ⟨j, hj⟩ := List.getElem?_of_mem ho
    have hjl : j < l.length := by have := (List.getElem?_eq_some_iff.1 hj).1; rw [h.ok.ol] at this; exact this
    obtain ⟨kr, hkr⟩ := get_some l j hjl
    obtain ⟨A, c, he⟩ := h.ok.o j kr hjl hkr
    rw [hj] at he
    cases he
    exact og_fit (hok kr (List.mem_of_getElem? hkr)) hp
  · obtain ⟨hr, -, hp⟩ := h.mem.2 a hk
    obtain ⟨j, hj⟩ := List.getElem?_of_mem hk
    have hjl : j < l.length := by have := (List.getElem?_eq_some_iff.1 hj).1; rw [h.ok.kl] at this; exact this
    obtain ⟨kr, hkr⟩ := get_some l j hjl
    obtain ⟨a', he, hks⟩ := h.ok.k j kr hjl hkr
    rw [hj] at he
    cases he
    refine ⟨hr, fun k hkm => ?_, by rw [hks.1]; omega⟩
    have hpk := hp k hkm
    obtain ⟨q, A, c, hq, rfl⟩ := hks.each hkm
    exact kp_fit (hok kr (List.mem_of_getElem? hkr)) hq hpk
end

section
open Go.RowKit

/-- The sum of the first keepers' seeds for a slot. -/
def sds (l : List Kr) (i : Nat) : Nat → Int
  | 0 => 0
  | k + 1 => sds l i k + ((l[k]?.bind fun kr => kr.seeds[i]?).getD 0)
theorem night_len {l : List Kr} {need i : Int} {w : World} {CA OA KA : Option Addr} {cc oc kc : Nat} {os : List Og} {ks : List Kw} (h : NightRes l need i w CA cc OA oc KA kc os ks) (n : Int) :
    (krs (l.map (cmK l.length need)) n i os (ks.map (·.l)) need).length = l.length := by
  unfold krs
  rw [List.length_map, List.length_zip, List.length_zip, List.length_map, List.length_map, h.ok.ol, h.ok.kl, Nat.min_self, Nat.min_self]
theorem night_krs {l : List Kr} {need i : Int} {w : World} {CA OA KA : Option Addr} {cc oc kc : Nat} {os : List Og} {ks : List Kw} (h : NightRes l need i w CA cc OA oc KA kc os ks) (ha : l.all (okK l.length need i) = true) (n : Nat) (hn : ∀ kr, kr ∈ l → kr.seeds.length = n) {k : Nat} {kr : Kr} (hk : l[k]? = some kr) :
    (krs (l.map (cmK l.length need)) (n : Int) i os (ks.map (·.l)) need)[k]? = some (kr.seeds[i.toNat]?.getD 0, 0, false) := by
  have hkl : k < l.length := (List.getElem?_eq_some_iff.1 hk).1
  have hm := List.mem_of_getElem? hk
  obtain ⟨A, c, ho⟩ := h.ok.o k kr hkl hk
  obtain ⟨a, ha', -⟩ := h.ok.k k kr hkl hk
  have h1 : (l.map (cmK l.length need))[k]? = some (cmK l.length need kr) := by rw [List.getElem?_map, hk]; rfl
  have h2 : (ks.map (·.l))[k]? = some a.l := by rw [List.getElem?_map, ha']; rfl
  rw [krs_get h1 ho h2, ← hn kr hm, kone_own (List.all_eq_true.1 ha kr hm)]
theorem night_draw {l : List Kr} {need i : Int} {w : World} {CA OA KA : Option Addr} {cc oc kc : Nat} {os : List Og} {ks : List Kw} (h : NightRes l need i w CA cc OA oc KA kc os ks) (ha : l.all (okK l.length need i) = true) (n : Nat) (hn : ∀ kr, kr ∈ l → kr.seeds.length = n) :
    kall (krs (l.map (cmK l.length need)) (n : Int) i os (ks.map (·.l)) need) = (sds l i.toNat l.length % 720, [], 0) := by
  have hlen := night_len h (n : Int)
  have hat := fun (k : Nat) (kr : Kr) (hk : l[k]? = some kr) => night_krs h ha n hn hk
  generalize krs (l.map (cmK l.length need)) (n : Int) i os (ks.map (·.l)) need = rs at *
  have h0 : ∀ (k : Nat) (r : Int × Int × Bool), rs[k]? = some r → r.2.1 = 0 := fun k r hr => by
    have hkl : k < l.length := by rw [← hlen]; exact (List.getElem?_eq_some_iff.1 hr).1
    obtain ⟨kr, hkr⟩ := get_some l k hkl
    rw [hat k kr hkr] at hr
    cases hr
    rfl
  have hs : ∀ k, k ≤ l.length → ksum rs k = sds l i.toNat k % 720 ∧ kwh rs k = [] := fun k => by
    induction k with
    | zero => intro _; exact ⟨rfl, rfl⟩
    | succ k ih =>
      intro hk
      obtain ⟨i1, i2⟩ := ih (by omega)
      obtain ⟨kr, hkr⟩ := get_some l k (by omega)
      refine ⟨?_, ?_⟩
      · simp only [ksum, sds, hat k kr hkr, hkr, i1, Option.map_some, Option.getD_some, Option.bind_some]
        omega
      · simp only [kwh, hat k kr hkr, i2, Option.map_some, Option.getD_some]
        rfl
  rw [kall_ok h0, hlen, (hs _ (Nat.le_refl _)).1, (hs _ (Nat.le_refl _)).2]
end

section
open Go.RowKit

theorem Ex.all {w : World} {A : Option Addr} {x y : Kr} (h : Ex w A x y) {i : Int} (hi : i = 0 ∨ i = 1) : ([x, y] : List Kr).all (okK ([x, y] : List Kr).length 2 i) = true := by
  obtain ⟨a, b, c, d⟩ := h.ok
  show ([x, y] : List Kr).all (okK 2 2 i) = true
  rcases hi with rfl | rfl
  · rw [List.all_cons, List.all_cons, a, b]; rfl
  · rw [List.all_cons, List.all_cons, c, d]; rfl
theorem Ex.len {w : World} {A : Option Addr} {x y : Kr} (h : Ex w A x y) : ∀ kr, kr ∈ ([x, y] : List Kr) → kr.seeds.length = 2 := fun kr hk => by
  rcases List.mem_cons.1 hk with rfl | hk
  · rw [h.xs]; rfl
  · rw [List.mem_singleton.1 hk, h.ys]; rfl
theorem Ex.sum {w : World} {A : Option Addr} {x y : Kr} (h : Ex w A x y) : sds [x, y] 0 2 % 720 = 30 ∧ sds [x, y] 1 2 % 720 = 4 := by
  constructor
  · simp [sds, h.xs, h.ys]
  · simp [sds, h.xs, h.ys]
theorem jfd_pair (root : ByteArray) (n kp i : Int) (k : Kp) : (jfd root n kp i [k, k]).length ≤ 1 := by
  unfold jfd
  rw [List.foldl_cons, List.foldl_cons, List.foldl_nil]
  cases hg : kgood root n kp i k with
  | false => simp [jst, hg]
  | true => simp [jst, hg]
theorem kopen_ex (i : Int) (hi : i = 0 ∨ i = 1) {w : World} {A : Option Addr} {x y : Kr} (h : Ex w A x y) (hT : Tabs w) :
    Calls Tryz.prog 34 #[.slice A 2 2, .int .i64 2, .int .i64 i] w fun e w' => ∃ CA cc OA oc KA kc os ks, e = .returned (.tuple #[.agg #[.slice CA 2 cc, .slice OA 2 oc, .slice KA 2 kc], .bool true]) ∧ NightRes [x, y] 2 i w' CA cc OA oc KA kc os ks ∧ Below w.heap.size w w' := by
  have ha := h.all hi
  refine (kopen_walk A 2 [x, y] 2 i w h.row (fun kr hk => ?_) (show 2 ≤ 7 by decide) hT).mono ?_
  · rcases List.mem_cons.1 hk with rfl | hk
    · exact h.ix
    · rw [List.mem_singleton.1 hk]; exact h.iy
  · rintro e w' ⟨hb, ⟨hf, -⟩ | ⟨-, CA, cc, OA, oc, KA, kc, os, ks, rfl, hres⟩⟩
    · rw [ha] at hf
      cases hf
    · exact ⟨CA, cc, OA, oc, KA, kc, os, ks, rfl, hres, hb⟩
end

section
open Go.RowKit

theorem ex_less {w : World} {A : Option Addr} {x y : Kr} (h : Ex w A x y) (A0 : Option Addr) (c0 : Nat) (z : Og) (hz : z.salt = ⟨#[]⟩) (l0 l1 : List Kp) :
    krs (([x, y] : List Kr).map (cmK 2 2)) 2 1 [ogOf x 1 A0 c0, z] [l0, l1] 2 = [(5, 0, false), ((kjn (cmK 2 2 y).2 2 2 1 l1 2).1, (kjn (cmK 2 2 y).2 2 2 1 l1 2).2, true)] := by
  have h1 := kone_own h.ok.2.2.1 A0 c0 2 l0 2
  rw [h.len x (by simp), h.xs] at h1
  have h2 : kone (cmK 2 2 y) 2 2 1 z l1 2 = ((kjn (cmK 2 2 y).2 2 2 1 l1 2).1, (kjn (cmK 2 2 y).2 2 2 1 l1 2).2, true) := by
    unfold kone
    rw [if_neg (fun hc => by rw [hz, ck_empty] at hc; exact absurd hc.2 (by simp))]
  show [kone (cmK 2 2 x) 2 2 1 (ogOf x 1 A0 c0) l0 2, kone (cmK 2 2 y) 2 2 1 z l1 2] = _
  rw [h2]
  exact congrArg (· :: _) h1
theorem ex_kall4 : kall [(5, 0, false), (719, 0, true)] = (4, [1], 0) := by decide
theorem ex_kall25 : kall [(5, 0, false), (0, 25, true)] = (0, [], 25) := by decide
theorem ex_held {w : World} {A : Option Addr} {x y : Kr} (h : Ex w A x y) (A0 : Option Addr) (c0 : Nat) (z : Og) (hz : z.salt = ⟨#[]⟩) (l0 l1 : List Kp) (hl : KpsOk y 2 2 1 2 l1) :
    kall (krs (([x, y] : List Kr).map (cmK 2 2)) 2 1 [ogOf x 1 A0 c0, z] [l0, l1] 2) = (4, [1], 0) := by
  have hj := kjn_own h.ok.2.2.2 (l := l1) (fun k hk => by obtain ⟨q, B, d, hq, he⟩ := hl.each hk; exact ⟨q, B, d, hq, he⟩) hl.nodup
  rw [h.len y (by simp), hl.1, h.ys, if_neg (by decide)] at hj
  have hj' : kjn (cmK 2 2 y).2 2 2 1 l1 2 = (719, 0) := hj
  rw [ex_less h A0 c0 z hz, hj']
  exact ex_kall4
theorem ex_one {w : World} {A : Option Addr} {x y : Kr} (h : Ex w A x y) (A0 : Option Addr) (c0 : Nat) (z : Og) (hz : z.salt = ⟨#[]⟩) (l0 : List Kp) (k : Kp) :
    kall (krs (([x, y] : List Kr).map (cmK 2 2)) 2 1 [ogOf x 1 A0 c0, z] [l0, [k]] 2) = (0, [], 25) := by
  have hj : kjn (cmK 2 2 y).2 2 2 1 [k] 2 = (0, 25) := kjn_few (by
    have : (jfd (cmK 2 2 y).2 2 2 1 [k]).length ≤ 1 := (jst_sub (cmK 2 2 y).2 2 2 1 [] k).1
    omega)
  rw [ex_less h A0 c0 z hz, hj]
  exact ex_kall25
theorem ex_twice {w : World} {A : Option Addr} {x y : Kr} (h : Ex w A x y) (A0 : Option Addr) (c0 : Nat) (z : Og) (hz : z.salt = ⟨#[]⟩) (l0 : List Kp) (k : Kp) :
    kall (krs (([x, y] : List Kr).map (cmK 2 2)) 2 1 [ogOf x 1 A0 c0, z] [l0, [k, k]] 2) = (0, [], 25) := by
  have hj : kjn (cmK 2 2 y).2 2 2 1 [k, k] 2 = (0, 25) := kjn_few (by
    have := jfd_pair (cmK 2 2 y).2 2 2 1 k
    omega)
  rw [ex_less h A0 c0 z hz, hj]
  exact ex_kall25
theorem ex_first {w : World} {A : Option Addr} {x y : Kr} (h : Ex w A x y) (B : Option Addr) (d : Nat) : (kpOf y 2 2 1 0 B d).ix = 1 ∧ (kpOf y 2 2 1 0 B d).s = (1, 723) := by
  refine ⟨rfl, ?_⟩
  show ((0 : Int) + 1, evp (kpoly y.seeds 2 y.random 1) ((0 : Int) + 1)) = (1, 723)
  rw [h.ys, h.yr]
  decide
end

section
open Go.RowKit

theorem kdraw_night {l : List Kr} {need i : Int} {w0 : World} {CA OA KA : Option Addr} {cc oc kc : Nat} {os : List Og} {ks : List Kw} (h : NightRes l need i w0 CA cc OA oc KA kc os ks) (ha : l.all (okK l.length need i) = true) (hl : l.length ≤ 7) (h1 : 1 ≤ l.length) (n : Nat) (hn : ∀ kr, kr ∈ l → kr.seeds.length = n)
    (w : World) (hf : DrFit w CA (l.map (cmK l.length need)) OA os KA ks) (hT : Tabs w) :
    Calls Tryz.prog 25 #[.slice CA l.length cc, .int .i64 n, .int .i64 i, .slice OA l.length oc, .slice KA l.length kc, .int .i64 need] w fun e w' => ∃ A c, e = .returned (.tuple #[.int .i64 (sds l i.toNat l.length % 720), .slice A 0 c, .int .i64 0]) ∧ Below w.heap.size w w' := by
  obtain ⟨kr, hkr⟩ := get_some l 0 (by omega)
  have hm := List.mem_of_getElem? hkr
  have hok := List.all_eq_true.1 ha kr hm
  obtain ⟨v, hv, -, -, hi, hil, h6⟩ := okK_seed hok
  rw [hn kr hm] at hil h6
  have hd := night_draw h ha n hn
  obtain ⟨nd, hnd, hdv⟩ := okK_num hok
  have := kdraw_ok CA cc (l.map (cmK l.length need)) n i.toNat OA oc os KA kc ks nd w hf (by rw [List.length_map]; exact h1) (by rw [List.length_map]; exact hl) h6 hil hdv.one (by rw [List.length_map]; exact hdv.le) (by rw [List.length_map]; exact h.ok.ol) (by rw [List.length_map]; exact h.ok.kl) hT
  rw [hi, ← hnd, hd, List.length_map, h.ok.ol, h.ok.kl] at this
  refine this.mono ?_
  rintro e w' ⟨v, rfl, hown, hb⟩
  obtain ⟨A, c, rfl, -, -, -⟩ := Rd.of_own hown
  exact ⟨A, c, rfl, hb⟩
end

section
open Go.RowKit

theorem kdraw_two {x y : Kr} {w : World} {CA OA KA : Option Addr} {cc oc kc : Nat} {o0 o1 : Og} {k0 k1 : Kw} (r : Int × List Int × Int) (hf : DrFit w CA (([x, y] : List Kr).map (cmK 2 2)) OA [o0, o1] KA [k0, k1])
    (hr : kall (krs (([x, y] : List Kr).map (cmK 2 2)) 2 1 [o0, o1] [k0.l, k1.l] 2) = r) (hT : Tabs w) :
    Calls Tryz.prog 25 #[.slice CA 2 cc, .int .i64 2, .int .i64 1, .slice OA 2 oc, .slice KA 2 kc, .int .i64 2] w fun e w' => ∃ v, e = .returned (.tuple #[.int .i64 r.1, v, .int .i64 r.2.2]) ∧ w'.ownsRow w.heap.size 3 1 v r.2.1.length (r.2.1.map (Value.int .i64)) ∧ Below w.heap.size w w' := by
  subst hr
  exact kdraw_ok CA cc (([x, y] : List Kr).map (cmK 2 2)) 2 1 OA oc [o0, o1] KA kc [k0, k1] 2 w hf (show 1 ≤ 2 by decide) (show 2 ≤ 7 by decide) (by decide) (by decide) (by decide) (show 2 ≤ 2 by decide) rfl rfl hT
end

section
open Go.RowKit
set_option maxRecDepth 100000 in
set_option maxHeartbeats 16000000 in
theorem khead_any (w : World) (hT : Tabs w) : Calls Tryz.prog 16 #[] w fun e w' => e = .returned (.bool true) ∧ Below w.heap.size w w' := by
  have HT : Hid (∀ W, Below w.heap.size w W → Tabs W) := Lib.hid (fun W hW => hT.below hW)
  clear hT
  go_enter Tryz.func16, Tryz.ntmps16
  go_wp2_with fail
  refine (kex_any w).mono ?_
  rintro e w1 ⟨A1, x1, y1, rfl, hx1, hb1⟩
  have HX1 := Lib.hid hx1
  have HB1 := Lib.hid hb1
  clear hx1 hb1
  go_wp2_with fail
  refine (kopen_ex 0 (.inl rfl) HX1.out (HT.out w1 HB1.out)).mono ?_
  rintro e w2 ⟨CA1, cc1, OA1, oc1, KA1, kc1, os1, ks1, rfl, hr1, hb2⟩
  have HR1 := Lib.hid hr1
  have HB2 := Lib.hid (below_trans HB1.out hb2)
  clear hr1 hb2
  obtain ⟨w3, hw3⟩ : ∃ w3, w2.alloc (.cells #[.slice CA1 2 cc1, .slice OA1 2 oc1, .slice KA1 2 kc1] 69) = w3 := ⟨_, rfl⟩
  have HB3 : Hid (Below w.heap.size w w3) := Lib.hid (by rw [← hw3]; exact below_alloc HB2.out _)
  have HN1 : Hid (Blk w3 w2.heap.size 69 #[.slice CA1 2 cc1, .slice OA1 2 oc1, .slice KA1 2 kc1]) := Lib.hid (by rw [← hw3]; exact Blk.new _ _ _ _ rfl)
  have HF1 : Hid (DrFit w3 CA1 (([x1, y1] : List Kr).map (cmK 2 2)) OA1 os1 KA1 ks1) := Lib.hid (by rw [← hw3]; exact (HR1.out.fit (HX1.out.all (.inl rfl)) (show 2 ≤ 7 by decide)).below (below_alloc (Below.refl _ _) _))
  go_wp2_with fail
  refine (kex_any w3).mono ?_
  rintro e w4 ⟨A2, x2, y2, rfl, hx2, hb4⟩
  have HX2 := Lib.hid hx2
  have HB4 := Lib.hid hb4
  clear hx2 hb4
  go_wp2_with fail
  refine (kopen_ex 1 (.inr rfl) HX2.out (HT.out w4 (below_trans HB3.out HB4.out))).mono ?_
  rintro e w5 ⟨CA2, cc2, OA2, oc2, KA2, kc2, os2, ks2, rfl, hr2, hb5⟩
  have HR2 := Lib.hid hr2
  have HB5 := Lib.hid (below_trans (below_trans HB3.out HB4.out) hb5)
  have HB35 := Lib.hid (below_trans HB4.out hb5)
  clear hr2 hb5
  obtain ⟨w6, hw6⟩ : ∃ w6, w5.alloc (.cells #[.slice CA2 2 cc2, .slice OA2 2 oc2, .slice KA2 2 kc2] 69) = w6 := ⟨_, rfl⟩
  have HB6 : Hid (Below w.heap.size w w6) := Lib.hid (by rw [← hw6]; exact below_alloc HB5.out _)
  have HB36 : Hid (Below w3.heap.size w3 w6) := Lib.hid (by rw [← hw6]; exact below_alloc HB35.out _)
  have HN2 : Hid (Blk w6 w5.heap.size 69 #[.slice CA2 2 cc2, .slice OA2 2 oc2, .slice KA2 2 kc2]) := Lib.hid (by rw [← hw6]; exact Blk.new _ _ _ _ rfl)
  have HF2 : Hid (DrFit w6 CA2 (([x2, y2] : List Kr).map (cmK 2 2)) OA2 os2 KA2 ks2) := Lib.hid (by rw [← hw6]; exact (HR2.out.fit (HX2.out.all (.inr rfl)) (show 2 ≤ 7 by decide)).below (below_alloc (Below.refl _ _) _))
  have HN6 : Hid (Blk w6 w2.heap.size 69 #[.slice CA1 2 cc1, .slice OA1 2 oc1, .slice KA1 2 kc1]) := Lib.hid ((HB36.out.block _ HN1.out.lt).trans HN1.out)
  have HF6 := Lib.hid (HF1.out.below HB36.out)
  have a0 := HN6.out.of_cell (i := 0) rfl
  have a1 := HN6.out.of_cell (i := 1) rfl
  have a2 := HN6.out.of_cell (i := 2) rfl
  have al := HN6.out.lt
  go_wp2_with fail
  refine (kdraw_night HR1.out (HX1.out.all (.inl rfl)) (show 2 ≤ 7 by decide) (show 1 ≤ 2 by decide) 2 HX1.out.len w6 HF6.out (HT.out w6 HB6.out)).mono ?_
  rintro e w7 ⟨WA1, wc1, rfl, hb7⟩
  have HS1 : Hid (sds [x1, y1] (0 : Int).toNat ([x1, y1] : List Kr).length % 720 = 30) := Lib.hid HX1.out.sum.1
  rw [HS1.out]
  have HN7 : Hid (Blk w7 w5.heap.size 69 #[.slice CA2 2 cc2, .slice OA2 2 oc2, .slice KA2 2 kc2]) := Lib.hid ((hb7.block _ HN2.out.lt).trans HN2.out)
  have HF7 := Lib.hid (HF2.out.below hb7)
  have HB7 := Lib.hid (below_trans HB6.out hb7)
  clear hb7 a0 a1 a2 al
  have a0 := HN7.out.of_cell (i := 0) rfl
  have a1 := HN7.out.of_cell (i := 1) rfl
  have a2 := HN7.out.of_cell (i := 2) rfl
  have al := HN7.out.lt
  go_wp2_with fail
  refine (kdraw_night HR2.out (HX2.out.all (.inr rfl)) (show 2 ≤ 7 by decide) (show 1 ≤ 2 by decide) 2 HX2.out.len w7 HF7.out (HT.out w7 HB7.out)).mono ?_
  rintro e w8 ⟨WA2, wc2, rfl, hb8⟩
  have HN8 : Hid (Blk w8 w5.heap.size 69 #[.slice CA2 2 cc2, .slice OA2 2 oc2, .slice KA2 2 kc2]) := Lib.hid ((hb8.block _ HN7.out.lt).trans HN7.out)
  have HF8 := Lib.hid (HF7.out.below hb8)
  have HB8 := Lib.hid (below_trans HB7.out hb8)
  have HS2 : Hid (sds [x2, y2] (1 : Int).toNat ([x2, y2] : List Kr).length % 720 = 4) := Lib.hid HX2.out.sum.2
  rw [HS2.out]
  clear hb8 a0 a1 a2 al
  obtain ⟨o0, o1, rfl⟩ : ∃ o0 o1, os2 = [o0, o1] := by
    have := HR2.out.ok.ol
    match os2, this with
    | [a, b], _ => exact ⟨a, b, rfl⟩
  obtain ⟨A0, c0, h0⟩ := HR2.out.ok.o 0 x2 (show 0 < 2 by decide) rfl
  obtain rfl : o0 = ogOf x2 1 A0 c0 := Option.some.inj h0
  obtain ⟨bo, oo, rfl, hoc⟩ := HF8.out.o.at_ ogC_len (k := 0) (a := ogOf x2 1 A0 c0) rfl
  have q0 := hoc 0 _ rfl
  have q1 := hoc 1 _ rfl
  have q2 := hoc 2 _ rfl
  have q3 := hoc 3 _ rfl
  have ql := lt_of_cell q0
  simp only [Nat.zero_mul, Nat.add_zero] at q0 q1 q2 q3
  have a0 := HN8.out.of_cell (i := 0) rfl
  have a1 := HN8.out.of_cell (i := 1) rfl
  have a2 := HN8.out.of_cell (i := 2) rfl
  have al := HN8.out.lt
  clear hoc h0
  go_wp2_with fail
  clear q0 q1 q2 q3 ql a0 a1 a2 al
  obtain ⟨k0, k1, rfl⟩ : ∃ k0 k1, ks2 = [k0, k1] := by
    have := HR2.out.ok.kl
    match ks2, this with
    | [a, b], _ => exact ⟨a, b, rfl⟩
  have hk1 : KpsOk y2 2 2 1 2 k1.l := by
    obtain ⟨a, he, h⟩ := HR2.out.ok.k 1 y2 (show 1 < 2 by decide) rfl
    obtain rfl : k1 = a := Option.some.inj he
    exact h
  have HK1 := Lib.hid hk1
  clear hk1
  have HZ : Hid (∀ W, OgFit W ⟨0, 0, ⟨#[]⟩, none, 0, []⟩) := Lib.hid (fun W => ⟨⟨rfl, fun h => absurd h (by decide)⟩, Nat.zero_le _, fun s hs => (by cases hs), Nat.zero_le _, ⟨by decide, by decide⟩, ⟨by decide, by decide⟩⟩)
  have HB9 : Hid (∀ o, Below w8.heap.size w8 (w8.alloc o)) := Lib.hid (fun o => below_alloc (Below.refl _ _) o)
  have HL9 : Hid (∀ (W : World), W = w8.alloc (.cells #[.int .i64 ((ogOf x2 1 A0 c0).ix), .int .i64 ((ogOf x2 1 A0 c0).v), .string ((ogOf x2 1 A0 c0).salt), .slice A0 (ogOf x2 1 A0 c0).p.length c0, .int .i64 0, .int .i64 0, .string ⟨#[]⟩, .slice none 0 0] 32) → DrFit W CA2 (([x2, y2] : List Kr).map (cmK 2 2)) (some ⟨w8.heap.size, 0, none⟩) [ogOf x2 1 A0 c0, ⟨0, 0, ⟨#[]⟩, none, 0, []⟩] KA2 [k0, k1]) := Lib.hid (fun W hW => by
    have hbW : Below w8.heap.size w8 W := by rw [hW]; exact HB9.out _
    have hf := HF8.out.below hbW
    refine ⟨hf.c, ?_, hf.k, fun o ho => ?_, hf.kw, hf.cl, hf.ol, hf.kl⟩
    · rw [hW]; exact Rd_new w8 _ _ 4 2 _ rfl rfl
    · rcases List.mem_cons.1 ho with rfl | ho
      · exact hf.og _ (by simp)
      · rw [List.mem_singleton.1 ho]; exact HZ.out _)
  refine (kdraw_two (4, [1], 0) (HL9.out _ rfl) (ex_held HX2.out A0 c0 ⟨0, 0, ⟨#[]⟩, none, 0, []⟩ rfl k0.l k1.l HK1.out) (HT.out _ (below_trans HB8.out (HB9.out _)))).mono ?_
  rintro e w10 ⟨v10, rfl, ho10, hb10⟩
  obtain ⟨A10, c10, rfl, -, -, hi10⟩ := Rd.of_own ho10
  have HI10 : Hid (Ints w10 A10 [1]) := Lib.hid hi10
  clear hi10
  have hb8a : Below w8.heap.size w8 w10 := below_trans (HB9.out _) hb10
  have HB10 := Lib.hid (below_trans HB8.out hb8a)
  have HN10 : Hid (Blk w10 w5.heap.size 69 #[.slice CA2 2 cc2, .slice (some ⟨bo, oo, none⟩) 2 oc2, .slice KA2 2 kc2]) := Lib.hid ((hb8a.block _ HN8.out.lt).trans HN8.out)
  have HF10 := Lib.hid (HF8.out.below hb8a)
  have HL10 := Lib.hid ((HL9.out _ rfl).below hb10)
  clear hb8a hb10 ho10
  obtain ⟨bk, ok_, rfl, hkc⟩ := HF10.out.k.at_ kwC_len (k := 1) (a := k1) rfl
  have r0 := hkc 0 _ rfl
  obtain ⟨s0, s1, hs⟩ : ∃ s0 s1, k1.l = [s0, s1] := by
    have := HK1.out.1
    match k1.l, this with
    | [a, b], _ => exact ⟨a, b, rfl⟩
  have hrow := (HF10.out.kw k1 (by simp)).row
  rw [hs] at hrow
  obtain ⟨b1, off1, hA1, hsc⟩ := hrow.at_ kpC_len (k := 0) (a := s0) rfl
  have p0 := hsc 0 _ rfl
  have p1 := hsc 1 _ rfl
  have p2 := hsc 2 _ rfl
  have p3 := hsc 3 _ rfl
  have pl := lt_of_cell p0
  have rl := lt_of_cell r0
  rw [hA1, hs] at r0
  simp only [Nat.zero_mul, Nat.add_zero] at p0 p1 p2 p3 r0
  have a0 := HN10.out.of_cell (i := 0) rfl
  have a1 := HN10.out.of_cell (i := 1) rfl
  have a2 := HN10.out.of_cell (i := 2) rfl
  have al := HN10.out.lt
  clear hkc hsc hrow
  go_wp2_with fail
  clear p0 p1 p2 p3 pl rl r0 a0 a1 a2 al
  have HS0 : Hid (∀ W, Below w10.heap.size w10 W → KpFit W s0) := Lib.hid (fun W hW => ((HF10.out.kw k1 (by simp)).each s0 (by rw [hs]; simp)).below hW)
  have HL11 : Hid (∀ (W : World), W = ((w10.alloc (.cells #[.int .i64 s0.ix, .int .i64 s0.s.1, .int .i64 s0.s.2, .slice s0.A s0.p.length s0.c] 50)).alloc (.cells #[.int .i64 s0.ix, .int .i64 s0.s.1, .int .i64 s0.s.2, .slice s0.A s0.p.length s0.c] 50)).alloc (.cells #[.slice none 0 0, .slice (some ⟨w10.heap.size + 1, 0, none⟩) 1 1] 33) → Below w10.heap.size w10 W ∧ DrFit W CA2 (([x2, y2] : List Kr).map (cmK 2 2)) (some ⟨w8.heap.size, 0, none⟩) [ogOf x2 1 A0 c0, ⟨0, 0, ⟨#[]⟩, none, 0, []⟩] (some ⟨w10.heap.size + 2, 0, none⟩) [⟨none, 0, []⟩, ⟨some ⟨w10.heap.size + 1, 0, none⟩, 1, [s0]⟩]) := Lib.hid (fun W hW => by
    have hbW : Below w10.heap.size w10 W := by rw [hW]; exact below_alloc (below_alloc (below_alloc (Below.refl _ _) _) _) _
    have hf := HL10.out.below hbW
    refine ⟨hbW, hf.c, hf.o, ?_, hf.og, fun k hk => ?_, hf.cl, hf.ol, (show 2 ≤ 9223372036854775807 by decide)⟩
    · rw [hW]; exact Rd_new _ #[.slice none 0 0, .slice (some ⟨w10.heap.size + 1, 0, none⟩) 1 1] _ 1 2 _ rfl (by simp)
    · rcases List.mem_cons.1 hk with rfl | hk
      · exact ⟨RowOf.nil _ _ _ _, fun q hq => (by cases hq), Nat.zero_le _⟩
      · rw [List.mem_singleton.1 hk]
        refine ⟨?_, fun q hq => ?_, (show 1 ≤ 1000 by decide)⟩
        · rw [hW]
          exact RowOf.below (l := [s0]) (f := kpC) (m := 4) (Rd_new (w10.alloc (.cells #[.int .i64 s0.ix, .int .i64 s0.s.1, .int .i64 s0.s.2, .slice s0.A s0.p.length s0.c] 50)) #[.int .i64 s0.ix, .int .i64 s0.s.1, .int .i64 s0.s.2, .slice s0.A s0.p.length s0.c] 50 4 1 (w10.heap.size + 1) rfl (by simp)) (below_alloc (Below.refl _ _) _)
        · rw [List.mem_singleton.1 hq]; exact HS0.out W hbW)
  refine (kdraw_two (0, [], 25) (HL11.out _ rfl).2 (ex_one HX2.out A0 c0 ⟨0, 0, ⟨#[]⟩, none, 0, []⟩ rfl [] s0) (HT.out _ (below_trans HB10.out (HL11.out _ rfl).1))).mono ?_
  rintro e w11 ⟨v11, rfl, ho11, hb11⟩
  have hbb := below_trans (HL11.out _ rfl).1 hb11
  have HB11 := Lib.hid (below_trans HB10.out hbb)
  have HL12 := Lib.hid (HL10.out.below hbb)
  have HF11 := Lib.hid (HF10.out.below hbb)
  have HN11 : Hid (Blk w11 w5.heap.size 69 #[.slice CA2 2 cc2, .slice (some ⟨bo, oo, none⟩) 2 oc2, .slice (some ⟨bk, ok_, none⟩) 2 kc2]) := Lib.hid ((hbb.block _ HN10.out.lt).trans HN10.out)
  have HBK11 : Hid (Blk w11 w10.heap.size 50 #[.int .i64 s0.ix, .int .i64 s0.s.1, .int .i64 s0.s.2, .slice s0.A s0.p.length s0.c]) := Lib.hid (by
    have h := ((Blk.new w10 50 #[.int .i64 s0.ix, .int .i64 s0.s.1, .int .i64 s0.s.2, .slice s0.A s0.p.length s0.c] _ rfl).alloc (.cells #[.int .i64 s0.ix, .int .i64 s0.s.1, .int .i64 s0.s.2, .slice s0.A s0.p.length s0.c] 50)).alloc (.cells #[.slice none 0 0, .slice (some ⟨w10.heap.size + 1, 0, none⟩) 1 1] 33)
    exact (hb11.block _ h.lt).trans h)
  have HI11 := Lib.hid (HI10.out.below hbb)
  have HS11 : Hid (∀ W, Below w11.heap.size w11 W → KpFit W s0) := Lib.hid (fun W hW => HS0.out W (below_trans hbb hW))
  have HG : Hid (s0.ix = 1 ∧ s0.s = (1, 723)) := Lib.hid (by
    obtain ⟨B, d, h⟩ := HK1.out.2 0 (by decide)
    rw [hs] at h
    obtain rfl : s0 = kpOf y2 2 2 1 0 B d := Option.some.inj h
    exact ex_first HX2.out B d)
  clear hb11
  have a0 := HN11.out.of_cell (i := 0) rfl
  have a1 := HN11.out.of_cell (i := 1) rfl
  have a2 := HN11.out.of_cell (i := 2) rfl
  have al := HN11.out.lt
  have p0 := HBK11.out.of_cell (i := 0) rfl
  have p1 := HBK11.out.of_cell (i := 1) rfl
  have p2 := HBK11.out.of_cell (i := 2) rfl
  have p3 := HBK11.out.of_cell (i := 3) rfl
  have pl := HBK11.out.lt
  clear hbb
  go_wp2_with fail
  clear p0 p1 p2 p3 pl a0 a1 a2 al
  have HL13 : Hid (∀ (W : World), W = (w11.alloc (.cells #[.int .i64 s0.ix, .int .i64 s0.s.1, .int .i64 s0.s.2, .slice s0.A s0.p.length s0.c, .int .i64 s0.ix, .int .i64 s0.s.1, .int .i64 s0.s.2, .slice s0.A s0.p.length s0.c] 50)).alloc (.cells #[.slice none 0 0, .slice (some ⟨w11.heap.size, 0, none⟩) 2 2] 33) → Below w11.heap.size w11 W ∧ DrFit W CA2 (([x2, y2] : List Kr).map (cmK 2 2)) (some ⟨w8.heap.size, 0, none⟩) [ogOf x2 1 A0 c0, ⟨0, 0, ⟨#[]⟩, none, 0, []⟩] (some ⟨w11.heap.size + 1, 0, none⟩) [⟨none, 0, []⟩, ⟨some ⟨w11.heap.size, 0, none⟩, 2, [s0, s0]⟩]) := Lib.hid (fun W hW => by
    have hbW : Below w11.heap.size w11 W := by rw [hW]; exact below_alloc (below_alloc (Below.refl _ _) _) _
    have hf := HL12.out.below hbW
    refine ⟨hbW, hf.c, hf.o, ?_, hf.og, fun k hk => ?_, hf.cl, hf.ol, (show 2 ≤ 9223372036854775807 by decide)⟩
    · rw [hW]; exact Rd_new _ #[.slice none 0 0, .slice (some ⟨w11.heap.size, 0, none⟩) 2 2] _ 1 2 _ rfl (by simp)
    · rcases List.mem_cons.1 hk with rfl | hk
      · exact ⟨RowOf.nil _ _ _ _, fun q hq => (by cases hq), Nat.zero_le _⟩
      · rw [List.mem_singleton.1 hk]
        refine ⟨?_, fun q hq => ?_, (show 2 ≤ 1000 by decide)⟩
        · rw [hW]
          exact RowOf.below (l := [s0, s0]) (f := kpC) (m := 4) (Rd_new w11 #[.int .i64 s0.ix, .int .i64 s0.s.1, .int .i64 s0.s.2, .slice s0.A s0.p.length s0.c, .int .i64 s0.ix, .int .i64 s0.s.1, .int .i64 s0.s.2, .slice s0.A s0.p.length s0.c] 50 4 2 _ rfl rfl) (below_alloc (Below.refl _ _) _)
        · obtain rfl : q = s0 := by simpa using hq
          exact HS11.out W hbW)
  refine (kdraw_two (0, [], 25) (HL13.out _ rfl).2 (ex_twice HX2.out A0 c0 ⟨0, 0, ⟨#[]⟩, none, 0, []⟩ rfl [] s0) (HT.out _ (below_trans HB11.out (HL13.out _ rfl).1))).mono ?_
  rintro e w12 ⟨v12, rfl, ho12, hb12⟩
  have hbb := below_trans (HL13.out _ rfl).1 hb12
  have HB12 := Lib.hid (below_trans HB11.out hbb)
  have HF12 := Lib.hid (HF11.out.below hbb)
  have HN12 : Hid (Blk w12 w5.heap.size 69 #[.slice CA2 2 cc2, .slice (some ⟨bo, oo, none⟩) 2 oc2, .slice (some ⟨bk, ok_, none⟩) 2 kc2]) := Lib.hid ((hbb.block _ HN11.out.lt).trans HN11.out)
  have HBK12 : Hid (Blk w12 w10.heap.size 50 #[.int .i64 s0.ix, .int .i64 s0.s.1, .int .i64 s0.s.2, .slice s0.A s0.p.length s0.c]) := Lib.hid ((hbb.block _ HBK11.out.lt).trans HBK11.out)
  have HI12 := Lib.hid (HI11.out.below hbb)
  clear hbb hb12 ho12 ho11
  have a0 := HN12.out.of_cell (i := 0) rfl
  have a1 := HN12.out.of_cell (i := 1) rfl
  have a2 := HN12.out.of_cell (i := 2) rfl
  have al := HN12.out.lt
  go_wp2_with fail
  refine (kdraw_bad CA2 cc2 (([x2, y2] : List Kr).map (cmK 2 2)) 2 2 (some ⟨bo, oo, none⟩) oc2 [ogOf x2 1 A0 c0, o1] (some ⟨bk, ok_, none⟩) kc2 [k0, k1] 2 w12 (show 2 ≤ 9223372036854775807 by decide) (show 2 ≤ 9223372036854775807 by decide) (show 2 ≤ 9223372036854775807 by decide) ⟨by decide, by decide⟩ (fun h => absurd h.2.2.2.2.2.1 (by decide))).mono ?_
  rintro e w13 ⟨rfl, rfl⟩
  clear a0 a1 a2 al
  go_wp2_with fail
  refine (kequal_any A10 (some ⟨w12.heap.size, 0, none⟩) c10 1 [1] [1] _ (HI12.out.below (below_alloc (Below.refl _ _) _)) (Rd_new w12 #[.int .i64 1] 3 1 1 _ rfl rfl) (by decide) (by decide)).mono ?_
  rintro e w14 ⟨rfl, hb14⟩
  have hbb := below_trans (below_alloc (Below.refl _ _) _) hb14
  have HB14 := Lib.hid (below_trans HB12.out hbb)
  have HBK14 : Hid (Blk w14 w10.heap.size 50 #[.int .i64 1, .int .i64 1, .int .i64 723, .slice s0.A s0.p.length s0.c]) := Lib.hid (by
    have h := (hbb.block _ HBK12.out.lt).trans HBK12.out
    rw [HG.out.1, HG.out.2] at h
    exact h)
  clear hbb hb14
  have p0 := HBK14.out.of_cell (i := 0) rfl
  have p1 := HBK14.out.of_cell (i := 1) rfl
  have p2 := HBK14.out.of_cell (i := 2) rfl
  have p3 := HBK14.out.of_cell (i := 3) rfl
  have pl := HBK14.out.lt
  rw [show decide (([1] : List Int) = [1]) = true from rfl]
  go_wp2
  go_ret
  exact ⟨rfl, HB14.out⟩
end

section
open Go.RowKit

def Arw (w : World) (e size g n : Nat) (xs : List Value) : Prop := xs.length = n * size ∧ ∃ cur : Array Value, Blk w g e cur ∧ n * size ≤ cur.size ∧ cur.toList.take (n * size) = xs
theorem Arw.of_own {w : World} {base e size n : Nat} {v : Value} {xs : List Value} (h : w.ownsRow base e size v n xs) (hn : 0 < n) : ∃ g cap, v = .slice (some ⟨g, 0, none⟩) n cap ∧ base ≤ g ∧ n ≤ cap ∧ cap ≤ maxLen ∧ Arw w e size g n xs := by
  obtain ⟨h1, h2⟩ := h
  rcases h2 with ⟨-, h0⟩ | ⟨g, cap, cur, rfl, hb, hg, hc, hm, hs, ht⟩
  · omega
  · exact ⟨g, cap, rfl, hb, hc, hm, h1, cur, hg, by rw [hs]; exact Nat.mul_le_mul_right size hc, ht⟩
theorem Arw.get {w : World} {e size g n : Nat} {xs : List Value} (h : Arw w e size g n xs) {j : Nat} {u : Value} (hj : xs[j]? = some u) : w.cell? ⟨g, j, none⟩ = some u := by
  obtain ⟨h1, cur, hb, hs, ht⟩ := h
  rw [hb.cell]
  rw [← ht, List.getElem?_take] at hj
  split at hj
  · simpa using hj
  · cases hj
theorem Arw.frozen {w : World} {e size g n : Nat} {xs : List Value} (h : Arw w e size g n xs) (j : Nat) : w.frozen? ⟨g, j, none⟩ = false := by
  obtain ⟨h1, cur, hb, hs, ht⟩ := h
  exact hb.frozen j
theorem Arw.lt {w : World} {e size g n : Nat} {xs : List Value} (h : Arw w e size g n xs) : g < w.heap.size := by
  obtain ⟨h1, cur, hb, hs, ht⟩ := h
  exact hb.lt
theorem Arw.blk {w : World} {e size g n : Nat} {xs : List Value} (h : Arw w e size g n xs) : ∃ cs, Blk w g e cs := by
  obtain ⟨h1, cur, hb, hs, ht⟩ := h
  exact ⟨cur, hb⟩
theorem Arw.kept {w w' : World} {e size g n : Nat} {xs : List Value} (h : Arw w e size g n xs) (hk : w'.heap[g]? = w.heap[g]?) : Arw w' e size g n xs := by
  obtain ⟨h1, cur, hb, hs, ht⟩ := h
  exact ⟨h1, cur, hk.trans hb, hs, ht⟩
theorem Arw.below {w w' : World} {e size g n : Nat} {xs : List Value} (h : Arw w e size g n xs) (hb : Below w.heap.size w w') : Arw w' e size g n xs := h.kept (hb.block g h.lt)
theorem Arw.set {w : World} {e size g n : Nat} {xs : List Value} (h : Arw w e size g n xs) (j : Nat) (u : Value) : Arw (w.setCell ⟨g, j, none⟩ u) e size g n (xs.set j u) := by
  obtain ⟨h1, cur, hb, hs, ht⟩ := h
  refine ⟨by rw [List.length_set]; exact h1, cur.setIfInBounds j u, hb.set j u, by simpa using hs, ?_⟩
  rw [Array.toList_setIfInBounds, List.take_set, ht]
theorem Arw.far {w : World} {e size g n : Nat} {xs : List Value} (h : Arw w e size g n xs) {p : Addr} (hp : g ≠ p.block) (u : Value) : Arw (w.setCell p u) e size g n xs := h.kept (Below.heap_setCell w p u g hp)
theorem Arw.rd {w : World} {e size g n : Nat} {xs : List Value} (h : Arw w e size g n xs) : Rd w size (some ⟨g, 0, none⟩) n xs :=
  ⟨h.1, fun _ => ⟨g, 0, rfl, fun j u hu => by rw [Nat.zero_add]; exact h.get hu⟩⟩
theorem Arw.ne {w : World} {e size g n e' size' g' n' : Nat} {xs ys : List Value} (h : Arw w e size g n xs) (h' : Arw w e' size' g' n' ys) (he : e ≠ e') : g ≠ g' := by
  obtain ⟨c, hc⟩ := h.blk
  obtain ⟨d, hd⟩ := h'.blk
  exact hc.ne_ hd he
theorem Arw.drew {w : World} {e size g n : Nat} {xs : List Value} (h : Arw w e size g n xs) (q : Nat) : Arw (w.drewN q) e size g n xs := h

/-- One cell of one element is set. -/
theorem flatM_set {α : Type} (f : α → List Value) (m : Nat) (hf : ∀ a, (f a).length = m) (l : List α) (k : Nat) (x y : α) (hx : l[k]? = some x) (r : Nat) (hr : r < m) (u : Value) (hy : f y = (f x).set r u) : (l.flatMap f).set (k * m + r) u = (l.set k y).flatMap f := by
  induction l generalizing k with
  | nil => simp at hx
  | cons b l ih =>
    rw [List.flatMap_cons]
    cases k with
    | zero =>
      obtain rfl : b = x := by simpa using hx
      rw [Nat.zero_mul, Nat.zero_add, List.set_append_left _ _ (by rw [hf]; exact hr), List.set_cons_zero, List.flatMap_cons, hy]
    | succ k =>
      have := ih k (by simpa using hx)
      rw [List.set_append_right _ _ (by rw [hf, Nat.add_mul]; omega), hf, List.set_cons_succ, List.flatMap_cons, ← this]
      congr 2
      rw [Nat.add_mul]; omega
theorem Ints.set {w : World} {g n : Nat} {l : List Int} (h : Arw w 3 1 g n (l.map (Value.int .i64))) (j : Nat) (x : Int) : Arw (w.setCell ⟨g, j, none⟩ (.int .i64 x)) 3 1 g n ((l.set j x).map (Value.int .i64)) := by
  rw [List.map_set]
  exact h.set j _
theorem info_kr : (Tryz.prog.info? 27).map (fun i => (i.zero, i.size, i.bytes)) = some (some (.agg #[.slice none 0 0, .string ByteArray.empty, .slice none 0 0]), 3, 64) := by kernel_rfl
theorem info_in : (Tryz.prog.info? 3).map (fun i => (i.zero, i.size, i.bytes)) = some (some (.int .i64 0), 1, 8) := by kernel_rfl
theorem own_zero (w : World) (T size : Nat) : (w.alloc (.cells #[] T)).ownsRow w.heap.size T size (.slice (some ⟨w.heap.size, 0, none⟩) 0 0) 0 [] :=
  ⟨by simp, .inr ⟨w.heap.size, 0, #[], rfl, Nat.le_refl _, Blk.new w _ _ _ rfl, Nat.le_refl _, by simp [maxLen], by simp, by simp⟩⟩
theorem below_zero {w w' : World} {T : Nat} (hg : (w.alloc (.cells #[] T)).grownBy w' (some w.heap.size)) : Below w.heap.size w w' :=
  (below_alloc (Below.refl _ _) _).grown hg (by have := (below_alloc (Below.refl w.heap.size w) (.cells #[] T)).size; exact this) (fun j hj => by cases hj; exact Nat.le_refl _)
theorem one_kr (l : List Kr) : ∀ u, u ∈ l.flatMap krC → u.oneCell' = true := fun u hu => by
  obtain ⟨a, -, h⟩ := List.mem_flatMap.1 hu
  simp only [krC, List.mem_cons, List.not_mem_nil, or_false] at h
  rcases h with rfl | rfl | rfl <;> rfl
theorem one_og (l : List Og) : ∀ u, u ∈ l.flatMap ogC → u.oneCell' = true := fun u hu => by
  obtain ⟨a, -, h⟩ := List.mem_flatMap.1 hu
  simp only [ogC, List.mem_cons, List.not_mem_nil, or_false] at h
  rcases h with rfl | rfl | rfl | rfl <;> rfl
theorem one_kp (l : List Kp) : ∀ u, u ∈ l.flatMap kpC → u.oneCell' = true := fun u hu => by
  obtain ⟨a, -, h⟩ := List.mem_flatMap.1 hu
  simp only [kpC, List.mem_cons, List.not_mem_nil, or_false] at h
  rcases h with rfl | rfl | rfl | rfl <;> rfl
theorem one_kw (l : List Kw) : ∀ u, u ∈ l.flatMap kwC → u.oneCell' = true := fun u hu => by
  obtain ⟨a, -, h⟩ := List.mem_flatMap.1 hu
  simp only [kwC, List.mem_cons, List.not_mem_nil, or_false] at h
  rw [h]; rfl
theorem one_in (l : List Int) : ∀ u, u ∈ l.map (Value.int .i64) → u.oneCell' = true := fun u hu => by
  obtain ⟨a, -, rfl⟩ := List.mem_map.1 hu
  rfl

/-! ### a whole element is set -/
def lset : List Value → Nat → List Value → List Value
  | xs, _, [] => xs
  | xs, o, v :: r => lset (xs.set o v) (o + 1) r
theorem lset_right (a : List Value) : ∀ (vs b : List Value) (o : Nat), lset (a ++ b) (a.length + o) vs = a ++ lset b o vs
  | [], _, _ => rfl
  | v :: r, b, o => by
    rw [lset, lset, List.set_append_right _ _ (by omega), show a.length + o - a.length = o by omega]
    exact lset_right a r _ (o + 1)
theorem lset_left (b : List Value) : ∀ (vs a : List Value) (o : Nat), o + vs.length ≤ a.length → lset (a ++ b) o vs = lset a o vs ++ b
  | [], _, _, _ => rfl
  | v :: r, a, o, h => by
    rw [List.length_cons] at h
    rw [lset, lset, List.set_append_left _ _ (by omega)]
    exact lset_left b r _ (o + 1) (by rw [List.length_set]; omega)
theorem lset_all : ∀ (vs a c : List Value), c.length = vs.length → lset (a ++ c) a.length vs = a ++ vs
  | [], a, c, h => by
    obtain rfl : c = [] := List.length_eq_zero_iff.1 h
    rfl
  | v :: r, a, [], h => by simp at h
  | v :: r, a, x :: c, h => by
    have ih := lset_all r (a ++ [v]) c (by simpa using h)
    rw [List.length_append, List.length_singleton, List.append_assoc, List.append_assoc] at ih
    rw [lset, List.set_append_right _ _ (Nat.le_refl _), Nat.sub_self, List.set_cons_zero]
    exact ih
theorem flatM_setAll {α : Type} (f : α → List Value) (m : Nat) (hf : ∀ a, (f a).length = m) (l : List α) (k : Nat) (y : α) (hk : k < l.length) : lset (l.flatMap f) (k * m) (f y) = (l.set k y).flatMap f := by
  induction l generalizing k with
  | nil => simp at hk
  | cons b l ih =>
    rw [List.flatMap_cons]
    cases k with
    | zero =>
      rw [Nat.zero_mul, lset_left _ _ _ _ (by rw [hf, hf]; omega), List.set_cons_zero, List.flatMap_cons]
      have := lset_all (f y) [] (f b) (by rw [hf, hf])
      rw [show lset (f b) 0 (f y) = f y from this]
    | succ k =>
      have e : (k + 1) * m = (f b).length + k * m := by rw [hf, Nat.add_mul]; omega
      rw [e, lset_right, ih k (by simpa using hk), List.set_cons_succ, List.flatMap_cons]
theorem Arw.setCells {e size g n : Nat} : ∀ (vs : List Value) (o : Nat) {w : World} {xs : List Value}, Arw w e size g n xs → Arw (w.setCells g o vs) e size g n (lset xs o vs)
  | [], _, _, _, h => h
  | v :: r, o, w, _, h => Arw.setCells r (o + 1) (h.set o v)
theorem Arw.there {w : World} {e size g n : Nat} {xs : List Value} (h : Arw w e size g n xs) (o k : Nat) (hk : o + k ≤ xs.length) : w.there g o k := fun j hj => by
  obtain ⟨u, hu⟩ := get_some xs (o + j) (by omega)
  exact ⟨by rw [h.get hu]; rfl, h.frozen _⟩
theorem setCs_far (b : Nat) : ∀ (vs : List Value) (o : Nat) (w : World) (g : Nat), g ≠ b → (w.setCells b o vs).heap[g]? = w.heap[g]?
  | [], _, _, _, _ => rfl
  | v :: r, o, w, g, h => (setCs_far b r (o + 1) (w.setCell ⟨b, o, none⟩ v) g h).trans (Below.heap_setCell w ⟨b, o, none⟩ v g h)
theorem setCs_typed {w : World} {g T : Nat} {cs : Array Value} (hb : Blk w g T cs) {T' : Nat} (hT : T ≠ T') (o : Nat) (vs : List Value) : ∀ (b : Nat) (cs' : Array Value), w.heap[b]? = some (.cells cs' T' (0, 0)) → (w.setCells g o vs).heap[b]? = w.heap[b]? := fun b cs' hcs =>
  setCs_far g vs o w b (by
    intro e
    subst e
    unfold Blk at hb
    rw [hb] at hcs
    injection hcs with hcs
    injection hcs with _ ht
    exact hT ht)
theorem below_setCsK {B : Nat} {a w : World} (h : Below B a w) (b : Nat) (hb : B ≤ b) (vs : List Value) (o : Nat) : Below B a (w.setCells b o vs) := by
  induction vs generalizing o w with
  | nil => exact h
  | cons v r ih => exact ih (h.setCell (p := ⟨b, o, none⟩) hb v) (o + 1)
end

section
open Go.RowKit

/-- What few says. -/
structure FewOk (l : List Kr) : Prop where
  lo : 1 ≤ l.length
  hi : l.length ≤ 4
  each : ∀ kr, kr ∈ l → kr.seeds.length ≤ 6 ∧ (kr.salt.size ≤ 60 ∨ 400 < kr.salt.size ∧ kr.salt.size ≤ 500) ∧ kr.random.length ≤ 40
  same : ∀ kr, kr ∈ l → ∀ x, l[0]? = some x → kr.seeds.length = x.seeds.length
theorem FewOk.of {l : List Kr} (h : fewK l = true) : FewOk l := by
  unfold fewK at h
  rw [Bool.and_eq_true] at h
  have h1 := of_decide_eq_true h.1
  have h2 := List.all_eq_true.1 h.2
  have h3 : ∀ kr, kr ∈ l → fw30 kr.seeds kr.salt kr.random = true ∧ kr.seeds.length = ((l[0]?.map (·.seeds.length)).getD 0) := fun kr hk => by
    have := h2 kr hk
    unfold fwK at this
    rw [Bool.and_eq_true] at this
    exact ⟨this.1, of_decide_eq_true this.2⟩
  refine ⟨h1.1, h1.2, fun kr hk => of_decide_eq_true (h3 kr hk).1, fun kr hk x hx => ?_⟩
  rw [(h3 kr hk).2, hx]; rfl

theorem sds_range {l : List Kr} {m : Nat} {need i : Int} (h : l.all (okK m need i) = true) (k : Nat) (hk : k ≤ l.length) : 0 ≤ sds l i.toNat k ∧ sds l i.toNat k ≤ 719 * k := by
  induction k with
  | zero => simp [sds]
  | succ k ih =>
    obtain ⟨h0, h1⟩ := ih (by omega)
    obtain ⟨x, hx⟩ := get_some l k (by omega)
    obtain ⟨v, hv, hv0, hv1, -⟩ := okK_seed (List.all_eq_true.1 h x (List.mem_of_getElem? hx))
    simp only [sds, hx, Option.bind_some, hv, Option.getD_some]
    omega
theorem sds_step {l : List Kr} {i k : Nat} {x : Kr} {v : Int} (hx : l[k]? = some x) (hv : x.seeds[i]? = some v) : sds l i (k + 1) = sds l i k + v := by
  simp only [sds, hx, Option.bind_some, hv, Option.getD_some]
theorem sds_set {l : List Kr} {k : Nat} {x y : Kr} (hx : l[k]? = some x) (i m : Nat) :
    sds (l.set k y) i m = sds l i m + (if k < m then (y.seeds[i]?.getD 0) - (x.seeds[i]?.getD 0) else 0) := by
  have hk : k < l.length := (List.getElem?_eq_some_iff.1 hx).1
  induction m with
  | zero => simp [sds]
  | succ m ih =>
    simp only [sds]
    rw [ih]
    by_cases h : k = m
    · subst h
      rw [List.getElem?_set_self hk, hx, if_neg (Nat.lt_irrefl _), if_pos (Nat.lt_succ_self _)]
      simp only [Option.bind_some]
      omega
    · rw [List.getElem?_set_ne h]
      by_cases h2 : k < m
      · rw [if_pos h2, if_pos (by omega)]
        omega
      · rw [if_neg h2, if_neg (by omega)]
        omega
theorem draw_ne {l : List Kr} {k : Nat} {x y : Kr} (hx : l[k]? = some x) {i : Nat} {v s : Int} (hv : x.seeds[i]? = some v) (hv0 : 0 ≤ v) (hv1 : v ≤ 719) (hs0 : 0 ≤ s) (hs1 : s ≤ 719) (hne : s ≠ v) (hy : y.seeds[i]? = some s) :
    sds (l.set k y) i l.length % 720 ≠ sds l i l.length % 720 := by
  rw [sds_set hx, if_pos (List.getElem?_eq_some_iff.1 hx).1, hy, hv]
  simp only [Option.getD_some]
  omega
end

section
open Go.RowKit

def zOg : Og := ⟨0, 0, ⟨#[]⟩, none, 0, []⟩
/-- Some of a keeper's kept shares, from place j on, each once. -/
structure SubOk (x : Kr) (n m i j : Nat) (l : List Kp) : Prop where
  each : ∀ k, k ∈ l → ∃ q A c, j ≤ q ∧ q < m ∧ k = kpOf x n m i q A c
  nd : (l.map (·.s.1)).Nodup
  few : l.length ≤ m - j
theorem SubOk.nil (x : Kr) (n m i j : Nat) : SubOk x n m i j [] := ⟨fun k hk => (by cases hk), by simp, Nat.zero_le _⟩
theorem SubOk.skip {x : Kr} {n m i j : Nat} {l : List Kp} (h : SubOk x n m i (j + 1) l) : SubOk x n m i j l :=
  ⟨fun k hk => by obtain ⟨q, A, c, h1, h2, h3⟩ := h.each k hk; exact ⟨q, A, c, by omega, h2, h3⟩, h.nd, by have := h.few; omega⟩
theorem SubOk.snoc {x : Kr} {n m i j : Nat} {l : List Kp} (h : SubOk x n m i (j + 1) l) (hj : j < m) {k : Kp} (hk : ∃ A c, k = kpOf x n m i j A c) : SubOk x n m i j (l ++ [k]) := by
  obtain ⟨A, c, rfl⟩ := hk
  refine ⟨fun k hk => ?_, ?_, by rw [List.length_append, List.length_singleton]; have := h.few; omega⟩
  · rcases List.mem_append.1 hk with hk | hk
    · exact h.skip.each k hk
    · exact ⟨j, A, c, Nat.le_refl _, hj, List.mem_singleton.1 hk⟩
  · rw [List.map_append, List.nodup_append]
    refine ⟨h.nd, by simp, fun a ha b hb e => ?_⟩
    obtain ⟨k, hk, rfl⟩ := List.mem_map.1 ha
    obtain ⟨q, A', c', h1, -, rfl⟩ := h.each k hk
    simp only [List.map_cons, List.map_nil, List.mem_singleton] at hb
    rw [hb] at e
    simp only [kpOf] at e
    omega
def wlL (cl : Nat → Bool) : Nat → List Int
  | 0 => []
  | k + 1 => wlL cl k ++ (if cl k then [(k : Int)] else [])
theorem wlL_len (cl : Nat → Bool) (k : Nat) : (wlL cl k).length ≤ k := by
  induction k with
  | zero => exact Nat.le_refl _
  | succ k ih => rw [wlL, List.length_append]; split <;> simp <;> omega
def enL (cl : Nat → Bool) (need : Int) (L : List Nat) : Nat → Bool
  | 0 => true
  | k + 1 => enL cl need L k && (!cl k || decide (need ≤ ((L[k]?.getD 0 : Nat) : Int)))
theorem enL_append (cl : Nat → Bool) (need : Int) (L M : List Nat) (k : Nat) (h : k ≤ L.length) : enL cl need (L ++ M) k = enL cl need L k := by
  induction k with
  | zero => rfl
  | succ k ih => rw [enL, enL, ih (by omega), List.getElem?_append_left (by omega)]
theorem enL_true {cl : Nat → Bool} {need : Int} {L : List Nat} {m : Nat} (h : enL cl need L m = true) (k : Nat) (hk : k < m) (hc : cl k = true) : need ≤ ((L[k]?.getD 0 : Nat) : Int) := by
  induction m with
  | zero => omega
  | succ m ih =>
    rw [enL, Bool.and_eq_true] at h
    by_cases hkm : k < m
    · exact ih h.1 hkm
    · obtain rfl : k = m := by omega
      have := h.2
      rw [hc] at this
      simpa using this
theorem enL_false {cl : Nat → Bool} {need : Int} {L : List Nat} {m : Nat} (h : enL cl need L m = false) : ∃ k, k < m ∧ enL cl need L k = true ∧ cl k = true ∧ ((L[k]?.getD 0 : Nat) : Int) < need := by
  induction m with
  | zero => cases h
  | succ m ih =>
    cases h1 : enL cl need L m with
    | false =>
      obtain ⟨k, a, b⟩ := ih h1
      exact ⟨k, by omega, b⟩
    | true =>
      rw [enL, h1, Bool.true_and] at h
      refine ⟨m, Nat.lt_succ_self _, h1, ?_⟩
      cases hc : cl m with
      | false => rw [hc] at h; cases h
      | true =>
        rw [hc, Bool.not_true, Bool.false_or] at h
        have := of_decide_eq_false h
        exact ⟨rfl, by omega⟩
/-- What each keeper gives. -/
theorem recov_one {l : List Kr} {need i : Int} {w : World} {CA OA KA : Option Addr} {cc oc kc : Nat} {os : List Og} {ks : List Kw} (h : NightRes l need i w CA cc OA oc KA kc os ks) (ha : l.all (okK l.length need i) = true) (n : Nat) (hn : ∀ kr, kr ∈ l → kr.seeds.length = n)
    (cl : Nat → Bool) {ot : List Og} (hot : ∀ j, j < l.length → ot[j]? = if cl j then some zOg else os[j]?) {kt : List Kw} (hkt : ∀ (j : Nat) (kr : Kr), l[j]? = some kr → ∃ a, kt[j]? = some a ∧ SubOk kr need.toNat l.length i.toNat 0 a.l) (hol : ot.length = l.length) (hkl : kt.length = l.length) {k : Nat} {kr : Kr} (hk : l[k]? = some kr) :
    (krs (l.map (cmK l.length need)) (n : Int) i ot (kt.map (·.l)) need)[k]? = some (if cl k then (if (((kt.map (·.l.length))[k]?.getD 0 : Nat) : Int) < need then (0, 25, true) else (kr.seeds[i.toNat]?.getD 0, 0, true)) else (kr.seeds[i.toNat]?.getD 0, 0, false)) := by
  have hkl' : k < l.length := (List.getElem?_eq_some_iff.1 hk).1
  have hm := List.mem_of_getElem? hk
  have hok := List.all_eq_true.1 ha kr hm
  obtain ⟨a, ha', hsub⟩ := hkt k kr hk
  have h1 : (l.map (cmK l.length need))[k]? = some (cmK l.length need kr) := by rw [List.getElem?_map, hk]; rfl
  have h2 : (kt.map (·.l))[k]? = some a.l := by rw [List.getElem?_map, ha']; rfl
  have h3 : (kt.map (·.l.length))[k]? = some a.l.length := by rw [List.getElem?_map, ha']; rfl
  have h4 := hot k hkl'
  rw [h3, Option.getD_some]
  cases hc : cl k with
  | true =>
    rw [hc, if_pos rfl] at h4
    rw [krs_get h1 h4 h2, ← hn kr hm, List.length_map, kone_held hok (o := zOg) (fun _ => ck_empty _ _ _ _ _) (fun q hq => by
      obtain ⟨p, A, c, -, hp, he⟩ := hsub.each q hq
      exact ⟨p, A, c, hp, he⟩) hsub.nd]
    simp only [if_pos]
  | false =>
    rw [hc, if_neg (by decide)] at h4
    obtain ⟨A, c, ho⟩ := h.ok.o k kr hkl' hk
    rw [ho] at h4
    rw [krs_get h1 h4 h2, ← hn kr hm, kone_own hok]
    simp
theorem recov_draw {l : List Kr} {need i : Int} {w : World} {CA OA KA : Option Addr} {cc oc kc : Nat} {os : List Og} {ks : List Kw} (h : NightRes l need i w CA cc OA oc KA kc os ks) (ha : l.all (okK l.length need i) = true) (n : Nat) (hn : ∀ kr, kr ∈ l → kr.seeds.length = n)
    (cl : Nat → Bool) {ot : List Og} (hot : ∀ j, j < l.length → ot[j]? = if cl j then some zOg else os[j]?) {kt : List Kw} (hkt : ∀ (j : Nat) (kr : Kr), l[j]? = some kr → ∃ a, kt[j]? = some a ∧ SubOk kr need.toNat l.length i.toNat 0 a.l) (hol : ot.length = l.length) (hkl : kt.length = l.length) :
    kall (krs (l.map (cmK l.length need)) (n : Int) i ot (kt.map (·.l)) need) = if enL cl need (kt.map (·.l.length)) l.length then (sds l i.toNat l.length % 720, wlL cl l.length, 0) else (0, [], 25) := by
  have hat := fun (k : Nat) (kr : Kr) (hk : l[k]? = some kr) => recov_one h ha n hn cl hot hkt hol hkl hk
  have hlen : (krs (l.map (cmK l.length need)) (n : Int) i ot (kt.map (·.l)) need).length = l.length := by rw [krs_len (by rw [List.length_map]; exact hol) (by rw [List.length_map, List.length_map]; exact hkl), List.length_map]
  generalize krs (l.map (cmK l.length need)) (n : Int) i ot (kt.map (·.l)) need = rs at *
  generalize kt.map (·.l.length) = L at *
  have herr : ∀ (k : Nat), enL cl need L k = true → k ≤ l.length → ∀ (j : Nat) (r : Int × Int × Bool), j < k → rs[j]? = some r → r.2.1 = 0 := fun k hen hkl j r hj hr => by
    obtain ⟨kr, hkr⟩ := get_some l j (by omega)
    rw [hat j kr hkr] at hr
    cases hc : cl j with
    | true =>
      have := enL_true hen j hj hc
      rw [hc, if_pos rfl, if_neg (by omega)] at hr
      cases hr; rfl
    | false =>
      rw [hc, if_neg (by decide)] at hr
      cases hr; rfl
  cases hen : enL cl need L l.length with
  | true =>
    rw [if_pos rfl]
    have h0 : ∀ (k : Nat) (r : Int × Int × Bool), rs[k]? = some r → r.2.1 = 0 := fun k r hr => herr l.length hen (Nat.le_refl _) k r (by rw [← hlen]; exact (List.getElem?_eq_some_iff.1 hr).1) hr
    have hs : ∀ k, k ≤ l.length → ksum rs k = sds l i.toNat k % 720 ∧ kwh rs k = wlL cl k := fun k => by
      induction k with
      | zero => intro _; exact ⟨rfl, rfl⟩
      | succ k ih =>
        intro hk
        obtain ⟨i1, i2⟩ := ih (by omega)
        obtain ⟨kr, hkr⟩ := get_some l k (by omega)
        have hr := hat k kr hkr
        cases hc : cl k with
        | true =>
          have := enL_true hen k (by omega) hc
          rw [hc, if_pos rfl, if_neg (by omega)] at hr
          refine ⟨?_, ?_⟩
          · rw [ksum_succ hr, i1, sds, hkr]; simp only [Option.bind_some]; omega
          · rw [kwh_succ hr, i2, wlL, hc]
        | false =>
          rw [hc, if_neg (by decide)] at hr
          refine ⟨?_, ?_⟩
          · rw [ksum_succ hr, i1, sds, hkr]; simp only [Option.bind_some]; omega
          · rw [kwh_succ hr, i2, wlL, hc]
    rw [kall_ok h0, hlen, (hs _ (Nat.le_refl _)).1, (hs _ (Nat.le_refl _)).2]
  | false =>
    rw [if_neg (by decide)]
    obtain ⟨k, hk, hek, hc, hlt⟩ := enL_false hen
    obtain ⟨kr, hkr⟩ := get_some l k hk
    have hr := hat k kr hkr
    rw [hc, if_pos rfl, if_pos hlt] at hr
    exact kall_err (herr k hek (by omega)) hr (by decide)
end

section
open Go.RowKit

/-- The rows of the law: the openings it turns in, the kept shares, the keepers it wants told. -/
structure RecM (l : List Kr) (W : World) (g1 : Nat) (wr : World) (nk : Nat) (uk uw : Value) (ot : List Og) (kt : List Kw) (wl : List Int) : Prop where
  b : Below W.heap.size W wr
  gb : W.heap.size ≤ g1
  o : Arw wr 32 4 g1 l.length (ot.flatMap ogC)
  rk : wr.ownsRow W.heap.size 33 1 uk nk (kt.flatMap kwC)
  ka : ∀ a, a ∈ kt → KwT wr a
  wt : wr.ownsRow W.heap.size 3 1 uw wl.length (wl.map (Value.int .i64))
theorem RecM.below {l : List Kr} {W : World} {g1 : Nat} {wr w' : World} {nk : Nat} {uk uw : Value} {ot : List Og} {kt : List Kw} {wl : List Int} (h : RecM l W g1 wr nk uk uw ot kt wl) (hb : Below wr.heap.size wr w') : RecM l W g1 w' nk uk uw ot kt wl :=
  ⟨below_trans h.b hb, h.gb, h.o.below hb, row_below h.rk hb, fun a ha => (h.ka a ha).keep (fun b cs hcs => hb.block b (Array.getElem?_eq_some_iff.1 hcs).1) (fun b cs hcs => hb.block b (Array.getElem?_eq_some_iff.1 hcs).1), row_below h.wt hb⟩
theorem Arw.typed {w w' : World} {e size g n : Nat} {xs : List Value} (h : Arw w e size g n xs) (hk : ∀ (b : Nat) (cs : Array Value), w.heap[b]? = some (.cells cs e (0, 0)) → w'.heap[b]? = w.heap[b]?) : Arw w' e size g n xs := by
  obtain ⟨cs, hcs⟩ := h.blk
  exact h.kept (hk g cs hcs)
theorem RecM.stepK {l : List Kr} {W : World} {g1 : Nat} {wr w' : World} {nk : Nat} {uk uw v : Value} {ot : List Og} {kt : List Kw} {wl : List Int} (h : RecM l W g1 wr nk uk uw ot kt wl) {o : Obj} {a : Kw} (hown : w'.ownsRow W.heap.size 33 1 v (nk + 1) (kt.flatMap kwC ++ kwC a)) (hg : (wr.alloc o).grownBy w' uk.ownBlock) (ha : KwT wr a) : RecM l W g1 w' (nk + 1) v uw ot (kt ++ [a]) wl := by
  have M := h.below (below_alloc (Below.refl _ _) o)
  have hs := grown_typed M.rk hg (T := 9) (by decide)
  have hk := grown_typed M.rk hg (T := 50) (by decide)
  have hb := below_alloc (Below.refl wr.heap.size wr) o
  refine ⟨M.b.grown hg M.b.size (fun j hj => (M.rk.lt j hj).1), h.gb, M.o.typed (grown_typed M.rk hg (by decide)), by rw [List.flatMap_append]; simpa using hown, fun c hc => ?_, own_typed_keep M.wt (grown_typed M.rk hg (by decide))⟩
  rcases List.mem_append.1 hc with hc | hc
  · exact (M.ka c hc).keep hs hk
  · rw [List.mem_singleton.1 hc]
    exact (ha.keep (fun b cs hcs => hb.block b (Array.getElem?_eq_some_iff.1 hcs).1) (fun b cs hcs => hb.block b (Array.getElem?_eq_some_iff.1 hcs).1)).keep hs hk
theorem RecM.stepW {l : List Kr} {W : World} {g1 : Nat} {wr w' : World} {nk : Nat} {uk uw v : Value} {ot : List Og} {kt : List Kw} {wl : List Int} (h : RecM l W g1 wr nk uk uw ot kt wl) {o : Obj} {x : Int} (hown : w'.ownsRow W.heap.size 3 1 v (wl.length + 1) (wl.map (Value.int .i64) ++ [.int .i64 x])) (hg : (wr.alloc o).grownBy w' uw.ownBlock) : RecM l W g1 w' nk uk v ot kt (wl ++ [x]) := by
  have M := h.below (below_alloc (Below.refl _ _) o)
  refine ⟨M.b.grown hg M.b.size (fun j hj => (M.wt.lt j hj).1), h.gb, M.o.typed (grown_typed M.wt hg (by decide)), own_typed_keep M.rk (grown_typed M.wt hg (by decide)), fun c hc => (M.ka c hc).keep (grown_typed M.wt hg (by decide)) (grown_typed M.wt hg (by decide)), ?_⟩
  rw [List.length_append, List.map_append]
  exact hown
theorem RecM.stepO {l : List Kr} {W : World} {g1 : Nat} {wr : World} {nk : Nat} {uk uw : Value} {ot : List Og} {kt : List Kw} {wl : List Int} (h : RecM l W g1 wr nk uk uw ot kt wl) {k : Nat} (hk : k < ot.length) (y : Og) : RecM l W g1 (wr.setCells g1 (k * 4) (ogC y)) nk uk uw (ot.set k y) kt wl := by
  obtain ⟨cs, hcs⟩ := h.o.blk
  have ho := Arw.setCells (ogC y) (k * 4) h.o
  rw [flatM_setAll ogC 4 ogC_len ot k y hk] at ho
  exact ⟨below_setCsK h.b _ h.gb _ _, h.gb, ho, own_typed_keep h.rk (setCs_typed hcs (by decide) _ _), fun c hc => (h.ka c hc).keep (setCs_typed hcs (by decide) _ _) (setCs_typed hcs (by decide) _ _), own_typed_keep h.wt (setCs_typed hcs (by decide) _ _)⟩
/-- What the first k rounds leave. -/
structure RecP (l : List Kr) (need : Int) (ii : Nat) (os : List Og) (cl : Nat → Bool) (k : Nat) (ot : List Og) (kt : List Kw) : Prop where
  ol : ot.length = l.length
  ov : ∀ j, j < l.length → ot[j]? = if decide (j < k) && cl j then some zOg else os[j]?
  kl : kt.length = k
  kv : ∀ (j : Nat) (kr : Kr), j < k → l[j]? = some kr → ∃ a, kt[j]? = some a ∧ SubOk kr need.toNat l.length ii 0 a.l
theorem RecP.next {l : List Kr} {need : Int} {ii : Nat} {os : List Og} {cl : Nat → Bool} {k : Nat} {ot : List Og} {kt : List Kw} (h : RecP l need ii os cl k ot kt) {x : Kr} (hx : l[k]? = some x) {a : Kw} (ha : SubOk x need.toNat l.length ii 0 a.l) {ot' : List Og} (ho : ot' = if cl k then ot.set k zOg else ot) : RecP l need ii os cl (k + 1) ot' (kt ++ [a]) := by
  refine ⟨by rw [ho]; split <;> simp [h.ol], fun j hj => ?_, by simp [h.kl], fun j kr hj hkr => ?_⟩
  · by_cases hjk : j = k
    · subst hjk
      rw [ho]
      cases hc : cl j with
      | true =>
        rw [if_pos rfl, List.getElem?_set_self (by rw [h.ol]; exact hj), decide_eq_true (Nat.lt_succ_self j)]
        rfl
      | false =>
        rw [if_neg (by decide), h.ov j hj, hc]
        simp
    · have e : decide (j < k + 1) = decide (j < k) := by
        by_cases h' : j < k
        · rw [decide_eq_true h', decide_eq_true (by omega)]
        · rw [decide_eq_false h', decide_eq_false (by omega)]
      rw [e, ← h.ov j hj, ho]
      split
      · rw [List.getElem?_set_ne (fun e => hjk e.symm)]
      · rfl
  · by_cases hjk : j < k
    · obtain ⟨b, hb, hs⟩ := h.kv j kr hjk hkr
      exact ⟨b, by rw [List.getElem?_append_left (by rw [h.kl]; exact hjk)]; exact hb, hs⟩
    · obtain rfl : j = k := by omega
      rw [hx] at hkr
      cases hkr
      exact ⟨a, by rw [List.getElem?_append_right (by rw [h.kl]; exact Nat.le_refl _)]; simp [h.kl], ha⟩
set_option maxRecDepth 100000 in
set_option maxHeartbeats 64000000 in
theorem krec_walk (A : Option Addr) (c : Nat) (l : List Kr) (need i : Int) (closed lost : Nat) (w : World) (hT : Tabs w) (hA : RowOf krC 3 w A l) (hI : ∀ kr, kr ∈ l → KrIn w kr) (hlc : l.length ≤ c) (hl : l.length ≤ 9223372036854775807) (hclo : closed < 256) (hlost : lost < 65536) (hi : i64ok i) :
    Calls Tryz.prog 8 #[.slice A l.length c, .int .i64 need, .int .i64 i, .int .u8 closed, .int .u16 lost] w fun e w' => e = .returned (.bool true) ∧ Below w.heap.size w w' := by
  have HA : Hid (∀ W, Below w.heap.size w W → RowOf krC 3 W A l) := Lib.hid (fun W hW => hA.below hW)
  have HIN : Hid (∀ kr, kr ∈ l → ∀ W, Below w.heap.size w W → KrIn W kr) := Lib.hid (fun kr hk W hW => (hI kr hk).below hW)
  have HT : Hid (∀ W, Below w.heap.size w W → Tabs W) := Lib.hid (fun W hW => hT.below hW)
  clear hA hI hT
  obtain ⟨iog, h0_, h1_, h2_, h3_⟩ := info_parts info_og
  have HIO := Lib.hid (And.intro h0_ (And.intro h1_ (And.intro h2_ h3_)))
  clear h0_ h1_ h2_ h3_
  obtain ⟨ikw, h0_, h1_, h2_, h3_⟩ := info_parts info_kw
  have HIK := Lib.hid (And.intro h0_ (And.intro h1_ (And.intro h2_ h3_)))
  clear h0_ h1_ h2_ h3_
  obtain ⟨ikp, h0_, h1_, h2_, h3_⟩ := info_parts info_kp
  have HIP := Lib.hid (And.intro h0_ (And.intro h1_ (And.intro h2_ h3_)))
  clear h0_ h1_ h2_ h3_
  obtain ⟨iin, h0_, h1_, h2_, h3_⟩ := info_parts info_in
  have HII := Lib.hid (And.intro h0_ (And.intro h1_ (And.intro h2_ h3_)))
  clear h0_ h1_ h2_ h3_
  go_enter Tryz.func8, Tryz.ntmps8
  go_wp2_with fail
  refine (khead_any w (HT.out w (Below.refl _ _))).mono ?_
  rintro e w1 ⟨rfl, hb⟩
  have HB1 := Lib.hid hb
  clear hb
  go_wp2_with fail
  refine (kfew_any A c l w1 (HA.out w1 HB1.out) hl).mono ?_
  rintro e w2 ⟨rfl, hb⟩
  have HB2 := Lib.hid (below_trans HB1.out hb)
  clear hb
  obtain ⟨bf, hbf⟩ : ∃ b, fewK l = b := ⟨_, rfl⟩
  rw [hbf]
  cases bf with
  | false =>
    clear hbf
    go_wp2
    go_ret
    exact ⟨rfl, HB2.out⟩
  | true =>
  have HF := Lib.hid (FewOk.of hbf)
  clear hbf
  have hl1 := HF.out.lo
  have hl4 := HF.out.hi
  go_wp2_with fail
  refine (kopen_walk A c l need i w2 (HA.out w2 HB2.out) (fun kr hk => HIN.out kr hk w2 HB2.out) (by omega) (HT.out w2 HB2.out)).mono ?_
  rintro e w3 ⟨hb, ⟨-, v1, kv, v2, v3, v4, v5, v6, rfl⟩ | ⟨hall, CA, cc, OA, oc, KA, kc, os, ks, rfl, hres⟩⟩
  · have HB3 := Lib.hid (below_trans HB2.out hb)
    clear hb
    go_wp2
    go_ret
    exact ⟨rfl, below_alloc HB3.out _⟩
  have HB3 := Lib.hid (below_trans HB2.out hb)
  obtain ⟨x0, hx0⟩ := get_some l 0 (by omega)
  obtain ⟨ii, rfl⟩ : ∃ n : Nat, i = (n : Int) := by
    obtain ⟨-, -, -, -, h, -⟩ := okK_seed (List.all_eq_true.1 hall x0 (List.mem_of_getElem? hx0))
    exact ⟨i.toNat, h.symm⟩
  have HR := Lib.hid hres
  have HALL := Lib.hid hall
  clear hb hres hall
  obtain ⟨w4, hw4⟩ : ∃ w4, w3.alloc (.cells #[.slice CA l.length cc, .slice OA l.length oc, .slice KA l.length kc] 69) = w4 := ⟨_, rfl⟩
  have HB4 : Hid (Below w.heap.size w w4) := Lib.hid (by rw [← hw4]; exact below_alloc HB3.out _)
  have HN4 : Hid (Blk w4 w3.heap.size 69 #[.slice CA l.length cc, .slice OA l.length oc, .slice KA l.length kc]) := Lib.hid (by rw [← hw4]; exact Blk.new _ _ _ _ rfl)
  have HF4 : Hid (DrFit w4 CA (l.map (cmK l.length need)) OA os KA ks) := Lib.hid (by rw [← hw4]; exact (HR.out.fit HALL.out (by omega)).below (below_alloc (Below.refl _ _) _))
  have HM4 : Hid (NightMem w4 os ks) := Lib.hid (by rw [← hw4]; exact HR.out.mem.below (below_alloc (Below.refl _ _) _))
  have HX0 := Lib.hid hx0
  obtain ⟨bA, oA, hAe, q0, q1, q2⟩ := kr_cells (HA.out w4 HB4.out) hx0
  subst hAe
  simp only [Nat.zero_mul, Nat.add_zero] at q0 q1 q2
  have ql := lt_of_cell q0
  obtain ⟨n, hn⟩ : ∃ n, x0.seeds.length = n := ⟨_, rfl⟩
  rw [hn] at q0
  have HNN : Hid (∀ kr, kr ∈ l → kr.seeds.length = n) := Lib.hid (fun kr hk => by rw [← hn]; exact HF.out.same kr hk x0 HX0.out)
  have HN6 : Hid (n ≤ 6) := Lib.hid (by rw [← hn]; exact (HF.out.each x0 (List.mem_of_getElem? HX0.out)).1)
  clear hx0 hn
  have a0 := HN4.out.of_cell (i := 0) rfl
  have a1 := HN4.out.of_cell (i := 1) rfl
  have a2 := HN4.out.of_cell (i := 2) rfl
  have al := HN4.out.lt
  go_wp2_with fail
  clear q0 q1 q2 ql a0 a1 a2 al
  obtain ⟨sm, hsm⟩ : ∃ s, sds l ii l.length = s := ⟨_, rfl⟩
  have hsr := sds_range HALL.out l.length (Nat.le_refl _)
  rw [Int.toNat_natCast, hsm] at hsr
  have hs0 : 0 ≤ sm := hsr.1
  have hs1 : sm ≤ 2876 := by omega
  have HDR := kdraw_night HR.out HALL.out (by omega) (by omega) n HNN.out w4 HF4.out (HT.out w4 HB4.out)
  rw [Int.toNat_natCast, hsm] at HDR
  have HSM := Lib.hid hsm
  clear hsm hsr
  refine HDR.mono ?_
  clear HDR
  rintro e w5 ⟨WA, wc, rfl, hb5⟩
  have HB5 := Lib.hid (below_trans HB4.out hb5)
  have HN5 : Hid (Blk w5 w3.heap.size 69 #[.slice CA l.length cc, .slice OA l.length oc, .slice KA l.length kc]) := Lib.hid ((hb5.block _ HN4.out.lt).trans HN4.out)
  have HF5 := Lib.hid (HF4.out.below hb5)
  have HM5 := Lib.hid (HM4.out.below hb5)
  clear hb5
  have a0 := HN5.out.of_cell (i := 0) rfl
  have a1 := HN5.out.of_cell (i := 1) rfl
  have a2 := HN5.out.of_cell (i := 2) rfl
  have al := HN5.out.lt
  have hlen : os.length = l.length := HR.out.ok.ol
  have hOr : Hid (∀ W, Below w5.heap.size w5 W → Rd W 4 OA l.length (os.flatMap ogC)) := Lib.hid (fun W hW => by have := (HF5.out.below hW).o; unfold RowOf at this; rw [hlen] at this; exact this)
  have HLEN := Lib.hid hlen
  clear hlen
  go_wp2_with (at_builtin; refine wpList_app _ rfl (.tmp 62) (.tmp 64) 56 56 rfl w5.heap.size 32 32 iog _ 4 56 Tryz.underlying56 Tryz.underlying56 HIO.out.1 HIO.out.2.1 HIO.out.2.2.1 HIO.out.2.2.2 rfl (by omega) (.slice (some ⟨w5.heap.size, 0, none⟩) 0 0) 0 [] rfl (own_zero w5 _ _) OA l.length oc (os.flatMap ogC) rfl (hOr.out _ (below_alloc (Below.refl _ _) _)) (one_og os) (by simp only [maxLen]; omega) (by omega) (by simp) ?_)
  intro v0 w6 hown hg
  obtain ⟨cl, hcl⟩ : ∃ f : Nat → Bool, f = fun j => (bits BinOp.and IntKind.i64 ((closed : Int) / 2 ^ j) 1 == 1) := ⟨_, rfl⟩
  have HCL := Lib.hid hcl
  clear hcl
  have hb56 := below_zero hg
  have HB6 := Lib.hid (below_trans HB5.out hb56)
  have HB56 := Lib.hid hb56
  obtain ⟨g1, c1, rfl, hg1, hc1, hm1, harr⟩ := Arw.of_own hown hl1
  have HO6 := Lib.hid harr
  have HG1 : Hid (w5.heap.size ≤ g1 ∧ l.length ≤ c1 ∧ c1 ≤ maxLen) := Lib.hid ⟨hg1, hc1, hm1⟩
  clear hown hg harr hg1 hc1 hm1 hb56 a0 a1 a2 al
  go_wp2_with fail
  have HINV0 : Hid (RecM l w5 g1 w6 0 (.slice none 0 0) (.slice none 0 0) os [] (wlL cl 0)) := Lib.hid ⟨HB56.out, HG1.out.1, HO6.out, World.ownsRow_nil _ _ _ _, fun a ha => (by cases ha), World.ownsRow_nil _ _ _ _⟩
  have HPLN0 : Hid (RecP l need ii os cl 0 os []) := Lib.hid ⟨HLEN.out, fun j hj => (by simp), rfl, fun j kr hj => (by omega)⟩
  go_loopw [19, 20, 21, 22, 23, 24] (fun u19 u20 u21 u22 _ _ wr => ∃ (k : Nat) (ot : List Og) (kt : List Kw), k ≤ l.length ∧ u22 = .int .i64 k ∧ u21 = .bool (enL cl need (kt.map (·.l.length)) k) ∧ RecM l w5 g1 wr k u19 u20 ot kt (wlL cl k) ∧ RecP l need ii os cl k ot kt) (fun _ _ _ u22 _ _ _ => l.length - (intOf u22).toNat)
  case atStart => exact ⟨0, os, [], Nat.zero_le _, rfl, rfl, HINV0.out, HPLN0.out⟩
  case round =>
  obtain ⟨k, ot, kt, hk, rfl, rfl, hinv, hpln⟩ := hrel
  obtain ⟨w8, hw8⟩ : ∃ W, W = wr := ⟨wr, rfl⟩
  subst hw8
  have HV := Lib.hid hinv
  have HP := Lib.hid hpln
  obtain ⟨K0, k0, rfl, -, -, hrK⟩ := Rd.of_own hinv.rk
  obtain ⟨W0, w0_, rfl, -, -, hrW⟩ := Rd.of_own hinv.wt
  have HRK := Lib.hid hrK
  have HRW : Hid (Ints w8 W0 (wlL cl k)) := Lib.hid hrW
  clear hrK hrW
  have HBk := Lib.hid (below_trans HB5.out hinv.b)
  clear hinv hpln
  obtain ⟨en, hen⟩ : ∃ b, enL cl need (kt.map (·.l.length)) k = b := ⟨_, rfl⟩
  rw [hen]
  have HEN := Lib.hid hen
  clear hen
  by_cases hlt : k < l.length
  case neg =>
    obtain rfl : k = l.length := by omega
    obtain ⟨nd, hnd, hdv⟩ := okK_num (List.all_eq_true.1 HALL.out x0 (List.mem_of_getElem? HX0.out))
    have hd := recov_draw HR.out HALL.out n HNN.out cl (ot := ot) (fun j hj => by have := HP.out.ov j hj; rw [decide_eq_true hj, Bool.true_and] at this; exact this) (kt := kt) (fun j kr hkr => by rw [Int.toNat_natCast]; exact HP.out.kv j kr (List.getElem?_eq_some_iff.1 hkr).1 hkr) HP.out.ol HP.out.kl
    rw [Int.toNat_natCast, HSM.out, HEN.out] at hd
    have HF8 := HF5.out.below HV.out.b
    have hfit : DrFit w8 CA (l.map (cmK l.length need)) (some ⟨g1, 0, none⟩) ot K0 kt := by
      refine ⟨HF8.c, by unfold RowOf; rw [HP.out.ol]; exact HV.out.o.rd, by unfold RowOf; rw [HP.out.kl]; exact HRK.out, fun o ho => ?_, fun a ha => ?_, HF8.cl, by rw [HP.out.ol]; omega, by rw [HP.out.kl]; omega⟩
      · obtain ⟨j, hj⟩ := List.getElem?_of_mem ho
        have hjl : j < l.length := by have := (List.getElem?_eq_some_iff.1 hj).1; rw [HP.out.ol] at this; exact this
        have h := HP.out.ov j hjl
        rw [hj] at h
        split at h
        · obtain rfl : o = zOg := Option.some.inj h
          exact ⟨⟨rfl, fun h => absurd h (by decide)⟩, Nat.zero_le _, fun s hs => (by cases hs), Nat.zero_le _, ⟨by decide, by decide⟩, ⟨by decide, by decide⟩⟩
        · exact HF8.og o (List.mem_of_getElem? h.symm)
      · obtain ⟨j, hj⟩ := List.getElem?_of_mem ha
        have hjl : j < l.length := by have := (List.getElem?_eq_some_iff.1 hj).1; rw [HP.out.kl] at this; exact this
        obtain ⟨kr, hkr⟩ := get_some l j hjl
        obtain ⟨a', ha', hs⟩ := HP.out.kv j kr hjl hkr
        rw [hj] at ha'
        obtain rfl : a = a' := Option.some.inj ha'
        obtain ⟨h1, -, h3⟩ := HV.out.ka a ha
        refine ⟨h1, fun q hq => ?_, by have := hs.few; omega⟩
        have hp := h3 q hq
        obtain ⟨p, A', c', -, hpm, rfl⟩ := hs.each q hq
        have := kp_fit (List.all_eq_true.1 HALL.out kr (List.mem_of_getElem? hkr)) hpm (c := c') (by rw [Int.toNat_natCast]; exact hp)
        rw [Int.toNat_natCast] at this
        exact this
    have hil : ii < n := by
      obtain ⟨v, hv, -, -, -, h, -⟩ := okK_seed (List.all_eq_true.1 HALL.out x0 (List.mem_of_getElem? HX0.out))
      rw [HNN.out x0 (List.mem_of_getElem? HX0.out), Int.toNat_natCast] at h
      exact h
    have HDR := kdraw_ok CA cc (l.map (cmK l.length need)) n ii (some ⟨g1, 0, none⟩) c1 ot K0 k0 kt nd w8 hfit (by rw [List.length_map]; exact hl1) (by rw [List.length_map]; omega) (by have := HN6.out; omega) hil hdv.one (by rw [List.length_map]; exact hdv.le) (by rw [List.length_map]; exact HP.out.ol) (by rw [List.length_map]; exact HP.out.kl) (HT.out w8 HBk.out)
    rw [← hnd, hd, List.length_map, HP.out.ol, HP.out.kl] at HDR
    have HD := Lib.hid HDR
    have hwl := wlL_len cl l.length
    obtain ⟨WL, hWL⟩ : ∃ L, wlL cl l.length = L := ⟨_, rfl⟩
    rw [hWL] at hwl
    have HWL := Lib.hid hWL
    have HN8 : Hid (Blk w8 w3.heap.size 69 #[.slice CA l.length cc, .slice OA l.length oc, .slice KA l.length kc]) := Lib.hid ((HV.out.b.block _ HN5.out.lt).trans HN5.out)
    have a0 := HN8.out.of_cell (i := 0) rfl
    have an := HN8.out.lt
    clear HDR hd hfit hil hnd hdv HF8
    rw [hWL]
    clear hWL
    cases en
    · have HD0 := HD.out
      rw [if_neg (by decide)] at HD0
      have HD1 := Lib.hid HD0
      clear HD0
      go_wp2_with fail
      refine HD1.out.mono ?_
      rintro e w9 ⟨v, rfl, hown, hb⟩
      obtain ⟨A9, c9, rfl, -, -, -⟩ := Rd.of_own hown
      have HB9 := Lib.hid (below_trans HBk.out hb)
      clear hown hb a0 an
      go_wp2
      all_goals go_ret
      all_goals exact ⟨rfl, HB9.out⟩
    · have HD0 := HD.out
      rw [if_pos rfl, HWL.out] at HD0
      have HD1 := Lib.hid HD0
      clear HD0
      go_wp2_with fail
      refine HD1.out.mono ?_
      rintro e w9 ⟨v, rfl, hown, hb⟩
      obtain ⟨A9, c9, rfl, -, -, hr9⟩ := Rd.of_own hown
      have HB9 := Lib.hid (below_trans HBk.out hb)
      have HI9 : Hid (Ints w9 A9 WL) := Lib.hid hr9
      have HW9 : Hid (Ints w9 W0 WL) := Lib.hid (by have := HRW.out.below hb; rw [HWL.out] at this; exact this)
      clear hown hb a0 an hr9
      go_wp2_with fail
      all_goals (refine (kequal_any A9 W0 c9 w0_ WL WL w9 HI9.out HW9.out (by omega) (by omega)).mono ?_)
      all_goals (rintro e w10 ⟨rfl, hb⟩)
      all_goals (have HB10 := Lib.hid (below_trans HB9.out hb))
      all_goals (rw [decide_eq_true (rfl : WL = WL)])
      all_goals clear hb
      all_goals go_wp2
      all_goals go_ret
      all_goals exact ⟨rfl, HB10.out⟩
  case pos =>
  obtain ⟨x, hx⟩ := get_some l k hlt
  have HX := Lib.hid hx
  obtain ⟨a, ha, hkps⟩ := HR.out.ok.k k x hlt hx
  rw [Int.toNat_natCast] at hkps
  have HKPS := Lib.hid hkps
  have HAM : Hid (a ∈ ks) := Lib.hid (List.mem_of_getElem? ha)
  have hal : a.l.length = l.length := hkps.1
  have HF8 := Lib.hid (HF5.out.below HV.out.b)
  have HM8 := Lib.hid (HM5.out.below HV.out.b)
  have HN8 : Hid (Blk w8 w3.heap.size 69 #[.slice CA l.length cc, .slice OA l.length oc, .slice KA l.length kc]) := Lib.hid ((HV.out.b.block _ HN5.out.lt).trans HN5.out)
  obtain ⟨A0', c0', hq0⟩ := hkps.2 0 (by omega)
  obtain ⟨bS, oS, hAS, -⟩ := kp_cells (HF8.out.kw a HAM.out).row hq0
  have HAS := Lib.hid hAS
  clear hq0
  have HKC : Hid (∀ W, Below w8.heap.size w8 W → ∃ b off, KA = some ⟨b, off, none⟩ ∧ W.cell? ⟨b, off + k, none⟩ = some (.slice (some ⟨bS, oS, none⟩) l.length a.c)) := Lib.hid (fun W hW => by
    obtain ⟨b, off, he, hc⟩ := kw_cells (HF8.out.below hW).k ha
    rw [hal, hAS] at hc
    exact ⟨b, off, he, hc⟩)
  clear hAS
  obtain ⟨bK, oK, hKA, -⟩ := HKC.out w8 (Below.refl _ _)
  subst hKA
  obtain ⟨b_, f_, he, q0⟩ := HKC.out w8 (Below.refl _ _)
  cases he
  have ql := lt_of_cell q0
  have a0 := HN8.out.of_cell (i := 2) rfl
  have an := HN8.out.lt
  have hki : (k : Int) < (l.length : Int) := by omega
  clear hx ha hkps
  go_wp2_with fail
  clear q0 ql a0 an
  go_loopw [23, 24] (fun u23 u24 wr => ∃ (j : Nat) (ls : List Kp), j ≤ l.length ∧ u24 = .int .i64 ((j : Int) - 1) ∧ Below w8.heap.size w8 wr ∧ wr.ownsRow w8.heap.size 50 4 u23 ls.length (ls.flatMap kpC) ∧ SubOk x need.toNat l.length ii j ls ∧ ∀ q, q ∈ ls → PathIn wr q.A q.p) (fun _ u24 _ => (intOf u24 + 1).toNat)
  case atStart => exact ⟨l.length, [], Nat.le_refl _, by first | rfl | simp, Below.refl _ _, World.ownsRow_nil _ _ _ _, SubOk.nil _ _ _ _ _, fun q hq => (by cases hq)⟩
  case round =>
  obtain ⟨j, ls, hj, rfl, hb, hrow, hsub, hpat⟩ := hrel
  have HB8 := Lib.hid hb
  have HRq := Lib.hid hrow
  have HSB := Lib.hid hsub
  have HPS := Lib.hid hpat
  have HLS : Hid (ls.length ≤ 4) := Lib.hid (by have := hsub.few; omega)
  clear hb hrow hsub hpat
  rcases j with _ | j
  case zero =>
    obtain ⟨AS, cS, rfl, -, -, hrS⟩ := Rd.of_own HRq.out
    have HKA : Hid (KwT wr ⟨AS, cS, ls⟩) := Lib.hid ⟨hrS, own_typed HRq.out, HPS.out⟩
    clear hrS
    have HV9 := Lib.hid (HV.out.below HB8.out)
    have hsz := HV9.out.b.size
    go_wp2_with (at_builtin; refine wpList_app _ rfl (.tmp 103) (.tmp 105) 57 57 rfl w5.heap.size 33 33 ikw _ 1 24 Tryz.underlying57 Tryz.underlying57 HIK.out.1 HIK.out.2.1 HIK.out.2.2.1 HIK.out.2.2.2 rfl (by omega) _ k _ rfl (HV9.out.rk.alloc _) _ 1 1 [.slice AS ls.length cS] rfl (Rd_new wr #[.slice AS ls.length cS] _ 1 1 _ rfl rfl) (by simp [Value.oneCell']) (by simp only [maxLen]; omega) (by omega) (by simp; omega) ?_)
    intro v2 w10 hown hg
    obtain ⟨K1, k1, rfl, -, -, -⟩ := Rd.of_own hown
    have HV10 := Lib.hid (HV9.out.stepK (a := ⟨AS, cS, ls⟩) hown hg HKA.out)
    clear hown hg hsz
    obtain ⟨cb, hcb⟩ : ∃ b, cl k = b := ⟨_, rfl⟩
    have hcb' : (bits BinOp.and IntKind.i64 ((closed : Int) / 2 ^ k) 1 == 1) = cb := by rw [← hcb, HCL.out]
    have HCB := Lib.hid hcb
    clear hcb
    have HLN : Hid ((kt.map (·.l.length)).length = k) := Lib.hid (by rw [List.length_map]; exact HP.out.kl)
    have HENX : Hid (enL cl need ((kt ++ [(⟨AS, cS, ls⟩ : Kw)]).map (·.l.length)) (k + 1) = (en && (!cb || decide (need ≤ (ls.length : Int))))) := Lib.hid (by
      rw [List.map_append, enL, enL_append _ _ _ _ _ (by rw [HLN.out]; exact Nat.le_refl _), HEN.out, HCB.out, List.getElem?_append_right (by rw [HLN.out]; exact Nat.le_refl _), HLN.out, Nat.sub_self]
      rfl)
    cases cb
    case false =>
      have HPN := Lib.hid (HP.out.next (a := ⟨AS, cS, ls⟩) HX.out HSB.out (ot' := ot) (by rw [HCB.out]; rfl))
      have HWL : Hid (wlL cl (k + 1) = wlL cl k) := Lib.hid (by rw [wlL, HCB.out]; simp)
      go_wp2_with fail
      go_roundw
      case rel => exact ⟨k + 1, ot, kt ++ [⟨AS, cS, ls⟩], by omega, by go_num, by rw [HENX.out, Bool.not_false, Bool.true_or, Bool.and_true], by rw [HWL.out]; exact HV10.out, HPN.out⟩
      case measure => first | (simp [intOf]; done) | (simp [intOf]; omega)
    case true =>
    have hth : w10.there g1 (k * 4) 4 := HV10.out.o.there (k * 4) 4 (by rw [flatM_length ogC 4 ogC_len, HP.out.ol]; omega)
    obtain ⟨w11, hw11⟩ : ∃ w11, w10.setCells g1 (k * 4) [.int .i64 0, .int .i64 0, .string ⟨#[]⟩, .slice none 0 0] = w11 := ⟨_, rfl⟩
    have hv11 := HV10.out.stepO (k := k) (by rw [HP.out.ol]; exact hlt) zOg
    rw [show ogC zOg = [.int .i64 0, .int .i64 0, .string ⟨#[]⟩, .slice none 0 0] from rfl, hw11] at hv11
    have HV11 := Lib.hid hv11
    have HTH := Lib.hid hth
    have HW11 := Lib.hid hw11
    clear hv11 hth hw11
    repeat (first | (refine wpList_store_mid rfl 32 (.tmp 116) (.tmp 115) rfl g1 (k * 4) #[.int .i64 0, .int .i64 0, .string ⟨#[]⟩, .slice none 0 0] (by rfl) (by rfl) HTH.out (by kernel_rfl) (by simp [Value.oneCell']) ?_; rw [show (#[.int .i64 0, .int .i64 0, .string ⟨#[]⟩, .slice none 0 0] : Array Value).toList = [.int .i64 0, .int .i64 0, .string ⟨#[]⟩, .slice none 0 0] from rfl, HW11.out]) | (at_builtin; refine wpList_app _ rfl (.tmp 117) (.tmp 119) 23 23 rfl w5.heap.size 3 3 iin _ 1 8 Tryz.underlying23 Tryz.underlying23 HII.out.1 HII.out.2.1 HII.out.2.2.1 HII.out.2.2.2 rfl (by omega) _ (wlL cl k).length _ rfl (HV11.out.wt.alloc _) _ 1 1 [.int .i64 k] rfl (Rd_new w11 #[.int .i64 k] _ 1 1 _ rfl rfl) (by simp [Value.oneCell']) (by have := wlL_len cl k; simp only [maxLen]; omega) (by have := wlL_len cl k; omega) (by have := HV11.out.b.size; simp; omega) ?_) | go_values | go_skip | go_guarded | go_step | go_upon)
    intro v3 w12 hown hg
    obtain ⟨K3, k3, rfl, -, -, -⟩ := Rd.of_own hown
    have HWL : Hid (wlL cl (k + 1) = wlL cl k ++ [(k : Int)]) := Lib.hid (by rw [wlL, HCB.out]; simp)
    have hv12 := HV11.out.stepW hown hg
    rw [← HWL.out] at hv12
    have HV12 := Lib.hid hv12
    have HPN := Lib.hid (HP.out.next (a := ⟨AS, cS, ls⟩) HX.out HSB.out (ot' := ot.set k zOg) (by rw [HCB.out]; rfl))
    have hwl : (wlL cl k).length + 1 = (wlL cl (k + 1)).length := by rw [HWL.out]; simp
    clear hown hg hv12
    cases en
    · go_wp2
      go_roundw
      case rel => exact ⟨k + 1, ot.set k zOg, kt ++ [⟨AS, cS, ls⟩], by omega, by go_num, by rw [HENX.out, Bool.false_and], by rw [← hwl]; exact HV12.out, HPN.out⟩
      case measure => first | (simp [intOf]; done) | (simp [intOf]; omega)
    · go_wp2
      go_roundw
      case rel => exact ⟨k + 1, ot.set k zOg, kt ++ [⟨AS, cS, ls⟩], by omega, by go_num, by rw [HENX.out]; simp, by rw [← hwl]; exact HV12.out, HPN.out⟩
      case measure => first | (simp [intOf]; done) | (simp [intOf]; omega)
  case succ =>
  have e : (((j + 1 : Nat)) : Int) - 1 = (j : Int) := by omega
  rw [e]
  clear e
  obtain ⟨A', c', hq⟩ := HKPS.out.2 j (by omega)
  obtain ⟨q, hqe⟩ : ∃ q, q = kpOf x need.toNat l.length ii j A' c' := ⟨_, rfl⟩
  rw [← hqe] at hq
  have HQE := Lib.hid hqe
  clear hqe
  obtain ⟨b_, f_, he, q0⟩ := HKC.out wr HB8.out
  cases he
  have ql := lt_of_cell q0
  have hn8 := (HB8.out.block _ HN8.out.lt).trans HN8.out
  have a0 := Blk.of_cell hn8 (i := 2) rfl
  have an := Blk.lt hn8
  have hki : (k : Int) < (l.length : Int) := by omega
  have hji : (j : Int) < (l.length : Int) := by omega
  have hkw := (HF8.out.below HB8.out).kw a HAM.out
  obtain ⟨b1, off1, hA1, p0, p1, p2, p3⟩ := kp_cells hkw.row hq
  have pl := lt_of_cell p0
  rw [HAS.out] at hA1
  cases hA1
  clear hn8 hkw
  obtain ⟨lb, hlb⟩ : ∃ b, (bits BinOp.and IntKind.i64 ((lost : Int) / 2 ^ (4 * k + j)) 1 == 0) = b := ⟨_, rfl⟩
  cases lb
  case false =>
    clear p0 p1 p2 p3 pl q0 ql
    go_wp2
    go_roundw
    case rel => exact ⟨j, ls, by omega, by go_num, HB8.out, HRq.out, HSB.out.skip, HPS.out⟩
    case measure => first | (simp [intOf]; done) | (simp [intOf]; omega)
  case true =>
  have HQ := Lib.hid hq
  clear hq
  go_wp2_with (at_builtin; refine wpList_app _ rfl (.tmp 92) (.tmp 101) 33 33 rfl w8.heap.size 50 50 ikp _ 4 48 Tryz.underlying33 Tryz.underlying33 HIP.out.1 HIP.out.2.1 HIP.out.2.2.1 HIP.out.2.2.2 rfl (by omega) _ ls.length _ rfl (HRq.out.alloc _) _ 1 1 [.int .i64 q.ix, .int .i64 q.s.1, .int .i64 q.s.2, .slice q.A q.p.length q.c] rfl (Rd_new wr #[.int .i64 q.ix, .int .i64 q.s.1, .int .i64 q.s.2, .slice q.A q.p.length q.c] _ 4 1 _ rfl rfl) (by simp [Value.oneCell']) (by have := HLS.out; simp only [maxLen]; omega) (by have := HLS.out; omega) (by have := HB8.out.size; simp; omega) ?_)
  clear p0 p1 p2 p3 pl q0 ql a0 an
  intro v1 w9 hown hg
  have HB9 : Hid (Below w8.heap.size w8 w9) := Lib.hid ((below_alloc HB8.out _).grown hg (by have := HB8.out.size; simp; omega) (fun j hj => (HRq.out.lt j hj).1))
  have HP9 : Hid (∀ r, r ∈ ls ++ [q] → PathIn w9 r.A r.p) := Lib.hid (fun r hr => by
    rcases List.mem_append.1 hr with h | h
    · exact ((HPS.out r h).below (below_alloc (Below.refl _ _) _)).keep (fun a cs _ hcs => grown_typed (HRq.out.alloc _) hg (by decide) _ cs hcs)
    · rw [List.mem_singleton.1 h]
      exact (HM8.out.2 a HAM.out).2.2 q (List.mem_of_getElem? HQ.out) |>.below HB9.out)
  have e5 : ls.flatMap kpC ++ [.int .i64 q.ix, .int .i64 q.s.1, .int .i64 q.s.2, .slice q.A q.p.length q.c] = (ls ++ [q]).flatMap kpC := by rw [List.flatMap_append]; rfl
  rw [e5] at hown
  have HO9 : Hid (w9.ownsRow w8.heap.size 50 4 v1 (ls ++ [q]).length ((ls ++ [q]).flatMap kpC)) := Lib.hid (by rw [List.length_append]; exact hown)
  clear hown hg e5
  go_wp2
  go_roundw
  case rel => exact ⟨j, ls ++ [q], by omega, by go_num, HB9.out, HO9.out, HSB.out.snoc (by omega) ⟨A', c', HQE.out⟩, HP9.out⟩
  case measure => first | (simp [intOf]; done) | (simp [intOf]; omega)
end

end Go.Proofs.YtjfondfjdhjooaaGreatDoor
