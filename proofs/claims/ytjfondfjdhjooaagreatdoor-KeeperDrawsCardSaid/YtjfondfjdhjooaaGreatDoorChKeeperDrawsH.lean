/- Chapter 30, plain: the nights of honest keepers. Chapter 30: the laws' example: two keepers. Chapter 30: a night's lists fit a draw; the example's keepers are right. Chapter 30, plain: the draw of a night in which all open. Chapter 30: the example's nights. Chapter 30, plain: the example's draws with a seed that is withheld. Chapter 30: the draw of a night in which all open, as a contract. Chapter 30: a draw of two keepers at slot 1, with any openings and shares. Chapter 30: the laws' head. A row that a call owns, by its block: what is read of it, and what a store changes. Chapter 30, plain: few keepers; another seed of one of them. Chapter 30: the law KeeperDraws. -/
import Derived.Test.YtjfondfjdhjooaaGreatDoorChKeeperDrawsG
namespace Go.Proofs.YtjfondfjdhjooaaGreatDoor

section
open Go.RowKit

theorem okK_dv {m : Nat} {need i : Int} {kr : Kr} (h : okK m need i kr = true) : dvB kr.seeds kr.salt need m kr.random = true := by
  unfold okK at h
  rw [Bool.and_eq_true] at h
  exact h.1
theorem okK_seed {m : Nat} {need i : Int} {kr : Kr} (h : okK m need i kr = true) : ∃ v, kr.seeds[i.toNat]? = some v ∧ 0 ≤ v ∧ v ≤ 719 ∧ ((i.toNat : Nat) : Int) = i ∧ i.toNat < kr.seeds.length ∧ kr.seeds.length ≤ 600 := by
  obtain ⟨n', m', -, -, hok⟩ := DivOk.of (okK_dv h)
  unfold okK at h
  rw [Bool.and_eq_true] at h
  have hi := of_decide_eq_true h.2
  obtain ⟨v, hv⟩ := get_some kr.seeds i.toNat (by omega)
  have hr := sdV_at hok.sd hv
  exact ⟨v, hv, hr.1, hr.2, by omega, by omega, hok.few⟩
theorem okK_num {m : Nat} {need i : Int} {kr : Kr} (h : okK m need i kr = true) : ∃ n : Nat, need = n ∧ DivOk kr.seeds n m kr.random := by
  obtain ⟨n', m', hn, hm, hok⟩ := DivOk.of (okK_dv h)
  obtain rfl : m = m' := by omega
  exact ⟨n', hn, hok⟩
theorem cmK_eq {m : Nat} {need i : Int} {kr : Kr} (h : okK m need i kr = true) : cmK m need kr = (rt (ksL kr.seeds kr.salt), rt (khP kr.seeds need.toNat m kr.random kr.seeds.length)) := by
  unfold cmK cmR
  rw [if_pos (okK_dv h), Int.toNat_natCast]
/-- An own opening counts. -/
theorem kone_own {m : Nat} {need i : Int} {kr : Kr} (h : okK m need i kr = true) (A : Option Addr) (c : Nat) (kp : Int) (l : List Kp) (nd : Int) :
    kone (cmK m need kr) (kr.seeds.length : Int) kp i (ogOf kr i.toNat A c) l nd = (kr.seeds[i.toNat]?.getD 0, 0, false) := by
  obtain ⟨v, hv, h0, h1, hi, -, -⟩ := okK_seed h
  have hdv := okK_dv h
  unfold dvB at hdv
  rw [Bool.and_eq_true] at hdv
  have hck := ck_own hdv.1 hv
  unfold kone
  rw [cmK_eq h]
  refine if_pos ⟨hi, ?_⟩
  simp only [ogOf, hv, Option.getD_some]
  exact hck
/-- An own share counts. -/
theorem kgood_own {m : Nat} {need i : Int} {kr : Kr} (h : okK m need i kr = true) (j : Nat) (hj : j < m) (A : Option Addr) (c : Nat) :
    kgood (cmK m need kr).2 (kr.seeds.length : Int) (m : Int) i (kpOf kr need.toNat m i.toNat j A c) = true := by
  obtain ⟨v, hv, -, -, hi, hil, h6⟩ := okK_seed h
  obtain ⟨n, rfl, hok⟩ := okK_num h
  have hkv := kv_own kr.seeds n m kr.random i.toNat j h6 (Nat.le_trans hok.m7 (by omega)) hil hj
  rw [cmK_eq h]
  rw [hi] at hkv
  have her := evp_range (kpoly kr.seeds n kr.random i.toNat) ((j : Int) + 1)
  simp only [kgood, kpOf, Int.toNat_natCast]
  rw [Bool.and_eq_true, Bool.and_eq_true, Bool.and_eq_true]
  exact ⟨⟨⟨decide_eq_true hi, decide_eq_true ⟨by omega, by omega⟩⟩, (elemB_iff _).2 her⟩, by rw [← hi] at hkv ⊢; exact hkv⟩
theorem jfold_all {root : ByteArray} {n kp i : Int} (l : List Kp) (S : List (Int × Int)) (hg : ∀ k, k ∈ l → kgood root n kp i k = true) (hd : (S.map (·.1) ++ l.map (·.s.1)).Nodup) : l.foldl (jst root n kp i) S = S ++ l.map (·.s) := by
  induction l generalizing S with
  | nil => simp
  | cons k l ih =>
    have hk := hg k List.mem_cons_self
    have hn : (S.map (·.1)).contains k.s.1 = false := by
      rw [List.nodup_append] at hd
      simp only [List.contains_eq_mem, decide_eq_false_iff_not]
      intro hm
      exact hd.2.2 k.s.1 hm k.s.1 (by simp) rfl
    have hs : jst root n kp i S k = S ++ [k.s] := by unfold jst; rw [hk, hn]; rfl
    rw [List.foldl_cons, hs, ih _ (fun q hq => hg q (List.mem_cons_of_mem _ hq)) (by simpa using hd)]
    simp
theorem jfd_all {root : ByteArray} {n kp i : Int} {l : List Kp} (hg : ∀ k, k ∈ l → kgood root n kp i k = true) (hd : (l.map (·.s.1)).Nodup) : jfd root n kp i l = l.map (·.s) := by
  unfold jfd
  rw [jfold_all l [] hg (by simpa using hd)]
  rfl
/-- Some own shares, each once: joined they say the seed, if there are enough. -/
theorem kjn_own {m : Nat} {need i : Int} {kr : Kr} (h : okK m need i kr = true) {l : List Kp} (hl : ∀ k, k ∈ l → ∃ j A c, j < m ∧ k = kpOf kr need.toNat m i.toNat j A c) (hd : (l.map (·.s.1)).Nodup) :
    kjn (cmK m need kr).2 (kr.seeds.length : Int) (m : Int) i l need = if (l.length : Int) < need then (0, 25) else (kr.seeds[i.toNat]?.getD 0, 0) := by
  have hg : ∀ k, k ∈ l → kgood (cmK m need kr).2 (kr.seeds.length : Int) (m : Int) i k = true := fun k hk => by
    obtain ⟨j, A, c, hj, rfl⟩ := hl k hk
    exact kgood_own h j hj A c
  have hj := jfd_all hg hd
  have hlen : (jfd (cmK m need kr).2 (kr.seeds.length : Int) (m : Int) i l).length = l.length := by rw [hj, List.length_map]
  obtain ⟨v, hv, hv0, hv1, hi, hil, h6⟩ := okK_seed h
  obtain ⟨n, rfl, hok⟩ := okK_num h
  by_cases hlt : (l.length : Int) < (n : Int)
  · rw [if_pos hlt]
    exact kjn_few (by rw [hlen]; exact hlt)
  · rw [if_neg hlt]
    have hon : On (kpoly kr.seeds n kr.random i.toNat) (jfd (cmK m (n : Int) kr).2 (kr.seeds.length : Int) (m : Int) i l) := jfd_on (by have := hok.m7; omega) (fun k hk _ => by
      obtain ⟨j, A, c, _, rfl⟩ := hl k hk
      simp only [kpOf, Int.toNat_natCast])
    have hp0 : evp (kpoly kr.seeds n kr.random i.toNat) 0 = v := by
      unfold kpoly
      rw [hv]
      simp only [Option.getD_some, evp]
      omega
    have hpl : (kpoly kr.seeds n kr.random i.toNat).length ≤ n := by
      unfold kpoly
      have := hok.one
      simp only [List.length_cons, List.length_take]
      omega
    have := kjn_ok (n := (kr.seeds.length : Int)) (kp := (m : Int)) (i := i) (l := l) (root := (cmK m (n : Int) kr).2) (need := n) hon hok.one (by have := hok.le; have := hok.m7; omega) hpl (by rw [hlen]; omega) (by rw [hp0]; exact hv1)
    rw [this, hp0, hv]
    rfl
/-- A keeper whose opening does not count. -/
theorem kone_held {m : Nat} {need i : Int} {kr : Kr} (h : okK m need i kr = true) {o : Og} (ho : o.ix = i → ckB (cmK m need kr).1 (kr.seeds.length : Int) o.ix o.v o.salt o.p = false) {l : List Kp} (hl : ∀ k, k ∈ l → ∃ j A c, j < m ∧ k = kpOf kr need.toNat m i.toNat j A c) (hd : (l.map (·.s.1)).Nodup) :
    kone (cmK m need kr) (kr.seeds.length : Int) (m : Int) i o l need = if (l.length : Int) < need then (0, 25, true) else (kr.seeds[i.toNat]?.getD 0, 0, true) := by
  unfold kone
  rw [if_neg (fun hc => by rw [ho hc.1] at hc; exact absurd hc.2 (by simp)), kjn_own h hl hd]
  split <;> rfl
theorem ck_empty (root : ByteArray) (n : Int) (ix v : Int) (p : List ByteArray) : ckB root n ix v ⟨#[]⟩ p = false := by
  have : isD (⟨#[]⟩ : ByteArray) = false := by decide
  simp only [ckB, this, Bool.and_false, Bool.false_and]
/-- The kept shares of a night: each once. -/
theorem KpsOk.nodup {kr : Kr} {n m i j : Nat} {l : List Kp} (h : KpsOk kr n m i j l) : (l.map (·.s.1)).Nodup := by
  have e : l.map (·.s.1) = (List.range j).map (fun q : Nat => ((q : Int) + 1)) := by
    apply List.ext_getElem?
    intro q
    by_cases hq : q < j
    · obtain ⟨A, c, hk⟩ := h.2 q hq
      rw [List.getElem?_map, hk, List.getElem?_map, List.getElem?_range hq]
      rfl
    · rw [List.getElem?_eq_none (by rw [List.length_map, h.1]; omega), List.getElem?_eq_none (by rw [List.length_map, List.length_range]; omega)]
  rw [e]
  rw [List.nodup_iff_pairwise_ne, List.pairwise_map]
  exact List.Pairwise.imp (fun {a b} hab => by omega) (List.nodup_iff_pairwise_ne.1 List.nodup_range)
theorem KpsOk.each {kr : Kr} {n m i j : Nat} {l : List Kp} (h : KpsOk kr n m i j l) {k : Kp} (hk : k ∈ l) : ∃ q A c, q < j ∧ k = kpOf kr n m i q A c := by
  obtain ⟨q, hq⟩ := List.getElem?_of_mem hk
  have hql : q < l.length := (List.getElem?_eq_some_iff.1 hq).1
  obtain ⟨A, c, he⟩ := h.2 q (by rw [← h.1]; exact hql)
  rw [hq] at he
  cases he
  exact ⟨q, A, c, by rw [← h.1]; exact hql, rfl⟩
end

section
open Go.RowKit
theorem kex_zero : (Tryz.prog.info? 27).map (fun i => (i.zero, i.size)) = some (some (.agg #[.slice none 0 0, .string ByteArray.empty, .slice none 0 0]), 3) := by kernel_rfl
structure Ex (w : World) (A : Option Addr) (x y : Kr) : Prop where
  row : RowOf krC 3 w A [x, y]
  ix : KrIn w x
  iy : KrIn w y
  xs : x.seeds = [700, 5]
  xt : x.salt = ⟨#[97]⟩
  xr : x.random = [1, 2]
  ys : y.seeds = [50, 719]
  yt : y.salt = ⟨#[98]⟩
  yr : y.random = [3, 4]
theorem kints_new (w : World) (a b : Int) (g : Nat) (hg : g = w.heap.size) : Ints (w.alloc (.cells #[.int .i64 a, .int .i64 b] 3)) (some ⟨g, 0, none⟩) [a, b] :=
  Rd_new w #[.int .i64 a, .int .i64 b] 3 1 2 g rfl hg
set_option maxRecDepth 100000 in
set_option maxHeartbeats 8000000 in
theorem kex_any (w : World) : Calls Tryz.prog 41 #[] w fun e w' => ∃ A x y, e = .returned (.slice A 2 2) ∧ Ex w' A x y ∧ Below w.heap.size w w' := by
  go_enter Tryz.func41, Tryz.ntmps41
  go_wp2
  go_ret
  refine ⟨_, ⟨some ⟨w.heap.size, 0, none⟩, 2, [700, 5], ⟨#[97]⟩, some ⟨w.heap.size + 1, 0, none⟩, 2, [1, 2]⟩, ⟨some ⟨w.heap.size + 2, 0, none⟩, 2, [50, 719], ⟨#[98]⟩, some ⟨w.heap.size + 3, 0, none⟩, 2, [3, 4]⟩, rfl, ?_, ?_⟩
  · refine ⟨?_, ⟨?_, ?_, (show (2 : Nat) ≤ 9223372036854775807 by decide), (show (2 : Nat) ≤ 9223372036854775807 by decide), Nat.le_refl 2, Nat.le_refl 2, (show (1 : Nat) ≤ 9223372036854775807 by decide), (show (2 : Nat) ≤ 9223372036854775807 by decide), (show (2 : Nat) ≤ 9223372036854775807 by decide)⟩, ⟨?_, ?_, (show (2 : Nat) ≤ 9223372036854775807 by decide), (show (2 : Nat) ≤ 9223372036854775807 by decide), Nat.le_refl 2, Nat.le_refl 2, (show (1 : Nat) ≤ 9223372036854775807 by decide), (show (2 : Nat) ≤ 9223372036854775807 by decide), (show (2 : Nat) ≤ 9223372036854775807 by decide)⟩, rfl, rfl, rfl, rfl, rfl, rfl⟩
    · exact Rd_new _ #[.slice (some ⟨w.heap.size, 0, none⟩) 2 2, .string ⟨#[97]⟩, .slice (some ⟨w.heap.size + 1, 0, none⟩) 2 2, .slice (some ⟨w.heap.size + 2, 0, none⟩) 2 2, .string ⟨#[98]⟩, .slice (some ⟨w.heap.size + 3, 0, none⟩) 2 2] 27 3 2 _ rfl (by simp)
    · exact (kints_new w 700 5 _ rfl).below (below_alloc (below_alloc (below_alloc (below_alloc (Below.refl _ _) _) _) _) _)
    · exact (kints_new _ 1 2 _ (by simp)).below (below_alloc (below_alloc (below_alloc (Below.refl _ _) _) _) _)
    · exact (kints_new _ 50 719 _ (by simp)).below (below_alloc (below_alloc (Below.refl _ _) _) _)
    · exact (kints_new _ 3 4 _ (by simp)).below (below_alloc (Below.refl _ _) _)
  · exact below_alloc (below_alloc (below_alloc (below_alloc (below_alloc (Below.refl _ _) _) _) _) _) _
end

section
open Go.RowKit

theorem Ex.ok {w : World} {A : Option Addr} {x y : Kr} (h : Ex w A x y) : okK 2 2 0 x = true ∧ okK 2 2 0 y = true ∧ okK 2 2 1 x = true ∧ okK 2 2 1 y = true := by
  unfold okK
  rw [h.xs, h.xt, h.xr, h.ys, h.yt, h.yr]
  exact ⟨by decide, by decide, by decide, by decide⟩
theorem og_fit {m : Nat} {need i : Int} {kr : Kr} (h : okK m need i kr = true) {w : World} {A : Option Addr} {c : Nat} (hp : PathIn w A (pt (ksL kr.seeds kr.salt) i.toNat)) : OgFit w (ogOf kr i.toNat A c) := by
  obtain ⟨v, hv, h0, h1, hi, hil, h6⟩ := okK_seed h
  have hpl : (pt (ksL kr.seeds kr.salt) i.toNat).length ≤ 600 := by
    rw [pt_len, ksL_length]
    have := plen_lt_n kr.seeds.length i.toNat (by omega)
    omega
  have hsm := allD_sm' (allD_pt (ksL kr.seeds kr.salt) i.toNat (ksL_D _ _))
  refine ⟨hp.1, by show (pt (ksL kr.seeds kr.salt) i.toNat).length ≤ _; omega, fun s hs => by have := hsm s hs; omega, by show (dg _).size ≤ _; rw [dg_size]; omega, ⟨?_, ?_⟩, ⟨?_, ?_⟩⟩
  · show _ ≤ ((i.toNat : Nat) : Int); omega
  · show ((i.toNat : Nat) : Int) ≤ _; omega
  · show _ ≤ kr.seeds[i.toNat]?.getD 0; rw [hv]; show _ ≤ v; omega
  · show kr.seeds[i.toNat]?.getD 0 ≤ _; rw [hv]; show v ≤ _; omega
theorem kp_fit {m : Nat} {need i : Int} {kr : Kr} (h : okK m need i kr = true) {w : World} {A : Option Addr} {c j : Nat} (hj : j < m) (hp : PathIn w A (kpOf kr need.toNat m i.toNat j A c).p) : KpFit w (kpOf kr need.toNat m i.toNat j A c) := by
  obtain ⟨v, hv, h0, h1, hi, hil, h6⟩ := okK_seed h
  obtain ⟨n, rfl, hok⟩ := okK_num h
  have hm7 := hok.m7
  have hlm : kr.seeds.length * m ≤ 4200 := Nat.le_trans (Nat.mul_le_mul h6 hm7) (by omega)
  have him : i.toNat * m + j < kr.seeds.length * m := by
    have : (i.toNat + 1) * m ≤ kr.seeds.length * m := Nat.mul_le_mul_right m hil
    rw [Nat.add_mul, Nat.one_mul] at this
    omega
  have hpl : (kpOf kr (n : Int).toNat m i.toNat j A c).p.length ≤ 4200 := by
    show (pt (khP _ _ _ _ _) _).length ≤ _
    rw [pt_len, khP_length]
    have := plen_lt_n (kr.seeds.length * m) (i.toNat * m + j) (by omega)
    omega
  have hsm := allD_sm' (allD_pt (khP kr.seeds (n : Int).toNat m kr.random kr.seeds.length) (i.toNat * m + j) (khP_D _ _ _ _ _))
  have her := evp_range (kpoly kr.seeds (n : Int).toNat kr.random i.toNat) ((j : Int) + 1)
  refine ⟨hp.1, by omega, fun s hs => by have := hsm s hs; omega, ⟨?_, ?_⟩, ⟨?_, ?_⟩, ⟨?_, ?_⟩⟩
  · show _ ≤ ((i.toNat : Nat) : Int); omega
  · show ((i.toNat : Nat) : Int) ≤ _; omega
  · show _ ≤ (j : Int) + 1; omega
  · show (j : Int) + 1 ≤ _; omega
  · show _ ≤ evp (kpoly kr.seeds (n : Int).toNat kr.random i.toNat) ((j : Int) + 1); omega
  · show evp (kpoly kr.seeds (n : Int).toNat kr.random i.toNat) ((j : Int) + 1) ≤ _; omega
/-- What open answers fits a draw. -/
theorem NightRes.fit {l : List Kr} {need i : Int} {w : World} {CA OA KA : Option Addr} {cc oc kc : Nat} {os : List Og} {ks : List Kw} (h : NightRes l need i w CA cc OA oc KA kc os ks) (ha : l.all (okK l.length need i) = true) (hl : l.length ≤ 7) :
    DrFit w CA (l.map (cmK l.length need)) OA os KA ks := by
  have hok := List.all_eq_true.1 ha
  refine ⟨h.c, h.o, h.k, fun o ho => ?_, fun a hk => ?_, by rw [List.length_map]; omega, by rw [h.ok.ol]; omega, by rw [h.ok.kl]; omega⟩
  · have hp := (h.mem.1 o ho).1
    obtain ⟨j, hj⟩ := List.getElem?_of_mem ho
    have hjl : j < l.length := by have := (List.getElem?_eq_some_iff.1 hj).1; rw [h.ok.ol] at this; exact this
    obtain ⟨kr, hkr⟩ := get_some l j hjl
    obtain ⟨A, c, he⟩ := h.ok.o j kr hjl hkr
    rw [hj] at he
    cases he
    exact og_fit (hok kr (List.mem_of_getElem? hkr)) hp
  · obtain ⟨hr, -, hp⟩ := h.mem.2 a hk
    obtain ⟨j, hj⟩ := List.getElem?_of_mem hk
    have hjl : j < l.length := by have := (List.getElem?_eq_some_iff.1 hj).1; rw [h.ok.kl] at this; exact this
    obtain ⟨kr, hkr⟩ := get_some l j hjl
    obtain ⟨a', he, hks⟩ := h.ok.k j kr hjl hkr
    rw [hj] at he
    cases he
    refine ⟨hr, fun k hkm => ?_, by rw [hks.1]; omega⟩
    have hpk := hp k hkm
    obtain ⟨q, A, c, hq, rfl⟩ := hks.each hkm
    exact kp_fit (hok kr (List.mem_of_getElem? hkr)) hq hpk
end

section
open Go.RowKit

/-- The sum of the first keepers' seeds for a slot. -/
def sds (l : List Kr) (i : Nat) : Nat → Int
  | 0 => 0
  | k + 1 => sds l i k + ((l[k]?.bind fun kr => kr.seeds[i]?).getD 0)
theorem night_len {l : List Kr} {need i : Int} {w : World} {CA OA KA : Option Addr} {cc oc kc : Nat} {os : List Og} {ks : List Kw} (h : NightRes l need i w CA cc OA oc KA kc os ks) (n : Int) :
    (krs (l.map (cmK l.length need)) n i os (ks.map (·.l)) need).length = l.length := by
  unfold krs
  rw [List.length_map, List.length_zip, List.length_zip, List.length_map, List.length_map, h.ok.ol, h.ok.kl, Nat.min_self, Nat.min_self]
theorem night_krs {l : List Kr} {need i : Int} {w : World} {CA OA KA : Option Addr} {cc oc kc : Nat} {os : List Og} {ks : List Kw} (h : NightRes l need i w CA cc OA oc KA kc os ks) (ha : l.all (okK l.length need i) = true) (n : Nat) (hn : ∀ kr, kr ∈ l → kr.seeds.length = n) {k : Nat} {kr : Kr} (hk : l[k]? = some kr) :
    (krs (l.map (cmK l.length need)) (n : Int) i os (ks.map (·.l)) need)[k]? = some (kr.seeds[i.toNat]?.getD 0, 0, false) := by
  have hkl : k < l.length := (List.getElem?_eq_some_iff.1 hk).1
  have hm := List.mem_of_getElem? hk
  obtain ⟨A, c, ho⟩ := h.ok.o k kr hkl hk
  obtain ⟨a, ha', -⟩ := h.ok.k k kr hkl hk
  have h1 : (l.map (cmK l.length need))[k]? = some (cmK l.length need kr) := by rw [List.getElem?_map, hk]; rfl
  have h2 : (ks.map (·.l))[k]? = some a.l := by rw [List.getElem?_map, ha']; rfl
  rw [krs_get h1 ho h2, ← hn kr hm, kone_own (List.all_eq_true.1 ha kr hm)]
theorem night_draw {l : List Kr} {need i : Int} {w : World} {CA OA KA : Option Addr} {cc oc kc : Nat} {os : List Og} {ks : List Kw} (h : NightRes l need i w CA cc OA oc KA kc os ks) (ha : l.all (okK l.length need i) = true) (n : Nat) (hn : ∀ kr, kr ∈ l → kr.seeds.length = n) :
    kall (krs (l.map (cmK l.length need)) (n : Int) i os (ks.map (·.l)) need) = (sds l i.toNat l.length % 720, [], 0) := by
  have hlen := night_len h (n : Int)
  have hat := fun (k : Nat) (kr : Kr) (hk : l[k]? = some kr) => night_krs h ha n hn hk
  generalize krs (l.map (cmK l.length need)) (n : Int) i os (ks.map (·.l)) need = rs at *
  have h0 : ∀ (k : Nat) (r : Int × Int × Bool), rs[k]? = some r → r.2.1 = 0 := fun k r hr => by
    have hkl : k < l.length := by rw [← hlen]; exact (List.getElem?_eq_some_iff.1 hr).1
    obtain ⟨kr, hkr⟩ := get_some l k hkl
    rw [hat k kr hkr] at hr
    cases hr
    rfl
  have hs : ∀ k, k ≤ l.length → ksum rs k = sds l i.toNat k % 720 ∧ kwh rs k = [] := fun k => by
    induction k with
    | zero => intro _; exact ⟨rfl, rfl⟩
    | succ k ih =>
      intro hk
      obtain ⟨i1, i2⟩ := ih (by omega)
      obtain ⟨kr, hkr⟩ := get_some l k (by omega)
      refine ⟨?_, ?_⟩
      · simp only [ksum, sds, hat k kr hkr, hkr, i1, Option.map_some, Option.getD_some, Option.bind_some]
        omega
      · simp only [kwh, hat k kr hkr, i2, Option.map_some, Option.getD_some]
        rfl
  rw [kall_ok h0, hlen, (hs _ (Nat.le_refl _)).1, (hs _ (Nat.le_refl _)).2]
end

section
open Go.RowKit

theorem Ex.all {w : World} {A : Option Addr} {x y : Kr} (h : Ex w A x y) {i : Int} (hi : i = 0 ∨ i = 1) : ([x, y] : List Kr).all (okK ([x, y] : List Kr).length 2 i) = true := by
  obtain ⟨a, b, c, d⟩ := h.ok
  show ([x, y] : List Kr).all (okK 2 2 i) = true
  rcases hi with rfl | rfl
  · rw [List.all_cons, List.all_cons, a, b]; rfl
  · rw [List.all_cons, List.all_cons, c, d]; rfl
theorem Ex.len {w : World} {A : Option Addr} {x y : Kr} (h : Ex w A x y) : ∀ kr, kr ∈ ([x, y] : List Kr) → kr.seeds.length = 2 := fun kr hk => by
  rcases List.mem_cons.1 hk with rfl | hk
  · rw [h.xs]; rfl
  · rw [List.mem_singleton.1 hk, h.ys]; rfl
theorem Ex.sum {w : World} {A : Option Addr} {x y : Kr} (h : Ex w A x y) : sds [x, y] 0 2 % 720 = 30 ∧ sds [x, y] 1 2 % 720 = 4 := by
  constructor
  · simp [sds, h.xs, h.ys]
  · simp [sds, h.xs, h.ys]
theorem jfd_pair (root : ByteArray) (n kp i : Int) (k : Kp) : (jfd root n kp i [k, k]).length ≤ 1 := by
  unfold jfd
  rw [List.foldl_cons, List.foldl_cons, List.foldl_nil]
  cases hg : kgood root n kp i k with
  | false => simp [jst, hg]
  | true => simp [jst, hg]
theorem kopen_ex (i : Int) (hi : i = 0 ∨ i = 1) {w : World} {A : Option Addr} {x y : Kr} (h : Ex w A x y) (hT : Tabs w) :
    Calls Tryz.prog 34 #[.slice A 2 2, .int .i64 2, .int .i64 i] w fun e w' => ∃ CA cc OA oc KA kc os ks, e = .returned (.tuple #[.agg #[.slice CA 2 cc, .slice OA 2 oc, .slice KA 2 kc], .bool true]) ∧ NightRes [x, y] 2 i w' CA cc OA oc KA kc os ks ∧ Below w.heap.size w w' := by
  have ha := h.all hi
  refine (kopen_walk A 2 [x, y] 2 i w h.row (fun kr hk => ?_) (show 2 ≤ 7 by decide) hT).mono ?_
  · rcases List.mem_cons.1 hk with rfl | hk
    · exact h.ix
    · rw [List.mem_singleton.1 hk]; exact h.iy
  · rintro e w' ⟨hb, ⟨hf, -⟩ | ⟨-, CA, cc, OA, oc, KA, kc, os, ks, rfl, hres⟩⟩
    · rw [ha] at hf
      cases hf
    · exact ⟨CA, cc, OA, oc, KA, kc, os, ks, rfl, hres, hb⟩
end

section
open Go.RowKit

theorem ex_less {w : World} {A : Option Addr} {x y : Kr} (h : Ex w A x y) (A0 : Option Addr) (c0 : Nat) (z : Og) (hz : z.salt = ⟨#[]⟩) (l0 l1 : List Kp) :
    krs (([x, y] : List Kr).map (cmK 2 2)) 2 1 [ogOf x 1 A0 c0, z] [l0, l1] 2 = [(5, 0, false), ((kjn (cmK 2 2 y).2 2 2 1 l1 2).1, (kjn (cmK 2 2 y).2 2 2 1 l1 2).2, true)] := by
  have h1 := kone_own h.ok.2.2.1 A0 c0 2 l0 2
  rw [h.len x (by simp), h.xs] at h1
  have h2 : kone (cmK 2 2 y) 2 2 1 z l1 2 = ((kjn (cmK 2 2 y).2 2 2 1 l1 2).1, (kjn (cmK 2 2 y).2 2 2 1 l1 2).2, true) := by
    unfold kone
    rw [if_neg (fun hc => by rw [hz, ck_empty] at hc; exact absurd hc.2 (by simp))]
  show [kone (cmK 2 2 x) 2 2 1 (ogOf x 1 A0 c0) l0 2, kone (cmK 2 2 y) 2 2 1 z l1 2] = _
  rw [h2]
  exact congrArg (· :: _) h1
theorem ex_kall4 : kall [(5, 0, false), (719, 0, true)] = (4, [1], 0) := by decide
theorem ex_kall25 : kall [(5, 0, false), (0, 25, true)] = (0, [], 25) := by decide
theorem ex_held {w : World} {A : Option Addr} {x y : Kr} (h : Ex w A x y) (A0 : Option Addr) (c0 : Nat) (z : Og) (hz : z.salt = ⟨#[]⟩) (l0 l1 : List Kp) (hl : KpsOk y 2 2 1 2 l1) :
    kall (krs (([x, y] : List Kr).map (cmK 2 2)) 2 1 [ogOf x 1 A0 c0, z] [l0, l1] 2) = (4, [1], 0) := by
  have hj := kjn_own h.ok.2.2.2 (l := l1) (fun k hk => by obtain ⟨q, B, d, hq, he⟩ := hl.each hk; exact ⟨q, B, d, hq, he⟩) hl.nodup
  rw [h.len y (by simp), hl.1, h.ys, if_neg (by decide)] at hj
  have hj' : kjn (cmK 2 2 y).2 2 2 1 l1 2 = (719, 0) := hj
  rw [ex_less h A0 c0 z hz, hj']
  exact ex_kall4
theorem ex_one {w : World} {A : Option Addr} {x y : Kr} (h : Ex w A x y) (A0 : Option Addr) (c0 : Nat) (z : Og) (hz : z.salt = ⟨#[]⟩) (l0 : List Kp) (k : Kp) :
    kall (krs (([x, y] : List Kr).map (cmK 2 2)) 2 1 [ogOf x 1 A0 c0, z] [l0, [k]] 2) = (0, [], 25) := by
  have hj : kjn (cmK 2 2 y).2 2 2 1 [k] 2 = (0, 25) := kjn_few (by
    have : (jfd (cmK 2 2 y).2 2 2 1 [k]).length ≤ 1 := (jst_sub (cmK 2 2 y).2 2 2 1 [] k).1
    omega)
  rw [ex_less h A0 c0 z hz, hj]
  exact ex_kall25
theorem ex_twice {w : World} {A : Option Addr} {x y : Kr} (h : Ex w A x y) (A0 : Option Addr) (c0 : Nat) (z : Og) (hz : z.salt = ⟨#[]⟩) (l0 : List Kp) (k : Kp) :
    kall (krs (([x, y] : List Kr).map (cmK 2 2)) 2 1 [ogOf x 1 A0 c0, z] [l0, [k, k]] 2) = (0, [], 25) := by
  have hj : kjn (cmK 2 2 y).2 2 2 1 [k, k] 2 = (0, 25) := kjn_few (by
    have := jfd_pair (cmK 2 2 y).2 2 2 1 k
    omega)
  rw [ex_less h A0 c0 z hz, hj]
  exact ex_kall25
theorem ex_first {w : World} {A : Option Addr} {x y : Kr} (h : Ex w A x y) (B : Option Addr) (d : Nat) : (kpOf y 2 2 1 0 B d).ix = 1 ∧ (kpOf y 2 2 1 0 B d).s = (1, 723) := by
  refine ⟨rfl, ?_⟩
  show ((0 : Int) + 1, evp (kpoly y.seeds 2 y.random 1) ((0 : Int) + 1)) = (1, 723)
  rw [h.ys, h.yr]
  decide
end

section
open Go.RowKit

theorem kdraw_night {l : List Kr} {need i : Int} {w0 : World} {CA OA KA : Option Addr} {cc oc kc : Nat} {os : List Og} {ks : List Kw} (h : NightRes l need i w0 CA cc OA oc KA kc os ks) (ha : l.all (okK l.length need i) = true) (hl : l.length ≤ 7) (h1 : 1 ≤ l.length) (n : Nat) (hn : ∀ kr, kr ∈ l → kr.seeds.length = n)
    (w : World) (hf : DrFit w CA (l.map (cmK l.length need)) OA os KA ks) (hT : Tabs w) :
    Calls Tryz.prog 25 #[.slice CA l.length cc, .int .i64 n, .int .i64 i, .slice OA l.length oc, .slice KA l.length kc, .int .i64 need] w fun e w' => ∃ A c, e = .returned (.tuple #[.int .i64 (sds l i.toNat l.length % 720), .slice A 0 c, .int .i64 0]) ∧ Below w.heap.size w w' := by
  obtain ⟨kr, hkr⟩ := get_some l 0 (by omega)
  have hm := List.mem_of_getElem? hkr
  have hok := List.all_eq_true.1 ha kr hm
  obtain ⟨v, hv, -, -, hi, hil, h6⟩ := okK_seed hok
  rw [hn kr hm] at hil h6
  have hd := night_draw h ha n hn
  obtain ⟨nd, hnd, hdv⟩ := okK_num hok
  have := kdraw_ok CA cc (l.map (cmK l.length need)) n i.toNat OA oc os KA kc ks nd w hf (by rw [List.length_map]; exact h1) (by rw [List.length_map]; exact hl) h6 hil hdv.one (by rw [List.length_map]; exact hdv.le) (by rw [List.length_map]; exact h.ok.ol) (by rw [List.length_map]; exact h.ok.kl) hT
  rw [hi, ← hnd, hd, List.length_map, h.ok.ol, h.ok.kl] at this
  refine this.mono ?_
  rintro e w' ⟨v, rfl, hown, hb⟩
  obtain ⟨A, c, rfl, -, -, -⟩ := Rd.of_own hown
  exact ⟨A, c, rfl, hb⟩
end

section
open Go.RowKit

theorem kdraw_two {x y : Kr} {w : World} {CA OA KA : Option Addr} {cc oc kc : Nat} {o0 o1 : Og} {k0 k1 : Kw} (r : Int × List Int × Int) (hf : DrFit w CA (([x, y] : List Kr).map (cmK 2 2)) OA [o0, o1] KA [k0, k1])
    (hr : kall (krs (([x, y] : List Kr).map (cmK 2 2)) 2 1 [o0, o1] [k0.l, k1.l] 2) = r) (hT : Tabs w) :
    Calls Tryz.prog 25 #[.slice CA 2 cc, .int .i64 2, .int .i64 1, .slice OA 2 oc, .slice KA 2 kc, .int .i64 2] w fun e w' => ∃ v, e = .returned (.tuple #[.int .i64 r.1, v, .int .i64 r.2.2]) ∧ w'.ownsRow w.heap.size 3 1 v r.2.1.length (r.2.1.map (Value.int .i64)) ∧ Below w.heap.size w w' := by
  subst hr
  exact kdraw_ok CA cc (([x, y] : List Kr).map (cmK 2 2)) 2 1 OA oc [o0, o1] KA kc [k0, k1] 2 w hf (show 1 ≤ 2 by decide) (show 2 ≤ 7 by decide) (by decide) (by decide) (by decide) (show 2 ≤ 2 by decide) rfl rfl hT
end

section
open Go.RowKit
set_option maxRecDepth 100000 in
set_option maxHeartbeats 16000000 in
theorem khead_any (w : World) (hT : Tabs w) : Calls Tryz.prog 16 #[] w fun e w' => e = .returned (.bool true) ∧ Below w.heap.size w w' := by
  have HT : Hid (∀ W, Below w.heap.size w W → Tabs W) := Lib.hid (fun W hW => hT.below hW)
  clear hT
  go_enter Tryz.func16, Tryz.ntmps16
  go_wp2_with fail
  refine (kex_any w).mono ?_
  rintro e w1 ⟨A1, x1, y1, rfl, hx1, hb1⟩
  have HX1 := Lib.hid hx1
  have HB1 := Lib.hid hb1
  clear hx1 hb1
  go_wp2_with fail
  refine (kopen_ex 0 (.inl rfl) HX1.out (HT.out w1 HB1.out)).mono ?_
  rintro e w2 ⟨CA1, cc1, OA1, oc1, KA1, kc1, os1, ks1, rfl, hr1, hb2⟩
  have HR1 := Lib.hid hr1
  have HB2 := Lib.hid (below_trans HB1.out hb2)
  clear hr1 hb2
  obtain ⟨w3, hw3⟩ : ∃ w3, w2.alloc (.cells #[.slice CA1 2 cc1, .slice OA1 2 oc1, .slice KA1 2 kc1] 69) = w3 := ⟨_, rfl⟩
  have HB3 : Hid (Below w.heap.size w w3) := Lib.hid (by rw [← hw3]; exact below_alloc HB2.out _)
  have HN1 : Hid (Blk w3 w2.heap.size 69 #[.slice CA1 2 cc1, .slice OA1 2 oc1, .slice KA1 2 kc1]) := Lib.hid (by rw [← hw3]; exact Blk.new _ _ _ _ rfl)
  have HF1 : Hid (DrFit w3 CA1 (([x1, y1] : List Kr).map (cmK 2 2)) OA1 os1 KA1 ks1) := Lib.hid (by rw [← hw3]; exact (HR1.out.fit (HX1.out.all (.inl rfl)) (show 2 ≤ 7 by decide)).below (below_alloc (Below.refl _ _) _))
  go_wp2_with fail
  refine (kex_any w3).mono ?_
  rintro e w4 ⟨A2, x2, y2, rfl, hx2, hb4⟩
  have HX2 := Lib.hid hx2
  have HB4 := Lib.hid hb4
  clear hx2 hb4
  go_wp2_with fail
  refine (kopen_ex 1 (.inr rfl) HX2.out (HT.out w4 (below_trans HB3.out HB4.out))).mono ?_
  rintro e w5 ⟨CA2, cc2, OA2, oc2, KA2, kc2, os2, ks2, rfl, hr2, hb5⟩
  have HR2 := Lib.hid hr2
  have HB5 := Lib.hid (below_trans (below_trans HB3.out HB4.out) hb5)
  have HB35 := Lib.hid (below_trans HB4.out hb5)
  clear hr2 hb5
  obtain ⟨w6, hw6⟩ : ∃ w6, w5.alloc (.cells #[.slice CA2 2 cc2, .slice OA2 2 oc2, .slice KA2 2 kc2] 69) = w6 := ⟨_, rfl⟩
  have HB6 : Hid (Below w.heap.size w w6) := Lib.hid (by rw [← hw6]; exact below_alloc HB5.out _)
  have HB36 : Hid (Below w3.heap.size w3 w6) := Lib.hid (by rw [← hw6]; exact below_alloc HB35.out _)
  have HN2 : Hid (Blk w6 w5.heap.size 69 #[.slice CA2 2 cc2, .slice OA2 2 oc2, .slice KA2 2 kc2]) := Lib.hid (by rw [← hw6]; exact Blk.new _ _ _ _ rfl)
  have HF2 : Hid (DrFit w6 CA2 (([x2, y2] : List Kr).map (cmK 2 2)) OA2 os2 KA2 ks2) := Lib.hid (by rw [← hw6]; exact (HR2.out.fit (HX2.out.all (.inr rfl)) (show 2 ≤ 7 by decide)).below (below_alloc (Below.refl _ _) _))
  have HN6 : Hid (Blk w6 w2.heap.size 69 #[.slice CA1 2 cc1, .slice OA1 2 oc1, .slice KA1 2 kc1]) := Lib.hid ((HB36.out.block _ HN1.out.lt).trans HN1.out)
  have HF6 := Lib.hid (HF1.out.below HB36.out)
  have a0 := HN6.out.of_cell (i := 0) rfl
  have a1 := HN6.out.of_cell (i := 1) rfl
  have a2 := HN6.out.of_cell (i := 2) rfl
  have al := HN6.out.lt
  go_wp2_with fail
  refine (kdraw_night HR1.out (HX1.out.all (.inl rfl)) (show 2 ≤ 7 by decide) (show 1 ≤ 2 by decide) 2 HX1.out.len w6 HF6.out (HT.out w6 HB6.out)).mono ?_
  rintro e w7 ⟨WA1, wc1, rfl, hb7⟩
  have HS1 : Hid (sds [x1, y1] (0 : Int).toNat ([x1, y1] : List Kr).length % 720 = 30) := Lib.hid HX1.out.sum.1
  rw [HS1.out]
  have HN7 : Hid (Blk w7 w5.heap.size 69 #[.slice CA2 2 cc2, .slice OA2 2 oc2, .slice KA2 2 kc2]) := Lib.hid ((hb7.block _ HN2.out.lt).trans HN2.out)
  have HF7 := Lib.hid (HF2.out.below hb7)
  have HB7 := Lib.hid (below_trans HB6.out hb7)
  clear hb7 a0 a1 a2 al
  have a0 := HN7.out.of_cell (i := 0) rfl
  have a1 := HN7.out.of_cell (i := 1) rfl
  have a2 := HN7.out.of_cell (i := 2) rfl
  have al := HN7.out.lt
  go_wp2_with fail
  refine (kdraw_night HR2.out (HX2.out.all (.inr rfl)) (show 2 ≤ 7 by decide) (show 1 ≤ 2 by decide) 2 HX2.out.len w7 HF7.out (HT.out w7 HB7.out)).mono ?_
  rintro e w8 ⟨WA2, wc2, rfl, hb8⟩
  have HN8 : Hid (Blk w8 w5.heap.size 69 #[.slice CA2 2 cc2, .slice OA2 2 oc2, .slice KA2 2 kc2]) := Lib.hid ((hb8.block _ HN7.out.lt).trans HN7.out)
  have HF8 := Lib.hid (HF7.out.below hb8)
  have HB8 := Lib.hid (below_trans HB7.out hb8)
  have HS2 : Hid (sds [x2, y2] (1 : Int).toNat ([x2, y2] : List Kr).length % 720 = 4) := Lib.hid HX2.out.sum.2
  rw [HS2.out]
  clear hb8 a0 a1 a2 al
  obtain ⟨o0, o1, rfl⟩ : ∃ o0 o1, os2 = [o0, o1] := by
    have := HR2.out.ok.ol
    match os2, this with
    | [a, b], _ => exact ⟨a, b, rfl⟩
  obtain ⟨A0, c0, h0⟩ := HR2.out.ok.o 0 x2 (show 0 < 2 by decide) rfl
  obtain rfl : o0 = ogOf x2 1 A0 c0 := Option.some.inj h0
  obtain ⟨bo, oo, rfl, hoc⟩ := HF8.out.o.at_ ogC_len (k := 0) (a := ogOf x2 1 A0 c0) rfl
  have q0 := hoc 0 _ rfl
  have q1 := hoc 1 _ rfl
  have q2 := hoc 2 _ rfl
  have q3 := hoc 3 _ rfl
  have ql := lt_of_cell q0
  simp only [Nat.zero_mul, Nat.add_zero] at q0 q1 q2 q3
  have a0 := HN8.out.of_cell (i := 0) rfl
  have a1 := HN8.out.of_cell (i := 1) rfl
  have a2 := HN8.out.of_cell (i := 2) rfl
  have al := HN8.out.lt
  clear hoc h0
  go_wp2_with fail
  clear q0 q1 q2 q3 ql a0 a1 a2 al
  obtain ⟨k0, k1, rfl⟩ : ∃ k0 k1, ks2 = [k0, k1] := by
    have := HR2.out.ok.kl
    match ks2, this with
    | [a, b], _ => exact ⟨a, b, rfl⟩
  have hk1 : KpsOk y2 2 2 1 2 k1.l := by
    obtain ⟨a, he, h⟩ := HR2.out.ok.k 1 y2 (show 1 < 2 by decide) rfl
    obtain rfl : k1 = a := Option.some.inj he
    exact h
  have HK1 := Lib.hid hk1
  clear hk1
  have HZ : Hid (∀ W, OgFit W ⟨0, 0, ⟨#[]⟩, none, 0, []⟩) := Lib.hid (fun W => ⟨⟨rfl, fun h => absurd h (by decide)⟩, Nat.zero_le _, fun s hs => (by cases hs), Nat.zero_le _, ⟨by decide, by decide⟩, ⟨by decide, by decide⟩⟩)
  have HB9 : Hid (∀ o, Below w8.heap.size w8 (w8.alloc o)) := Lib.hid (fun o => below_alloc (Below.refl _ _) o)
  have HL9 : Hid (∀ (W : World), W = w8.alloc (.cells #[.int .i64 ((ogOf x2 1 A0 c0).ix), .int .i64 ((ogOf x2 1 A0 c0).v), .string ((ogOf x2 1 A0 c0).salt), .slice A0 (ogOf x2 1 A0 c0).p.length c0, .int .i64 0, .int .i64 0, .string ⟨#[]⟩, .slice none 0 0] 32) → DrFit W CA2 (([x2, y2] : List Kr).map (cmK 2 2)) (some ⟨w8.heap.size, 0, none⟩) [ogOf x2 1 A0 c0, ⟨0, 0, ⟨#[]⟩, none, 0, []⟩] KA2 [k0, k1]) := Lib.hid (fun W hW => by
    have hbW : Below w8.heap.size w8 W := by rw [hW]; exact HB9.out _
    have hf := HF8.out.below hbW
    refine ⟨hf.c, ?_, hf.k, fun o ho => ?_, hf.kw, hf.cl, hf.ol, hf.kl⟩
    · rw [hW]; exact Rd_new w8 _ _ 4 2 _ rfl rfl
    · rcases List.mem_cons.1 ho with rfl | ho
      · exact hf.og _ (by simp)
      · rw [List.mem_singleton.1 ho]; exact HZ.out _)
  refine (kdraw_two (4, [1], 0) (HL9.out _ rfl) (ex_held HX2.out A0 c0 ⟨0, 0, ⟨#[]⟩, none, 0, []⟩ rfl k0.l k1.l HK1.out) (HT.out _ (below_trans HB8.out (HB9.out _)))).mono ?_
  rintro e w10 ⟨v10, rfl, ho10, hb10⟩
  obtain ⟨A10, c10, rfl, -, -, hi10⟩ := Rd.of_own ho10
  have HI10 : Hid (Ints w10 A10 [1]) := Lib.hid hi10
  clear hi10
  have hb8a : Below w8.heap.size w8 w10 := below_trans (HB9.out _) hb10
  have HB10 := Lib.hid (below_trans HB8.out hb8a)
  have HN10 : Hid (Blk w10 w5.heap.size 69 #[.slice CA2 2 cc2, .slice (some ⟨bo, oo, none⟩) 2 oc2, .slice KA2 2 kc2]) := Lib.hid ((hb8a.block _ HN8.out.lt).trans HN8.out)
  have HF10 := Lib.hid (HF8.out.below hb8a)
  have HL10 := Lib.hid ((HL9.out _ rfl).below hb10)
  clear hb8a hb10 ho10
  obtain ⟨bk, ok_, rfl, hkc⟩ := HF10.out.k.at_ kwC_len (k := 1) (a := k1) rfl
  have r0 := hkc 0 _ rfl
  obtain ⟨s0, s1, hs⟩ : ∃ s0 s1, k1.l = [s0, s1] := by
    have := HK1.out.1
    match k1.l, this with
    | [a, b], _ => exact ⟨a, b, rfl⟩
  have hrow := (HF10.out.kw k1 (by simp)).row
  rw [hs] at hrow
  obtain ⟨b1, off1, hA1, hsc⟩ := hrow.at_ kpC_len (k := 0) (a := s0) rfl
  have p0 := hsc 0 _ rfl
  have p1 := hsc 1 _ rfl
  have p2 := hsc 2 _ rfl
  have p3 := hsc 3 _ rfl
  have pl := lt_of_cell p0
  have rl := lt_of_cell r0
  rw [hA1, hs] at r0
  simp only [Nat.zero_mul, Nat.add_zero] at p0 p1 p2 p3 r0
  have a0 := HN10.out.of_cell (i := 0) rfl
  have a1 := HN10.out.of_cell (i := 1) rfl
  have a2 := HN10.out.of_cell (i := 2) rfl
  have al := HN10.out.lt
  clear hkc hsc hrow
  go_wp2_with fail
  clear p0 p1 p2 p3 pl rl r0 a0 a1 a2 al
  have HS0 : Hid (∀ W, Below w10.heap.size w10 W → KpFit W s0) := Lib.hid (fun W hW => ((HF10.out.kw k1 (by simp)).each s0 (by rw [hs]; simp)).below hW)
  have HL11 : Hid (∀ (W : World), W = ((w10.alloc (.cells #[.int .i64 s0.ix, .int .i64 s0.s.1, .int .i64 s0.s.2, .slice s0.A s0.p.length s0.c] 50)).alloc (.cells #[.int .i64 s0.ix, .int .i64 s0.s.1, .int .i64 s0.s.2, .slice s0.A s0.p.length s0.c] 50)).alloc (.cells #[.slice none 0 0, .slice (some ⟨w10.heap.size + 1, 0, none⟩) 1 1] 33) → Below w10.heap.size w10 W ∧ DrFit W CA2 (([x2, y2] : List Kr).map (cmK 2 2)) (some ⟨w8.heap.size, 0, none⟩) [ogOf x2 1 A0 c0, ⟨0, 0, ⟨#[]⟩, none, 0, []⟩] (some ⟨w10.heap.size + 2, 0, none⟩) [⟨none, 0, []⟩, ⟨some ⟨w10.heap.size + 1, 0, none⟩, 1, [s0]⟩]) := Lib.hid (fun W hW => by
    have hbW : Below w10.heap.size w10 W := by rw [hW]; exact below_alloc (below_alloc (below_alloc (Below.refl _ _) _) _) _
    have hf := HL10.out.below hbW
    refine ⟨hbW, hf.c, hf.o, ?_, hf.og, fun k hk => ?_, hf.cl, hf.ol, (show 2 ≤ 9223372036854775807 by decide)⟩
    · rw [hW]; exact Rd_new _ #[.slice none 0 0, .slice (some ⟨w10.heap.size + 1, 0, none⟩) 1 1] _ 1 2 _ rfl (by simp)
    · rcases List.mem_cons.1 hk with rfl | hk
      · exact ⟨RowOf.nil _ _ _ _, fun q hq => (by cases hq), Nat.zero_le _⟩
      · rw [List.mem_singleton.1 hk]
        refine ⟨?_, fun q hq => ?_, (show 1 ≤ 1000 by decide)⟩
        · rw [hW]
          exact RowOf.below (l := [s0]) (f := kpC) (m := 4) (Rd_new (w10.alloc (.cells #[.int .i64 s0.ix, .int .i64 s0.s.1, .int .i64 s0.s.2, .slice s0.A s0.p.length s0.c] 50)) #[.int .i64 s0.ix, .int .i64 s0.s.1, .int .i64 s0.s.2, .slice s0.A s0.p.length s0.c] 50 4 1 (w10.heap.size + 1) rfl (by simp)) (below_alloc (Below.refl _ _) _)
        · rw [List.mem_singleton.1 hq]; exact HS0.out W hbW)
  refine (kdraw_two (0, [], 25) (HL11.out _ rfl).2 (ex_one HX2.out A0 c0 ⟨0, 0, ⟨#[]⟩, none, 0, []⟩ rfl [] s0) (HT.out _ (below_trans HB10.out (HL11.out _ rfl).1))).mono ?_
  rintro e w11 ⟨v11, rfl, ho11, hb11⟩
  have hbb := below_trans (HL11.out _ rfl).1 hb11
  have HB11 := Lib.hid (below_trans HB10.out hbb)
  have HL12 := Lib.hid (HL10.out.below hbb)
  have HF11 := Lib.hid (HF10.out.below hbb)
  have HN11 : Hid (Blk w11 w5.heap.size 69 #[.slice CA2 2 cc2, .slice (some ⟨bo, oo, none⟩) 2 oc2, .slice (some ⟨bk, ok_, none⟩) 2 kc2]) := Lib.hid ((hbb.block _ HN10.out.lt).trans HN10.out)
  have HBK11 : Hid (Blk w11 w10.heap.size 50 #[.int .i64 s0.ix, .int .i64 s0.s.1, .int .i64 s0.s.2, .slice s0.A s0.p.length s0.c]) := Lib.hid (by
    have h := ((Blk.new w10 50 #[.int .i64 s0.ix, .int .i64 s0.s.1, .int .i64 s0.s.2, .slice s0.A s0.p.length s0.c] _ rfl).alloc (.cells #[.int .i64 s0.ix, .int .i64 s0.s.1, .int .i64 s0.s.2, .slice s0.A s0.p.length s0.c] 50)).alloc (.cells #[.slice none 0 0, .slice (some ⟨w10.heap.size + 1, 0, none⟩) 1 1] 33)
    exact (hb11.block _ h.lt).trans h)
  have HI11 := Lib.hid (HI10.out.below hbb)
  have HS11 : Hid (∀ W, Below w11.heap.size w11 W → KpFit W s0) := Lib.hid (fun W hW => HS0.out W (below_trans hbb hW))
  have HG : Hid (s0.ix = 1 ∧ s0.s = (1, 723)) := Lib.hid (by
    obtain ⟨B, d, h⟩ := HK1.out.2 0 (by decide)
    rw [hs] at h
    obtain rfl : s0 = kpOf y2 2 2 1 0 B d := Option.some.inj h
    exact ex_first HX2.out B d)
  clear hb11
  have a0 := HN11.out.of_cell (i := 0) rfl
  have a1 := HN11.out.of_cell (i := 1) rfl
  have a2 := HN11.out.of_cell (i := 2) rfl
  have al := HN11.out.lt
  have p0 := HBK11.out.of_cell (i := 0) rfl
  have p1 := HBK11.out.of_cell (i := 1) rfl
  have p2 := HBK11.out.of_cell (i := 2) rfl
  have p3 := HBK11.out.of_cell (i := 3) rfl
  have pl := HBK11.out.lt
  clear hbb
  go_wp2_with fail
  clear p0 p1 p2 p3 pl a0 a1 a2 al
  have HL13 : Hid (∀ (W : World), W = (w11.alloc (.cells #[.int .i64 s0.ix, .int .i64 s0.s.1, .int .i64 s0.s.2, .slice s0.A s0.p.length s0.c, .int .i64 s0.ix, .int .i64 s0.s.1, .int .i64 s0.s.2, .slice s0.A s0.p.length s0.c] 50)).alloc (.cells #[.slice none 0 0, .slice (some ⟨w11.heap.size, 0, none⟩) 2 2] 33) → Below w11.heap.size w11 W ∧ DrFit W CA2 (([x2, y2] : List Kr).map (cmK 2 2)) (some ⟨w8.heap.size, 0, none⟩) [ogOf x2 1 A0 c0, ⟨0, 0, ⟨#[]⟩, none, 0, []⟩] (some ⟨w11.heap.size + 1, 0, none⟩) [⟨none, 0, []⟩, ⟨some ⟨w11.heap.size, 0, none⟩, 2, [s0, s0]⟩]) := Lib.hid (fun W hW => by
    have hbW : Below w11.heap.size w11 W := by rw [hW]; exact below_alloc (below_alloc (Below.refl _ _) _) _
    have hf := HL12.out.below hbW
    refine ⟨hbW, hf.c, hf.o, ?_, hf.og, fun k hk => ?_, hf.cl, hf.ol, (show 2 ≤ 9223372036854775807 by decide)⟩
    · rw [hW]; exact Rd_new _ #[.slice none 0 0, .slice (some ⟨w11.heap.size, 0, none⟩) 2 2] _ 1 2 _ rfl (by simp)
    · rcases List.mem_cons.1 hk with rfl | hk
      · exact ⟨RowOf.nil _ _ _ _, fun q hq => (by cases hq), Nat.zero_le _⟩
      · rw [List.mem_singleton.1 hk]
        refine ⟨?_, fun q hq => ?_, (show 2 ≤ 1000 by decide)⟩
        · rw [hW]
          exact RowOf.below (l := [s0, s0]) (f := kpC) (m := 4) (Rd_new w11 #[.int .i64 s0.ix, .int .i64 s0.s.1, .int .i64 s0.s.2, .slice s0.A s0.p.length s0.c, .int .i64 s0.ix, .int .i64 s0.s.1, .int .i64 s0.s.2, .slice s0.A s0.p.length s0.c] 50 4 2 _ rfl rfl) (below_alloc (Below.refl _ _) _)
        · obtain rfl : q = s0 := by simpa using hq
          exact HS11.out W hbW)
  refine (kdraw_two (0, [], 25) (HL13.out _ rfl).2 (ex_twice HX2.out A0 c0 ⟨0, 0, ⟨#[]⟩, none, 0, []⟩ rfl [] s0) (HT.out _ (below_trans HB11.out (HL13.out _ rfl).1))).mono ?_
  rintro e w12 ⟨v12, rfl, ho12, hb12⟩
  have hbb := below_trans (HL13.out _ rfl).1 hb12
  have HB12 := Lib.hid (below_trans HB11.out hbb)
  have HF12 := Lib.hid (HF11.out.below hbb)
  have HN12 : Hid (Blk w12 w5.heap.size 69 #[.slice CA2 2 cc2, .slice (some ⟨bo, oo, none⟩) 2 oc2, .slice (some ⟨bk, ok_, none⟩) 2 kc2]) := Lib.hid ((hbb.block _ HN11.out.lt).trans HN11.out)
  have HBK12 : Hid (Blk w12 w10.heap.size 50 #[.int .i64 s0.ix, .int .i64 s0.s.1, .int .i64 s0.s.2, .slice s0.A s0.p.length s0.c]) := Lib.hid ((hbb.block _ HBK11.out.lt).trans HBK11.out)
  have HI12 := Lib.hid (HI11.out.below hbb)
  clear hbb hb12 ho12 ho11
  have a0 := HN12.out.of_cell (i := 0) rfl
  have a1 := HN12.out.of_cell (i := 1) rfl
  have a2 := HN12.out.of_cell (i := 2) rfl
  have al := HN12.out.lt
  go_wp2_with fail
  refine (kdraw_bad CA2 cc2 (([x2, y2] : List Kr).map (cmK 2 2)) 2 2 (some ⟨bo, oo, none⟩) oc2 [ogOf x2 1 A0 c0, o1] (some ⟨bk, ok_, none⟩) kc2 [k0, k1] 2 w12 (show 2 ≤ 9223372036854775807 by decide) (show 2 ≤ 9223372036854775807 by decide) (show 2 ≤ 9223372036854775807 by decide) ⟨by decide, by decide⟩ (fun h => absurd h.2.2.2.2.2.1 (by decide))).mono ?_
  rintro e w13 ⟨rfl, rfl⟩
  clear a0 a1 a2 al
  go_wp2_with fail
  refine (kequal_any A10 (some ⟨w12.heap.size, 0, none⟩) c10 1 [1] [1] _ (HI12.out.below (below_alloc (Below.refl _ _) _)) (Rd_new w12 #[.int .i64 1] 3 1 1 _ rfl rfl) (by decide) (by decide)).mono ?_
  rintro e w14 ⟨rfl, hb14⟩
  have hbb := below_trans (below_alloc (Below.refl _ _) _) hb14
  have HB14 := Lib.hid (below_trans HB12.out hbb)
  have HBK14 : Hid (Blk w14 w10.heap.size 50 #[.int .i64 1, .int .i64 1, .int .i64 723, .slice s0.A s0.p.length s0.c]) := Lib.hid (by
    have h := (hbb.block _ HBK12.out.lt).trans HBK12.out
    rw [HG.out.1, HG.out.2] at h
    exact h)
  clear hbb hb14
  have p0 := HBK14.out.of_cell (i := 0) rfl
  have p1 := HBK14.out.of_cell (i := 1) rfl
  have p2 := HBK14.out.of_cell (i := 2) rfl
  have p3 := HBK14.out.of_cell (i := 3) rfl
  have pl := HBK14.out.lt
  rw [show decide (([1] : List Int) = [1]) = true from rfl]
  go_wp2
  go_ret
  exact ⟨rfl, HB14.out⟩
end

section
open Go.RowKit

def Arw (w : World) (e size g n : Nat) (xs : List Value) : Prop := xs.length = n * size ∧ ∃ cur : Array Value, Blk w g e cur ∧ n * size ≤ cur.size ∧ cur.toList.take (n * size) = xs
theorem Arw.of_own {w : World} {base e size n : Nat} {v : Value} {xs : List Value} (h : w.ownsRow base e size v n xs) (hn : 0 < n) : ∃ g cap, v = .slice (some ⟨g, 0, none⟩) n cap ∧ base ≤ g ∧ n ≤ cap ∧ cap ≤ maxLen ∧ Arw w e size g n xs := by
  obtain ⟨h1, h2⟩ := h
  rcases h2 with ⟨-, h0⟩ | ⟨g, cap, cur, rfl, hb, hg, hc, hm, hs, ht⟩
  · omega
  · exact ⟨g, cap, rfl, hb, hc, hm, h1, cur, hg, by rw [hs]; exact Nat.mul_le_mul_right size hc, ht⟩
theorem Arw.get {w : World} {e size g n : Nat} {xs : List Value} (h : Arw w e size g n xs) {j : Nat} {u : Value} (hj : xs[j]? = some u) : w.cell? ⟨g, j, none⟩ = some u := by
  obtain ⟨h1, cur, hb, hs, ht⟩ := h
  rw [hb.cell]
  rw [← ht, List.getElem?_take] at hj
  split at hj
  · simpa using hj
  · cases hj
theorem Arw.frozen {w : World} {e size g n : Nat} {xs : List Value} (h : Arw w e size g n xs) (j : Nat) : w.frozen? ⟨g, j, none⟩ = false := by
  obtain ⟨h1, cur, hb, hs, ht⟩ := h
  exact hb.frozen j
theorem Arw.lt {w : World} {e size g n : Nat} {xs : List Value} (h : Arw w e size g n xs) : g < w.heap.size := by
  obtain ⟨h1, cur, hb, hs, ht⟩ := h
  exact hb.lt
theorem Arw.blk {w : World} {e size g n : Nat} {xs : List Value} (h : Arw w e size g n xs) : ∃ cs, Blk w g e cs := by
  obtain ⟨h1, cur, hb, hs, ht⟩ := h
  exact ⟨cur, hb⟩
theorem Arw.kept {w w' : World} {e size g n : Nat} {xs : List Value} (h : Arw w e size g n xs) (hk : w'.heap[g]? = w.heap[g]?) : Arw w' e size g n xs := by
  obtain ⟨h1, cur, hb, hs, ht⟩ := h
  exact ⟨h1, cur, hk.trans hb, hs, ht⟩
theorem Arw.below {w w' : World} {e size g n : Nat} {xs : List Value} (h : Arw w e size g n xs) (hb : Below w.heap.size w w') : Arw w' e size g n xs := h.kept (hb.block g h.lt)
theorem Arw.set {w : World} {e size g n : Nat} {xs : List Value} (h : Arw w e size g n xs) (j : Nat) (u : Value) : Arw (w.setCell ⟨g, j, none⟩ u) e size g n (xs.set j u) := by
  obtain ⟨h1, cur, hb, hs, ht⟩ := h
  refine ⟨by rw [List.length_set]; exact h1, cur.setIfInBounds j u, hb.set j u, by simpa using hs, ?_⟩
  rw [Array.toList_setIfInBounds, List.take_set, ht]
theorem Arw.far {w : World} {e size g n : Nat} {xs : List Value} (h : Arw w e size g n xs) {p : Addr} (hp : g ≠ p.block) (u : Value) : Arw (w.setCell p u) e size g n xs := h.kept (Below.heap_setCell w p u g hp)
theorem Arw.rd {w : World} {e size g n : Nat} {xs : List Value} (h : Arw w e size g n xs) : Rd w size (some ⟨g, 0, none⟩) n xs :=
  ⟨h.1, fun _ => ⟨g, 0, rfl, fun j u hu => by rw [Nat.zero_add]; exact h.get hu⟩⟩
theorem Arw.ne {w : World} {e size g n e' size' g' n' : Nat} {xs ys : List Value} (h : Arw w e size g n xs) (h' : Arw w e' size' g' n' ys) (he : e ≠ e') : g ≠ g' := by
  obtain ⟨c, hc⟩ := h.blk
  obtain ⟨d, hd⟩ := h'.blk
  exact hc.ne_ hd he
theorem Arw.drew {w : World} {e size g n : Nat} {xs : List Value} (h : Arw w e size g n xs) (q : Nat) : Arw (w.drewN q) e size g n xs := h

/-- One cell of one element is set. -/
theorem flatM_set {α : Type} (f : α → List Value) (m : Nat) (hf : ∀ a, (f a).length = m) (l : List α) (k : Nat) (x y : α) (hx : l[k]? = some x) (r : Nat) (hr : r < m) (u : Value) (hy : f y = (f x).set r u) : (l.flatMap f).set (k * m + r) u = (l.set k y).flatMap f := by
  induction l generalizing k with
  | nil => simp at hx
  | cons b l ih =>
    rw [List.flatMap_cons]
    cases k with
    | zero =>
      obtain rfl : b = x := by simpa using hx
      rw [Nat.zero_mul, Nat.zero_add, List.set_append_left _ _ (by rw [hf]; exact hr), List.set_cons_zero, List.flatMap_cons, hy]
    | succ k =>
      have := ih k (by simpa using hx)
      rw [List.set_append_right _ _ (by rw [hf, Nat.add_mul]; omega), hf, List.set_cons_succ, List.flatMap_cons, ← this]
      congr 2
      rw [Nat.add_mul]; omega
theorem Ints.set {w : World} {g n : Nat} {l : List Int} (h : Arw w 3 1 g n (l.map (Value.int .i64))) (j : Nat) (x : Int) : Arw (w.setCell ⟨g, j, none⟩ (.int .i64 x)) 3 1 g n ((l.set j x).map (Value.int .i64)) := by
  rw [List.map_set]
  exact h.set j _
theorem info_kr : (Tryz.prog.info? 27).map (fun i => (i.zero, i.size, i.bytes)) = some (some (.agg #[.slice none 0 0, .string ByteArray.empty, .slice none 0 0]), 3, 64) := by kernel_rfl
theorem info_in : (Tryz.prog.info? 3).map (fun i => (i.zero, i.size, i.bytes)) = some (some (.int .i64 0), 1, 8) := by kernel_rfl
theorem own_zero (w : World) (T size : Nat) : (w.alloc (.cells #[] T)).ownsRow w.heap.size T size (.slice (some ⟨w.heap.size, 0, none⟩) 0 0) 0 [] :=
  ⟨by simp, .inr ⟨w.heap.size, 0, #[], rfl, Nat.le_refl _, Blk.new w _ _ _ rfl, Nat.le_refl _, by simp [maxLen], by simp, by simp⟩⟩
theorem below_zero {w w' : World} {T : Nat} (hg : (w.alloc (.cells #[] T)).grownBy w' (some w.heap.size)) : Below w.heap.size w w' :=
  (below_alloc (Below.refl _ _) _).grown hg (by have := (below_alloc (Below.refl w.heap.size w) (.cells #[] T)).size; exact this) (fun j hj => by cases hj; exact Nat.le_refl _)
theorem one_kr (l : List Kr) : ∀ u, u ∈ l.flatMap krC → u.oneCell' = true := fun u hu => by
  obtain ⟨a, -, h⟩ := List.mem_flatMap.1 hu
  simp only [krC, List.mem_cons, List.not_mem_nil, or_false] at h
  rcases h with rfl | rfl | rfl <;> rfl
theorem one_og (l : List Og) : ∀ u, u ∈ l.flatMap ogC → u.oneCell' = true := fun u hu => by
  obtain ⟨a, -, h⟩ := List.mem_flatMap.1 hu
  simp only [ogC, List.mem_cons, List.not_mem_nil, or_false] at h
  rcases h with rfl | rfl | rfl | rfl <;> rfl
theorem one_kp (l : List Kp) : ∀ u, u ∈ l.flatMap kpC → u.oneCell' = true := fun u hu => by
  obtain ⟨a, -, h⟩ := List.mem_flatMap.1 hu
  simp only [kpC, List.mem_cons, List.not_mem_nil, or_false] at h
  rcases h with rfl | rfl | rfl | rfl <;> rfl
theorem one_kw (l : List Kw) : ∀ u, u ∈ l.flatMap kwC → u.oneCell' = true := fun u hu => by
  obtain ⟨a, -, h⟩ := List.mem_flatMap.1 hu
  simp only [kwC, List.mem_cons, List.not_mem_nil, or_false] at h
  rw [h]; rfl
theorem one_in (l : List Int) : ∀ u, u ∈ l.map (Value.int .i64) → u.oneCell' = true := fun u hu => by
  obtain ⟨a, -, rfl⟩ := List.mem_map.1 hu
  rfl
end

section
open Go.RowKit

/-- What few says. -/
structure FewOk (l : List Kr) : Prop where
  lo : 1 ≤ l.length
  hi : l.length ≤ 4
  each : ∀ kr, kr ∈ l → kr.seeds.length ≤ 6 ∧ (kr.salt.size ≤ 60 ∨ 400 < kr.salt.size ∧ kr.salt.size ≤ 500) ∧ kr.random.length ≤ 40
  same : ∀ kr, kr ∈ l → ∀ x, l[0]? = some x → kr.seeds.length = x.seeds.length
theorem FewOk.of {l : List Kr} (h : fewK l = true) : FewOk l := by
  unfold fewK at h
  rw [Bool.and_eq_true] at h
  have h1 := of_decide_eq_true h.1
  have h2 := List.all_eq_true.1 h.2
  have h3 : ∀ kr, kr ∈ l → fw30 kr.seeds kr.salt kr.random = true ∧ kr.seeds.length = ((l[0]?.map (·.seeds.length)).getD 0) := fun kr hk => by
    have := h2 kr hk
    unfold fwK at this
    rw [Bool.and_eq_true] at this
    exact ⟨this.1, of_decide_eq_true this.2⟩
  refine ⟨h1.1, h1.2, fun kr hk => of_decide_eq_true (h3 kr hk).1, fun kr hk x hx => ?_⟩
  rw [(h3 kr hk).2, hx]; rfl

theorem sds_range {l : List Kr} {m : Nat} {need i : Int} (h : l.all (okK m need i) = true) (k : Nat) (hk : k ≤ l.length) : 0 ≤ sds l i.toNat k ∧ sds l i.toNat k ≤ 719 * k := by
  induction k with
  | zero => simp [sds]
  | succ k ih =>
    obtain ⟨h0, h1⟩ := ih (by omega)
    obtain ⟨x, hx⟩ := get_some l k (by omega)
    obtain ⟨v, hv, hv0, hv1, -⟩ := okK_seed (List.all_eq_true.1 h x (List.mem_of_getElem? hx))
    simp only [sds, hx, Option.bind_some, hv, Option.getD_some]
    omega
theorem sds_step {l : List Kr} {i k : Nat} {x : Kr} {v : Int} (hx : l[k]? = some x) (hv : x.seeds[i]? = some v) : sds l i (k + 1) = sds l i k + v := by
  simp only [sds, hx, Option.bind_some, hv, Option.getD_some]
theorem sds_set {l : List Kr} {k : Nat} {x y : Kr} (hx : l[k]? = some x) (i m : Nat) :
    sds (l.set k y) i m = sds l i m + (if k < m then (y.seeds[i]?.getD 0) - (x.seeds[i]?.getD 0) else 0) := by
  have hk : k < l.length := (List.getElem?_eq_some_iff.1 hx).1
  induction m with
  | zero => simp [sds]
  | succ m ih =>
    simp only [sds]
    rw [ih]
    by_cases h : k = m
    · subst h
      rw [List.getElem?_set_self hk, hx, if_neg (Nat.lt_irrefl _), if_pos (Nat.lt_succ_self _)]
      simp only [Option.bind_some]
      omega
    · rw [List.getElem?_set_ne h]
      by_cases h2 : k < m
      · rw [if_pos h2, if_pos (by omega)]
        omega
      · rw [if_neg h2, if_neg (by omega)]
        omega
theorem draw_ne {l : List Kr} {k : Nat} {x y : Kr} (hx : l[k]? = some x) {i : Nat} {v s : Int} (hv : x.seeds[i]? = some v) (hv0 : 0 ≤ v) (hv1 : v ≤ 719) (hs0 : 0 ≤ s) (hs1 : s ≤ 719) (hne : s ≠ v) (hy : y.seeds[i]? = some s) :
    sds (l.set k y) i l.length % 720 ≠ sds l i l.length % 720 := by
  rw [sds_set hx, if_pos (List.getElem?_eq_some_iff.1 hx).1, hy, hv]
  simp only [Option.getD_some]
  omega
end

section
open Go.RowKit
set_option maxRecDepth 100000 in
set_option maxHeartbeats 64000000 in
theorem kdraws_walk (A : Option Addr) (c : Nat) (l : List Kr) (need i : Int) (raw : Nat) (seed : Int) (w : World) (hT : Tabs w) (hA : RowOf krC 3 w A l) (hI : ∀ kr, kr ∈ l → KrIn w kr) (hlc : l.length ≤ c) (hl : l.length ≤ 9223372036854775807) (hraw : raw < 256) (hi : i64ok i) (hsd : i64ok seed) :
    Calls Tryz.prog 7 #[.slice A l.length c, .int .i64 need, .int .i64 i, .int .u8 raw, .int .i64 seed] w fun e w' => e = .returned (.bool true) ∧ Below w.heap.size w w' := by
  have HA : Hid (∀ W, Below w.heap.size w W → RowOf krC 3 W A l) := Lib.hid (fun W hW => hA.below hW)
  have HIN : Hid (∀ kr, kr ∈ l → ∀ W, Below w.heap.size w W → KrIn W kr) := Lib.hid (fun kr hk W hW => (hI kr hk).below hW)
  have HT : Hid (∀ W, Below w.heap.size w W → Tabs W) := Lib.hid (fun W hW => hT.below hW)
  clear hA hI hT
  obtain ⟨ikr, hir, hir0, hir1, hir2⟩ := info_parts info_kr
  have HIR := Lib.hid (And.intro hir (And.intro hir0 (And.intro hir1 hir2)))
  obtain ⟨iin, hin, hin0, hin1, hin2⟩ := info_parts info_in
  have HII := Lib.hid (And.intro hin (And.intro hin0 (And.intro hin1 hin2)))
  clear hir hir0 hir1 hir2 hin hin0 hin1 hin2
  go_enter Tryz.func7, Tryz.ntmps7
  go_wp2_with fail
  refine (khead_any w (HT.out w (Below.refl _ _))).mono ?_
  rintro e w1 ⟨rfl, hb⟩
  have HB1 := Lib.hid hb
  clear hb
  go_wp2_with fail
  refine (kfew_any A c l w1 (HA.out w1 HB1.out) hl).mono ?_
  rintro e w2 ⟨rfl, hb⟩
  have HB2 := Lib.hid (below_trans HB1.out hb)
  clear hb
  obtain ⟨bf, hbf⟩ : ∃ b, fewK l = b := ⟨_, rfl⟩
  rw [hbf]
  cases bf with
  | false =>
    clear hbf
    go_wp2
    go_ret
    exact ⟨rfl, HB2.out⟩
  | true =>
  have HF := Lib.hid (FewOk.of hbf)
  clear hbf
  have hl1 := HF.out.lo
  have hl4 := HF.out.hi
  go_wp2_with fail
  refine (kopen_walk A c l need i w2 (HA.out w2 HB2.out) (fun kr hk => HIN.out kr hk w2 HB2.out) (by omega) (HT.out w2 HB2.out)).mono ?_
  rintro e w3 ⟨hb, ⟨-, v1, kv, v2, v3, v4, v5, v6, rfl⟩ | ⟨hall, CA, cc, OA, oc, KA, kc, os, ks, rfl, hres⟩⟩
  · have HB3 := Lib.hid (below_trans HB2.out hb)
    clear hb
    go_wp2
    go_ret
    exact ⟨rfl, below_alloc HB3.out _⟩
  have HB3 := Lib.hid (below_trans HB2.out hb)
  obtain ⟨x0, hx0⟩ := get_some l 0 (by omega)
  obtain ⟨ii, rfl⟩ : ∃ n : Nat, i = (n : Int) := by
    obtain ⟨-, -, -, -, h, -⟩ := okK_seed (List.all_eq_true.1 hall x0 (List.mem_of_getElem? hx0))
    exact ⟨i.toNat, h.symm⟩
  have HR := Lib.hid hres
  have HALL := Lib.hid hall
  clear hb hres hall
  obtain ⟨w4, hw4⟩ : ∃ w4, w3.alloc (.cells #[.slice CA l.length cc, .slice OA l.length oc, .slice KA l.length kc] 69) = w4 := ⟨_, rfl⟩
  have HB4 : Hid (Below w.heap.size w w4) := Lib.hid (by rw [← hw4]; exact below_alloc HB3.out _)
  have HN4 : Hid (Blk w4 w3.heap.size 69 #[.slice CA l.length cc, .slice OA l.length oc, .slice KA l.length kc]) := Lib.hid (by rw [← hw4]; exact Blk.new _ _ _ _ rfl)
  have HF4 : Hid (DrFit w4 CA (l.map (cmK l.length need)) OA os KA ks) := Lib.hid (by rw [← hw4]; exact (HR.out.fit HALL.out (by omega)).below (below_alloc (Below.refl _ _) _))
  have HM4 : Hid (NightMem w4 os ks) := Lib.hid (by rw [← hw4]; exact HR.out.mem.below (below_alloc (Below.refl _ _) _))
  have HX0 := Lib.hid hx0
  obtain ⟨bA, oA, hAe, q0, q1, q2⟩ := kr_cells (HA.out w4 HB4.out) hx0
  subst hAe
  simp only [Nat.zero_mul, Nat.add_zero] at q0 q1 q2
  have ql := lt_of_cell q0
  obtain ⟨n, hn⟩ : ∃ n, x0.seeds.length = n := ⟨_, rfl⟩
  rw [hn] at q0
  have HNN : Hid (∀ kr, kr ∈ l → kr.seeds.length = n) := Lib.hid (fun kr hk => by rw [← hn]; exact HF.out.same kr hk x0 HX0.out)
  have HN6 : Hid (n ≤ 6) := Lib.hid (by rw [← hn]; exact (HF.out.each x0 (List.mem_of_getElem? HX0.out)).1)
  clear hx0 hn
  have a0 := HN4.out.of_cell (i := 0) rfl
  have a1 := HN4.out.of_cell (i := 1) rfl
  have a2 := HN4.out.of_cell (i := 2) rfl
  have al := HN4.out.lt
  go_wp2_with fail
  clear q0 q1 q2 ql a0 a1 a2 al
  obtain ⟨sm, hsm⟩ : ∃ s, sds l ii l.length = s := ⟨_, rfl⟩
  have hsr := sds_range HALL.out l.length (Nat.le_refl _)
  rw [Int.toNat_natCast, hsm] at hsr
  have hs0 : 0 ≤ sm := hsr.1
  have hs1 : sm ≤ 2876 := by omega
  have HDR := kdraw_night HR.out HALL.out (by omega) (by omega) n HNN.out w4 HF4.out (HT.out w4 HB4.out)
  rw [Int.toNat_natCast, hsm] at HDR
  have HSM := Lib.hid hsm
  clear hsm hsr
  refine HDR.mono ?_
  clear HDR
  rintro e w5 ⟨WA, wc, rfl, hb5⟩
  have HB5 := Lib.hid (below_trans HB4.out hb5)
  have HN5 : Hid (Blk w5 w3.heap.size 69 #[.slice CA l.length cc, .slice OA l.length oc, .slice KA l.length kc]) := Lib.hid ((hb5.block _ HN4.out.lt).trans HN4.out)
  have HF5 := Lib.hid (HF4.out.below hb5)
  have HM5 := Lib.hid (HM4.out.below hb5)
  clear hb5
  go_wp2_with fail
  go_loopw [18, 19] (fun u18 u19 wr => ∃ k : Nat, k ≤ l.length ∧ u18 = .int .i64 (sds l ii k) ∧ u19 = .int .i64 k ∧ wr = w5) (fun _ u19 _ => l.length - (intOf u19).toNat)
  case atStart => exact ⟨0, Nat.zero_le _, rfl, rfl, rfl⟩
  case round =>
  obtain ⟨k, hk, rfl, rfl, rfl⟩ := hrel
  by_cases hlt : k < l.length
  case pos =>
    obtain ⟨x, hx⟩ := get_some l k hlt
    obtain ⟨v, hv, hv0, hv1, -, hil, -⟩ := okK_seed (List.all_eq_true.1 HALL.out x (List.mem_of_getElem? hx))
    rw [Int.toNat_natCast] at hv hil
    have hsk := sds_range HALL.out k hk
    rw [Int.toNat_natCast] at hsk
    have hst := sds_step hx hv
    obtain ⟨b, off, he, q0, q1, q2⟩ := kr_cells (HA.out wr HB5.out) hx
    cases he
    have hsi := (HIN.out x (List.mem_of_getElem? hx) wr HB5.out).s
    obtain ⟨bs, os_, hse, hsc⟩ := hsi.2 (by omega)
    have s0 := hsc ii (.int .i64 v) (by simp [hv])
    have ql := lt_of_cell q0
    have sl := lt_of_cell s0
    rw [hse] at q0
    have hki : (k : Int) < (l.length : Int) := by omega
    have hii : (ii : Int) < (x.seeds.length : Int) := by omega
    obtain ⟨s1_, hs1_⟩ : ∃ s, sds l ii k = s := ⟨_, rfl⟩
    rw [hs1_] at hst hsk
    rw [hs1_]
    have HST := Lib.hid hst
    have HX := Lib.hid (And.intro hx hv)
    clear hx hv hst hs1_ hsi hsc hse q1 q2
    go_wp2
    go_roundw
    case rel => exact ⟨k + 1, by omega, by rw [HST.out], by go_num, by trivial⟩
    case measure => simp [intOf]; omega
  case neg =>
  obtain rfl : k = l.length := by omega
  rw [HSM.out]
  obtain ⟨k, hk⟩ : ∃ k, raw % l.length = k := ⟨_, rfl⟩
  have hkl : k < l.length := by rw [← hk]; exact Nat.mod_lt _ (by omega)
  have hkc : (raw : Int) % (l.length : Int) = (k : Int) := by rw [← hk]; exact (Int.natCast_emod _ _).symm
  obtain ⟨x, hx⟩ := get_some l k hkl
  have HXI := HIN.out x (List.mem_of_getElem? hx)
  obtain ⟨v, hv, hv0, hv1, -, hil, -⟩ := okK_seed (List.all_eq_true.1 HALL.out x (List.mem_of_getElem? hx))
  rw [Int.toNat_natCast] at hv hil
  have HX := Lib.hid (And.intro hx hv)
  have HX6 : Hid (x.seeds.length ≤ 6) := Lib.hid (HF.out.each x (List.mem_of_getElem? hx)).1
  clear hx hv hk
  go_wp2_with (at_builtin; refine wpList_app _ rfl (.tmp 107) (.tmp 108) 22 22 rfl wr.heap.size 27 27 ikr _ 3 64 Tryz.underlying22 Tryz.underlying22 HIR.out.1 HIR.out.2.1 HIR.out.2.2.1 HIR.out.2.2.2 rfl (by omega) (.slice (some ⟨wr.heap.size, 0, none⟩) 0 0) 0 [] rfl (own_zero wr _ _) (some ⟨bA, oA, none⟩) l.length c (l.flatMap krC) rfl (HA.out _ (below_alloc HB5.out _)) (one_kr l) (by simp only [maxLen]; omega) (by omega) (by simp) ?_)
  intro v0 w6 hown hg
  have hb56 := below_zero hg
  have HB6 := Lib.hid (below_trans HB5.out hb56)
  obtain ⟨g1, c1, rfl, hg1, hc1, hm1, harr⟩ := Arw.of_own hown hl1
  have HO6 := Lib.hid harr
  have HG1 : Hid (w.heap.size ≤ g1 ∧ l.length ≤ c1 ∧ c1 ≤ maxLen) := Lib.hid ⟨Nat.le_trans HB5.out.size hg1, hc1, hm1⟩
  clear hown hg harr hg1 hc1 hm1 hb56
  obtain ⟨b_, f_, he, q0, q1, q2⟩ := kr_cells (HA.out w6 HB6.out) HX.out.1
  cases he
  have ql := lt_of_cell q0
  have hki : (k : Int) < (l.length : Int) := by omega
  clear q1 q2
  go_wp2_with (at_builtin; refine wpList_app _ rfl (.tmp 112) (.tmp 117) 23 23 rfl w6.heap.size 3 3 iin _ 1 8 Tryz.underlying23 Tryz.underlying23 HII.out.1 HII.out.2.1 HII.out.2.2.1 HII.out.2.2.2 rfl (by omega) (.slice (some ⟨w6.heap.size, 0, none⟩) 0 0) 0 [] rfl (own_zero w6 _ _) x.SA x.seeds.length x.sc (x.seeds.map (Value.int .i64)) rfl (HXI _ (below_alloc HB6.out _)).s (one_in x.seeds) (by have := HX6.out; simp only [maxLen]; omega) (by have := HX6.out; omega) (by simp) ?_)
  intro v1 w7 hown hg
  have hb67 := below_zero hg
  have HB7 := Lib.hid (below_trans HB6.out hb67)
  obtain ⟨g2, c2, rfl, hg2, hc2, hm2, harr⟩ := Arw.of_own hown (by omega)
  have HO7 := Lib.hid (HO6.out.below hb67)
  have HS7 := Lib.hid harr
  have HG2 : Hid (w.heap.size ≤ g2 ∧ x.seeds.length ≤ c2 ∧ c2 ≤ maxLen) := Lib.hid ⟨Nat.le_trans HB6.out.size hg2, hc2, hm2⟩
  have hne : g1 ≠ g2 := harr.ne HO7.out (by decide) |>.symm
  clear hown hg harr hg2 hc2 hm2 hb67 q0 ql
  have hk3 : (l.flatMap krC)[k * 3 + 0]? = some (.slice x.SA x.seeds.length x.sc) := flatM_at krC 3 krC_len l k x HX.out.1 0 (by decide)
  have d0 := HO7.out.get hk3
  have d1 := HO7.out.frozen (k * 3)
  have d2 := HO7.out.lt
  obtain ⟨w8, hw8⟩ : ∃ w8, w7.setCell ⟨g1, k * 3, none⟩ (.slice (some ⟨g2, 0, none⟩) x.seeds.length c2) = w8 := ⟨_, rfl⟩
  have hb8 := HB7.out.setCell (p := ⟨g1, k * 3, none⟩) HG1.out.1 (.slice (some ⟨g2, 0, none⟩) x.seeds.length c2)
  have ho8 := HO7.out.set (k * 3) (.slice (some ⟨g2, 0, none⟩) x.seeds.length c2)
  have hs8 := HS7.out.far (p := ⟨g1, k * 3, none⟩) (fun e => hne e.symm) (.slice (some ⟨g2, 0, none⟩) x.seeds.length c2)
  rw [hw8] at hb8 ho8 hs8
  obtain ⟨y, hy⟩ : ∃ y : Kr, (⟨some ⟨g2, 0, none⟩, c2, x.seeds.set ii seed, x.salt, x.RA, x.rc, x.random⟩ : Kr) = y := ⟨_, rfl⟩
  have hfl := flatM_set krC 3 krC_len l k x y HX.out.1 0 (by decide) (.slice (some ⟨g2, 0, none⟩) x.seeds.length c2) (by rw [← hy]; simp [krC])
  rw [Nat.add_zero] at hfl d0
  rw [hfl] at ho8
  have hsv : (x.seeds.map (Value.int .i64))[ii]? = some (.int .i64 v) := by rw [List.getElem?_map, HX.out.2]; rfl
  have e0 := hs8.get hsv
  have e1 := hs8.frozen ii
  have e2 := hs8.lt
  have hk3' : ((l.set k y).flatMap krC)[k * 3 + 0]? = some (.slice (some ⟨g2, 0, none⟩) x.seeds.length c2) := by
    rw [flatM_at krC 3 krC_len (l.set k y) k y (by rw [List.getElem?_set_self hkl]) 0 (by decide), ← hy]; simp [krC]
  have f0 := ho8.get hk3'
  have f2 := ho8.lt
  rw [Nat.add_zero] at f0
  obtain ⟨w9, hw9⟩ : ∃ w9, w8.setCell ⟨g2, ii, none⟩ (.int .i64 seed) = w9 := ⟨_, rfl⟩
  have hb9 := hb8.setCell (p := ⟨g2, ii, none⟩) HG2.out.1 (.int .i64 seed)
  have ho9 := ho8.far (p := ⟨g2, ii, none⟩) hne (.int .i64 seed)
  have hs9 := Ints.set hs8 ii seed
  rw [hw9] at hb9 ho9 hs9
  have HB9 := Lib.hid hb9
  have HO9 := Lib.hid ho9
  have HS9 := Lib.hid hs9
  have HY := Lib.hid hy
  have hii : (ii : Int) < (x.seeds.length : Int) := by omega
  have HNE := Lib.hid hne
  have HW8 := Lib.hid hw8
  clear hb8 ho8 hs8 hb9 ho9 hs9 hfl hsv hk3 hk3' hy
  go_wp2_with fail
  have hrow9 : RowOf krC 3 w9 (some ⟨g1, 0, none⟩) (l.set k y) := by unfold RowOf; rw [List.length_set]; exact HO9.out.rd
  have hys : y.seeds = x.seeds.set ii seed := by rw [← HY.out]
  have hin9 : ∀ kr, kr ∈ l.set k y → KrIn w9 kr := fun kr hkr => by
    rcases List.mem_or_eq_of_mem_set hkr with h | rfl
    · exact HIN.out kr h w9 HB9.out
    · have hxi := HXI w9 HB9.out
      have hs : Ints w9 kr.SA kr.seeds := by
        have := HS9.out.rd
        rw [hys]
        unfold Ints
        rw [List.length_set, ← HY.out]
        exact this
      have hq := HX6.out
      have hm := HG2.out.2.2
      have hcl := HG2.out.2.1
      unfold maxLen at hm
      refine ⟨hs, ?_, ?_, ?_, ?_, ?_, ?_, ?_, ?_⟩
      · rw [← HY.out]; exact hxi.r
      · rw [hys, List.length_set]; omega
      · rw [← HY.out]; exact hxi.rl
      · rw [hys, List.length_set, ← HY.out]; exact hcl
      · rw [← HY.out]; exact hxi.rc
      · rw [← HY.out]; exact hxi.salt
      · rw [← HY.out]; exact hm
      · rw [← HY.out]; exact hxi.rcm
  have HOPEN := kopen_walk (some ⟨g1, 0, none⟩) c1 (l.set k y) need ii w9 hrow9 hin9 (by rw [List.length_set]; omega) (HT.out w9 HB9.out)
  rw [List.length_set] at HOPEN
  clear hrow9 hin9 d0 d1 d2 e0 e1 e2 f0 f2
  have HYS := Lib.hid hys
  clear hys
  refine HOPEN.mono ?_
  clear HOPEN
  rintro e w10 ⟨hb, ⟨-, p1, p2, p3, p4, p5, p6, p7, rfl⟩ | ⟨hall, CB, cb, OB, ob, KB, kb, ot, kt, rfl, hres⟩⟩
  · have HB10 := Lib.hid (below_trans HB9.out hb)
    clear hb
    go_wp2
    go_ret
    exact ⟨rfl, below_alloc HB10.out _⟩
  rw [List.length_set]
  have HB10 := Lib.hid (below_trans HB9.out hb)
  have HR2 := Lib.hid hres
  have HALL2 := Lib.hid hall
  clear hb hres hall
  obtain ⟨w11, hw11⟩ : ∃ w11, w10.alloc (.cells #[.slice CB l.length cb, .slice OB l.length ob, .slice KB l.length kb] 69) = w11 := ⟨_, rfl⟩
  have HB11 : Hid (Below w.heap.size w w11) := Lib.hid (by rw [← hw11]; exact below_alloc HB10.out _)
  have HN11 : Hid (Blk w11 w10.heap.size 69 #[.slice CB l.length cb, .slice OB l.length ob, .slice KB l.length kb]) := Lib.hid (by rw [← hw11]; exact Blk.new _ _ _ _ rfl)
  have HF11 : Hid (DrFit w11 CB ((l.set k y).map (cmK (l.set k y).length need)) OB ot KB kt) := Lib.hid (by rw [← hw11]; exact (HR2.out.fit HALL2.out (by rw [List.length_set]; omega)).below (below_alloc (Below.refl _ _) _))
  obtain ⟨b_, f_, he, q0, q1, q2⟩ := kr_cells (HA.out w11 HB11.out) HX.out.1
  cases he
  have ql := lt_of_cell q0
  clear q1 q2
  have hsi := (HXI w11 HB11.out).s
  obtain ⟨bs, os_, hse, hsc⟩ := hsi.2 (by omega)
  have s0 := hsc ii (.int .i64 v) (by simp [HX.out.2])
  have sl := lt_of_cell s0
  rw [hse] at q0
  clear hsi hsc hse
  by_cases hsv : seed = v
  · subst hsv
    go_wp2
    go_ret
    exact ⟨rfl, HB11.out⟩
  have hne2 : sds (l.set k y) ii (l.set k y).length % 720 ≠ sm % 720 := by
    obtain ⟨v', hv', h0, h1, -⟩ := okK_seed (List.all_eq_true.1 HALL2.out y (List.mem_of_getElem? (List.getElem?_set_self hkl)))
    rw [Int.toNat_natCast, HYS.out, List.getElem?_set_self hil] at hv'
    obtain rfl : seed = v' := by simpa using hv'
    rw [List.length_set, ← HSM.out]
    exact draw_ne HX.out.1 HX.out.2 hv0 hv1 h0 h1 hsv (by rw [HYS.out, List.getElem?_set_self hil])
  have HDR := kdraw_night HR2.out HALL2.out (by rw [List.length_set]; omega) (by rw [List.length_set]; omega) n (fun kr hkr => by
    rcases List.mem_or_eq_of_mem_set hkr with h | rfl
    · exact HNN.out kr h
    · rw [HYS.out, List.length_set]; exact HNN.out x (List.mem_of_getElem? HX.out.1)) w11 HF11.out (HT.out w11 HB11.out)
  rw [Int.toNat_natCast] at HDR
  generalize sds (l.set k y) ii (l.set k y).length % 720 = dr2 at hne2 HDR
  rw [List.length_set] at HDR
  have HDR2 := Lib.hid HDR
  clear HDR
  have a0 := HN11.out.of_cell (i := 0) rfl
  have a1 := HN11.out.of_cell (i := 1) rfl
  have a2 := HN11.out.of_cell (i := 2) rfl
  have al := HN11.out.lt
  go_wp2_with fail
  refine HDR2.out.mono ?_
  rintro e w12 ⟨WB, wb, rfl, hb12⟩
  have HB12 := Lib.hid (below_trans HB11.out hb12)
  clear hb12 a0 a1 a2 al q0 ql s0 sl
  have hne3 : decide (dr2 = sm % 720) = false := decide_eq_false hne2
  go_wp2
  go_ret
  refine ⟨?_, HB12.out⟩
  simp [hne2]
end

end Go.Proofs.YtjfondfjdhjooaaGreatDoor
