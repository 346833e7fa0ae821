/- Plain: keepers: seeds and their salts, leaves, shares; what is valid; what is bound. Rows of structs as lists: openings, kept shares, commitments, keepers; as arguments, and as the call's own. keeper: within, the seeds' and the shares' validity, salts, leaves. keeper: divided seeds: what is valid, their shares, the leaves of the shares. -/
import Derived.Test.YtjfondfjdhjooaaGreatDoorCbE
import Derived.StillTailTactics
import Derived.Deep.RegionHeld3
namespace Go.Proofs.YtjfondfjdhjooaaGreatDoor
set_option linter.unusedVariables false
set_option linter.unusedSimpArgs false

section
open Go.RowKit

def bSalt : ByteArray := ⟨#[115, 97, 108, 116]⟩
def bSeed : ByteArray := ⟨#[115, 101, 101, 100]⟩
def ktT (salt : ByteArray) (i : Nat) : ByteArray := jb [bSalt, salt, dec i]
def kslt (salt : ByteArray) (i : Nat) : ByteArray := dg (ktT salt i)
def ksT (i v : Nat) (s : ByteArray) : ByteArray := jb [bSeed, dec i, dec v, s]
def ksLf (i v : Nat) (s : ByteArray) : ByteArray := lf (dg (ksT i v s))
def ksL (l : List Int) (salt : ByteArray) : List ByteArray := l.mapIdx fun i v => ksLf i v.toNat (kslt salt i)
def khT (i : Nat) (s : Int × Int) : ByteArray := dec i ++ bSp ++ dec s.1.toNat ++ bSp ++ dec s.2.toNat
def khLf (i : Nat) (s : Int × Int) : ByteArray := lf (khT i s)
def kpoly (l : List Int) (need : Nat) (random : List Int) (i : Nat) : List Int := (l[i]?.getD 0) :: (random.drop (i * (need - 1))).take (need - 1)
def kof (l : List Int) (need total : Nat) (random : List Int) (i : Nat) : List (Int × Int) := shs (kpoly l need random i) total
def khP (l : List Int) (need total : Nat) (random : List Int) (j : Nat) : List ByteArray := (List.range j).flatMap fun i => (kof l need total random i).map (khLf i)

/-! ### leaves -/
theorem ksLf_D (i v : Nat) (s : ByteArray) : isD (ksLf i v s) = true := isD_dg _
theorem khLf_D (i : Nat) (s : Int × Int) : isD (khLf i s) = true := isD_dg _
theorem ksL_length (l : List Int) (salt : ByteArray) : (ksL l salt).length = l.length := by simp [ksL]
theorem ksL_get {l : List Int} {salt : ByteArray} {i : Nat} {v : Int} (h : l[i]? = some v) : (ksL l salt)[i]? = some (ksLf i v.toNat (kslt salt i)) := by simp [ksL, h]
theorem ksL_D (l : List Int) (salt : ByteArray) : allD (ksL l salt) = true := by
  simp only [allD, List.all_eq_true]
  intro x hx
  obtain ⟨i, hi⟩ := List.getElem?_of_mem hx
  have hil : i < l.length := by have := (List.getElem?_eq_some_iff.1 hi).1; rwa [ksL_length] at this
  obtain ⟨v, hv⟩ := get_some l i hil
  rw [ksL_get hv] at hi
  rw [← Option.some.inj hi]; exact ksLf_D _ _ _
theorem ksL_take (l : List Int) (salt : ByteArray) (k : Nat) (v : Int) (h : l[k]? = some v) : (ksL l salt).take (k + 1) = (ksL l salt).take k ++ [ksLf k v.toNat (kslt salt k)] := take_snoc _ _ _ (ksL_get h)
theorem kof_length (l : List Int) (need total : Nat) (random : List Int) (i : Nat) : (kof l need total random i).length = total := shs_length _ _
theorem kof_get (l : List Int) (need total : Nat) (random : List Int) (i k : Nat) (h : k < total) : (kof l need total random i)[k]? = some ((k : Int) + 1, evp (kpoly l need random i) ((k : Int) + 1)) := by
  simp [kof, shs, h]
theorem khP_succ (l : List Int) (need total : Nat) (random : List Int) (j : Nat) : khP l need total random (j + 1) = khP l need total random j ++ (kof l need total random j).map (khLf j) := by
  simp [khP, List.range_succ]
theorem khP_length (l : List Int) (need total : Nat) (random : List Int) (j : Nat) : (khP l need total random j).length = j * total := by
  induction j with
  | zero => simp [khP]
  | succ j ih => rw [khP_succ, List.length_append, ih, List.length_map, kof_length, Nat.add_mul, Nat.one_mul]
theorem khP_get (l : List Int) (need total : Nat) (random : List Int) (j i k : Nat) (hi : i < j) (hk : k < total) :
    (khP l need total random j)[i * total + k]? = some (khLf i ((k : Int) + 1, evp (kpoly l need random i) ((k : Int) + 1))) := by
  induction j with
  | zero => omega
  | succ j ih =>
    rw [khP_succ]
    have hl := khP_length l need total random j
    by_cases h : i < j
    · have h1 : i * total + k < j * total := by
        have : (i + 1) * total ≤ j * total := Nat.mul_le_mul_right total h
        rw [Nat.add_mul] at this; omega
      rw [List.getElem?_append_left (by omega)]
      exact ih h
    · obtain rfl : i = j := by omega
      rw [List.getElem?_append_right (by omega), hl, show i * total + k - i * total = k by omega, List.getElem?_map, kof_get l need total random i k hk]; rfl
theorem khP_D (l : List Int) (need total : Nat) (random : List Int) (j : Nat) : allD (khP l need total random j) = true := by
  simp only [allD, List.all_eq_true]
  intro x hx
  obtain ⟨i, _, h⟩ := List.mem_flatMap.1 hx
  obtain ⟨s, _, rfl⟩ := List.mem_map.1 h
  exact khLf_D _ _
theorem allD_sm' {l : List ByteArray} (h : allD l = true) : sm l := fun s hs => by
  have := isD_16 (List.all_eq_true.1 h s hs); omega
theorem ksL_sm (l : List Int) (salt : ByteArray) : sm (ksL l salt) := allD_sm' (ksL_D l salt)
theorem khP_sm (l : List Int) (need total : Nat) (random : List Int) (j : Nat) : sm (khP l need total random j) := allD_sm' (khP_D l need total random j)

/-! ### sizes, and what the strings say -/
theorem dec_sz0 (n : Nat) (h : n < 100000000000000000000) : (dec n).size ≤ 20 := by
  have := dec_len n 19 h
  show (Go.Lib.decDigits n).toArray.size ≤ 20
  simpa using this
theorem khT_data (i : Nat) (s : Int × Int) : (khT i s).data.toList = Go.Lib.decDigits i ++ 32 :: (Go.Lib.decDigits s.1.toNat ++ 32 :: Go.Lib.decDigits s.2.toNat) := by
  simp [khT, dec, bSp]
theorem khT_size (i : Nat) (s : Int × Int) (hi : i < 10000000000) (h1 : s.1 < 10000000000) (h2 : s.2 < 10000000000) : (khT i s).size ≤ 60 := by
  have a0 := dec_len i 9 (by omega)
  have a1 := dec_len s.1.toNat 9 (by omega)
  have a2 := dec_len s.2.toNat 9 (by omega)
  have e : (khT i s).size = (khT i s).data.toList.length := by rw [Array.length_toList]; rfl
  rw [e, khT_data]
  simp only [List.length_append, List.length_cons]
  omega
theorem khT_inj {i j : Nat} {s t : Int × Int} (hs : 0 ≤ s.1 ∧ 0 ≤ s.2) (ht : 0 ≤ t.1 ∧ 0 ≤ t.2) (h : khT i s = khT j t) : i = j ∧ s = t := by
  have h1 := congrArg (fun x : ByteArray => x.data.toList) h
  simp only [khT_data] at h1
  obtain ⟨h2, h3⟩ := cut_eq32 _ _ _ _ (dd_no32 _) (dd_no32 _) h1
  obtain ⟨h4, h5⟩ := cut_eq32 _ _ _ _ (dd_no32 _) (dd_no32 _) h3
  have e2 := dd_inj h2
  have e4 := dd_inj h4
  have e5 := dd_inj h5
  exact ⟨e2, Prod.ext (by omega) (by omega)⟩
theorem dec_inj' {a b : Nat} (h : dec a = dec b) : a = b := by
  have h1 := congrArg (fun x : ByteArray => x.data.toList) h
  simp only [dec] at h1
  exact dd_inj h1
theorem ksT_inj {i j v x : Nat} {s t : ByteArray} (h : ksT i v s = ksT j x t) : i = j ∧ v = x ∧ s = t := by
  have := jb_inj h
  simp only [List.cons.injEq, and_true, true_and] at this
  exact ⟨dec_inj' this.1, dec_inj' this.2.1, this.2.2⟩

/-! ### what is valid -/
def sdV (l : List Int) : Bool := l.all fun v => decide (0 ≤ v ∧ v ≤ 719)
def sdOk (l : List Int) (salt : ByteArray) : Bool := sdV l && decide (1 ≤ l.length ∧ l.length ≤ 600 ∧ salt.size ≤ 400)
def rdOk (k : Nat) (need total : Int) (random : List Int) : Bool := decide (1 ≤ total ∧ total ≤ 7 ∧ 1 ≤ need ∧ need ≤ total ∧ (random.length : Int) = k * (need - 1)) && random.all elemB
/-- An opening is valid. -/
def ckB (root : ByteArray) (n ix v : Int) (salt : ByteArray) (p : List ByteArray) : Bool :=
  decide (1 ≤ n ∧ n ≤ 600 ∧ 0 ≤ ix ∧ ix ≤ n - 1 ∧ 0 ≤ v ∧ v ≤ 719) && isD salt && chkB root n ix (ksLf ix.toNat v.toNat salt) p
/-- A share that was kept is one of those that were committed. -/
def kvB (root : ByteArray) (n kp i : Int) (s : Int × Int) (p : List ByteArray) : Bool := chkB root (n * kp) (i * kp + s.1 - 1) (khLf i.toNat s) p

theorem sdV_at {l : List Int} (h : sdV l = true) {i : Nat} {v : Int} (hv : l[i]? = some v) : 0 ≤ v ∧ v ≤ 719 := by
  have := List.all_eq_true.1 h v (List.mem_of_getElem? hv)
  simpa using this
theorem ck_own {l : List Int} {salt : ByteArray} (h : sdOk l salt = true) {i : Nat} {v : Int} (hv : l[i]? = some v) :
    ckB (rt (ksL l salt)) (l.length : Int) (i : Int) v (kslt salt i) (pt (ksL l salt) i) = true := by
  simp only [sdOk, Bool.and_eq_true, decide_eq_true_eq] at h
  have hr := sdV_at h.1 hv
  have hi := (List.getElem?_eq_some_iff.1 hv).1
  have h1 := incl_yes (ksL l salt) i _ (ksL_D l salt) (ksL_get hv) (by rw [ksL_length]; omega)
  rw [ksL_length] at h1
  unfold ckB
  rw [decide_eq_true ⟨by omega, by omega, by omega, by omega, hr.1, hr.2⟩, Int.toNat_natCast, h1, show isD (kslt salt i) = true from isD_dg _]
  rfl
theorem kv_own (l : List Int) (need total : Nat) (random : List Int) (i k : Nat) (hl : l.length ≤ 600) (ht : total ≤ 16) (hi : i < l.length) (hk : k < total) :
    kvB (rt (khP l need total random l.length)) (l.length : Int) (total : Int) (i : Int) ((k : Int) + 1, evp (kpoly l need random i) ((k : Int) + 1)) (pt (khP l need total random l.length) (i * total + k)) = true := by
  have hb : l.length * total ≤ 600 * 16 := Nat.mul_le_mul hl ht
  have h1 := incl_yes (khP l need total random l.length) (i * total + k) _ (khP_D _ _ _ _ _) (khP_get l need total random l.length i k hi hk) (by rw [khP_length]; omega)
  rw [khP_length] at h1
  unfold kvB
  rw [Int.toNat_natCast]
  have e1 : (l.length : Int) * (total : Int) = ((l.length * total : Nat) : Int) := by rw [Int.natCast_mul]
  have e2 : (i : Int) * (total : Int) + ((k : Int) + 1, evp (kpoly l need random i) ((k : Int) + 1)).1 - 1 = ((i * total + k : Nat) : Int) := by
    rw [Int.natCast_add, Int.natCast_mul]; simp only; omega
  rw [e1, e2]; exact h1

/-! ### what is bound -/
/-- The strings that are digested for the root of seeds. -/
def ksTx (l : List Int) (salt : ByteArray) : List ByteArray :=
  (l.mapIdx fun i v => [ktT salt i, ksT i v.toNat (kslt salt i), jb [bLeaf, dg (ksT i v.toNat (kslt salt i))]]).flatten ++ txt (ksL l salt)
/-- .. to check an opening. -/
def koTx (n i v : Nat) (s : ByteArray) (p : List ByteArray) : List ByteArray := [ksT i v s, jb [bLeaf, dg (ksT i v s)]] ++ ptx n i (ksLf i v s) p
def khTx (l : List Int) (need total : Nat) (random : List Int) : List ByteArray :=
  ((List.range l.length).flatMap fun i => (kof l need total random i).map fun s => jb [bLeaf, khT i s]) ++ txt (khP l need total random l.length)
def kkTx (n kp i : Nat) (s : Int × Int) (p : List ByteArray) : List ByteArray := [jb [bLeaf, khT i s]] ++ ptx (n * kp) (i * kp + (s.1 - 1).toNat) (khLf i s) p

theorem ksTx_mem {l : List Int} {salt : ByteArray} {i : Nat} {v : Int} (h : l[i]? = some v) : ksT i v.toNat (kslt salt i) ∈ ksTx l salt ∧ jb [bLeaf, dg (ksT i v.toNat (kslt salt i))] ∈ ksTx l salt := by
  have hm : [ktT salt i, ksT i v.toNat (kslt salt i), jb [bLeaf, dg (ksT i v.toNat (kslt salt i))]] ∈ l.mapIdx fun i v => [ktT salt i, ksT i v.toNat (kslt salt i), jb [bLeaf, dg (ksT i v.toNat (kslt salt i))]] :=
    List.mem_of_getElem? (i := i) (by simp [h])
  exact ⟨List.mem_append.2 (.inl (List.mem_flatten.2 ⟨_, hm, by simp⟩)), List.mem_append.2 (.inl (List.mem_flatten.2 ⟨_, hm, by simp⟩))⟩

theorem ck_bind {l : List Int} {salt : ByteArray} (hsd : sdV l = true) {ix v : Int} {s : ByteArray} {p : List ByteArray} (h : ckB (rt (ksL l salt)) (l.length : Int) ix v s p = true) :
    ∃ (i : Nat) (x : Int), ix = (i : Int) ∧ l[i]? = some x ∧ p.length = plen l.length i ∧ allD p = true ∧ 0 ≤ v ∧ v ≤ 719 ∧ ((v = x ∧ s = kslt salt i) ∨ Col (ksTx l salt ++ koTx l.length i v.toNat s p)) := by
  simp only [ckB, Bool.and_eq_true, decide_eq_true_eq] at h
  obtain ⟨⟨⟨h1, h2, h3, h4, h5, h6⟩, h7⟩, h8⟩ := h
  obtain ⟨i, rfl⟩ : ∃ i : Nat, ix = (i : Int) := ⟨ix.toNat, by omega⟩
  obtain ⟨x, hx⟩ := get_some l i (by omega)
  rw [Int.toNat_natCast] at h8
  obtain ⟨g1, g2, g3⟩ := chk_parts h8
  refine ⟨i, x, rfl, hx, g3, g1, h5, h6, ?_⟩
  have hb := path_bind (ksL l salt) i (ksLf i v.toNat s) _ p (ksL_get hx) (by rw [ksL_length]; exact g2)
  rw [ksL_length] at hb
  obtain ⟨m1, m2⟩ := ksTx_mem (salt := salt) hx
  have n1 : ksT i v.toNat s ∈ koTx l.length i v.toNat s p := List.mem_append.2 (.inl (by simp))
  have n2 : jb [bLeaf, dg (ksT i v.toNat s)] ∈ koTx l.length i v.toNat s p := List.mem_append.2 (.inl (by simp))
  rcases hb with hb | hb
  · by_cases e1 : jb [bLeaf, dg (ksT i v.toNat s)] = jb [bLeaf, dg (ksT i x.toNat (kslt salt i))]
    · have e2 := jb_inj e1
      simp only [List.cons.injEq, and_true, true_and] at e2
      by_cases e3 : ksT i v.toNat s = ksT i x.toNat (kslt salt i)
      · obtain ⟨_, e4, e5⟩ := ksT_inj e3
        have hr := sdV_at hsd hx
        exact .inl ⟨by omega, e5⟩
      · exact .inr ⟨_, List.mem_append.2 (.inr n1), _, List.mem_append.2 (.inl m1), e3, e2⟩
    · exact .inr ⟨_, List.mem_append.2 (.inr n2), _, List.mem_append.2 (.inl m2), e1, hb⟩
  · refine .inr (hb.mono fun y hy => ?_)
    rcases List.mem_append.1 hy with hy | hy
    · exact List.mem_append.2 (.inl (List.mem_append.2 (.inr hy)))
    · exact List.mem_append.2 (.inr (List.mem_append.2 (.inr hy)))

theorem kv_bind {l : List Int} {need total : Nat} {random : List Int} {i : Nat} {s : Int × Int} {p : List ByteArray} (hi : i < l.length) (h1 : 1 ≤ s.1) (h2 : s.1 ≤ (total : Int)) (h3 : 0 ≤ s.2)
    (h : kvB (rt (khP l need total random l.length)) (l.length : Int) (total : Int) (i : Int) s p = true) :
    p.length = plen (l.length * total) (i * total + (s.1 - 1).toNat) ∧ allD p = true ∧ (s.2 = evp (kpoly l need random i) s.1 ∨ Col (khTx l need total random ++ kkTx l.length total i s p)) := by
  obtain ⟨k, hk⟩ : ∃ k : Nat, s.1 = (k : Int) + 1 := ⟨(s.1 - 1).toNat, by omega⟩
  have hkt : k < total := by omega
  have ek : (s.1 - 1).toNat = k := by omega
  unfold kvB at h
  have e1 : (l.length : Int) * (total : Int) = ((l.length * total : Nat) : Int) := by rw [Int.natCast_mul]
  have e2 : (i : Int) * (total : Int) + s.1 - 1 = ((i * total + k : Nat) : Int) := by
    rw [Int.natCast_add, Int.natCast_mul, hk]; omega
  rw [e1, e2, Int.toNat_natCast] at h
  obtain ⟨g1, g2, g3⟩ := chk_parts h
  have hg := khP_get l need total random l.length i k hi hkt
  have hb := path_bind (khP l need total random l.length) (i * total + k) (khLf i s) _ p hg (by rw [khP_length]; exact g2)
  rw [khP_length] at hb
  have m1 : jb [bLeaf, khT i ((k : Int) + 1, evp (kpoly l need random i) ((k : Int) + 1))] ∈ khTx l need total random := by
    refine List.mem_append.2 (.inl (List.mem_flatMap.2 ⟨i, List.mem_range.2 hi, List.mem_map.2 ⟨_, List.mem_of_getElem? (kof_get l need total random i k hkt), rfl⟩⟩))
  have n1 : jb [bLeaf, khT i s] ∈ kkTx l.length total i s p := List.mem_append.2 (.inl (by simp))
  refine ⟨by rw [ek]; exact g3, g1, ?_⟩
  rcases hb with hb | hb
  · by_cases e3 : jb [bLeaf, khT i s] = jb [bLeaf, khT i ((k : Int) + 1, evp (kpoly l need random i) ((k : Int) + 1))]
    · have e4 := jb_inj e3
      simp only [List.cons.injEq, and_true, true_and] at e4
      have hr := evp_range (kpoly l need random i) ((k : Int) + 1)
      obtain ⟨_, e5⟩ := khT_inj ⟨by omega, h3⟩ ⟨by simp only; omega, hr.1⟩ e4
      exact .inl (by rw [e5])
    · exact .inr ⟨_, List.mem_append.2 (.inr n1), _, List.mem_append.2 (.inl m1), e3, hb⟩
  · refine .inr (hb.mono fun y hy => ?_)
    rcases List.mem_append.1 hy with hy | hy
    · exact List.mem_append.2 (.inl (List.mem_append.2 (.inr hy)))
    · refine List.mem_append.2 (.inr (List.mem_append.2 (.inr ?_)))
      rw [ek]; exact hy

/-! ### joining what was kept -/
structure Kp where
  ix : Int
  s : Int × Int
  A : Option Addr
  c : Nat
  p : List ByteArray
structure Og where
  ix : Int
  v : Int
  salt : ByteArray
  A : Option Addr
  c : Nat
  p : List ByteArray

/-- A kept share that counts: for slot i, its place and value in range, valid. -/
def kgood (root : ByteArray) (n kp i : Int) (k : Kp) : Bool := decide (k.ix = i) && decide (1 ≤ k.s.1 ∧ k.s.1 ≤ kp) && elemB k.s.2 && kvB root n kp i k.s k.p
def jst (root : ByteArray) (n kp i : Int) (S : List (Int × Int)) (k : Kp) : List (Int × Int) := if kgood root n kp i k && !(S.map (·.1)).contains k.s.1 then S ++ [k.s] else S
def jfd (root : ByteArray) (n kp i : Int) (l : List Kp) : List (Int × Int) := l.foldl (jst root n kp i) []
noncomputable def kjn (root : ByteArray) (n kp i : Int) (l : List Kp) (need : Int) : Int × Int :=
  if ((jfd root n kp i l).length : Int) < need then (0, 25)
  else if (joinF (jfd root n kp i l) need).2 ≠ 0 ∨ 720 ≤ (joinF (jfd root n kp i l) need).1 then (0, 24) else ((joinF (jfd root n kp i l) need).1, 0)
theorem jfd_snoc (root : ByteArray) (n kp i : Int) {l : List Kp} {j : Nat} {k : Kp} (h : l[j]? = some k) : jfd root n kp i (l.take (j + 1)) = jst root n kp i (jfd root n kp i (l.take j)) k := by
  unfold jfd; rw [take_snoc l j k h, List.foldl_append]; rfl
theorem jst_sub (root : ByteArray) (n kp i : Int) (S : List (Int × Int)) (k : Kp) : (jst root n kp i S k).length ≤ S.length + 1 ∧ ∀ s, s ∈ S → s ∈ jst root n kp i S k := by
  unfold jst; split
  · exact ⟨by simp, fun s hs => List.mem_append.2 (.inl hs)⟩
  · exact ⟨by omega, fun s hs => hs⟩
/-- What is kept by the fold, from any start. -/
theorem jfold_mem (root : ByteArray) (n kp i : Int) (l : List Kp) (S : List (Int × Int)) :
    (∀ s, s ∈ l.foldl (jst root n kp i) S → s ∈ S ∨ ∃ k ∈ l, k.s = s ∧ kgood root n kp i k = true) ∧
    ((S.map (·.1)).Nodup → ((l.foldl (jst root n kp i) S).map (·.1)).Nodup) ∧ (∀ s, s ∈ S → s ∈ l.foldl (jst root n kp i) S) ∧
    (∀ k, k ∈ l → kgood root n kp i k = true → k.s.1 ∈ (l.foldl (jst root n kp i) S).map (·.1)) := by
  induction l generalizing S with
  | nil => exact ⟨fun s hs => .inl hs, fun h => h, fun s hs => hs, fun k hk => by cases hk⟩
  | cons k l ih =>
    obtain ⟨a1, a2, a3, a4⟩ := ih (jst root n kp i S k)
    rw [List.foldl_cons]
    refine ⟨fun s hs => ?_, fun h => a2 ?_, fun s hs => a3 s ((jst_sub root n kp i S k).2 s hs), fun q hq hg => ?_⟩
    · rcases a1 s hs with h | ⟨q, hq, h1, h2⟩
      · unfold jst at h
        split at h
        · next hc =>
          rcases List.mem_append.1 h with h | h
          · exact .inl h
          · simp only [Bool.and_eq_true] at hc
            exact .inr ⟨k, List.mem_cons_self, (List.mem_singleton.1 h).symm, hc.1⟩
        · exact .inl h
      · exact .inr ⟨q, List.mem_cons_of_mem _ hq, h1, h2⟩
    · unfold jst
      split
      · next hc =>
        simp only [Bool.and_eq_true, Bool.not_eq_true', List.contains_eq_mem, decide_eq_false_iff_not] at hc
        rw [List.map_append, List.nodup_append]
        refine ⟨h, by simp, fun x hx y hy e => ?_⟩
        simp only [List.map_cons, List.map_nil, List.mem_singleton] at hy
        exact hc.2 (by rw [← hy, ← e]; exact hx)
      · exact h
    · rcases List.mem_cons.1 hq with rfl | hq
      · by_cases hc : (S.map (·.1)).contains q.s.1 = true
        · obtain ⟨s, hs, he⟩ := List.mem_map.1 (by simpa using hc : q.s.1 ∈ S.map (·.1))
          rw [← he]
          exact List.mem_map_of_mem (f := (·.1)) (a3 s ((jst_sub root n kp i S q).2 s hs))
        · refine List.mem_map_of_mem (f := (·.1)) (a3 q.s ?_)
          unfold jst
          rw [hg, show (S.map (·.1)).contains q.s.1 = false by simpa using hc]
          exact List.mem_append.2 (.inr (by simp))
      · exact a4 q hq hg
theorem jfd_on {root : ByteArray} {n kp i : Int} {l : List Kp} {p : List Int} (hkp : kp ≤ 16) (h : ∀ k, k ∈ l → kgood root n kp i k = true → k.s.2 = evp p k.s.1) : On p (jfd root n kp i l) := by
  obtain ⟨a1, a2, _, _⟩ := jfold_mem root n kp i l []
  refine ⟨fun s hs => ?_, fun s hs => ?_, a2 (by simp)⟩
  · rcases a1 s hs with h1 | ⟨k, hk, rfl, hg⟩
    · cases h1
    · simp only [kgood, Bool.and_eq_true, decide_eq_true_eq] at hg
      omega
  · rcases a1 s hs with h1 | ⟨k, hk, rfl, hg⟩
    · cases h1
    · exact h k hk hg
theorem kjn_ok {root : ByteArray} {n kp i : Int} {l : List Kp} {p : List Int} {need : Nat} (hon : On p (jfd root n kp i l)) (h1 : 1 ≤ need) (h2 : need ≤ 16) (hp : p.length ≤ need) (hl : need ≤ (jfd root n kp i l).length) (hv : evp p 0 ≤ 719) :
    kjn root n kp i l (need : Int) = (evp p 0, 0) := by
  have hj := joinF_on p need _ hon h1 h2 hp hl
  unfold kjn
  rw [if_neg (by omega), hj, if_neg (by simp only; omega)]
theorem kjn_few {root : ByteArray} {n kp i : Int} {l : List Kp} {need : Int} (hl : ((jfd root n kp i l).length : Int) < need) : kjn root n kp i l need = (0, 25) := by
  unfold kjn; rw [if_pos hl]

/-! ### a draw -/
noncomputable def kone (c : ByteArray × ByteArray) (n kp i : Int) (o : Og) (l : List Kp) (need : Int) : Int × Int × Bool :=
  if o.ix = i ∧ ckB c.1 n o.ix o.v o.salt o.p = true then (o.v, 0, false) else ((kjn c.2 n kp i l need).1, (kjn c.2 n kp i l need).2, true)
def ksum (rs : List (Int × Int × Bool)) : Nat → Int
  | 0 => 0
  | k + 1 => (ksum rs k + ((rs[k]?.map (·.1)).getD 0)) % 720
def kwh (rs : List (Int × Int × Bool)) : Nat → List Int
  | 0 => []
  | k + 1 => kwh rs k ++ (if (rs[k]?.map (·.2.2)).getD false then [(k : Int)] else [])
def kall (rs : List (Int × Int × Bool)) : Int × List Int × Int :=
  match rs.find? (fun r => r.2.1 != 0) with
  | some r => (0, [], r.2.1)
  | none => (ksum rs rs.length, kwh rs rs.length, 0)
noncomputable def krs (cs : List (ByteArray × ByteArray)) (n i : Int) (os : List Og) (ks : List (List Kp)) (need : Int) : List (Int × Int × Bool) :=
  (List.zip cs (List.zip os ks)).map fun q => kone q.1 n (cs.length : Int) i q.2.1 q.2.2 need
noncomputable def kdraw (cs : List (ByteArray × ByteArray)) (n i : Int) (os : List Og) (ks : List (List Kp)) (need : Int) : Int × List Int × Int :=
  if 1 ≤ cs.length ∧ cs.length ≤ 7 ∧ 1 ≤ n ∧ n ≤ 600 ∧ 0 ≤ i ∧ i ≤ n - 1 ∧ 1 ≤ need ∧ need ≤ cs.length ∧ os.length = cs.length ∧ ks.length = cs.length then kall (krs cs n i os ks need) else (0, [], 1)
end

section
open Go.RowKit Go.ChangeShapes Go.WideShapes Go.Deep

/-! ### a row of elements of m cells each -/
theorem flatM_length {α : Type} (f : α → List Value) (m : Nat) (hf : ∀ a, (f a).length = m) (l : List α) : (l.flatMap f).length = l.length * m := by
  induction l with
  | nil => simp
  | cons a l ih => rw [List.flatMap_cons, List.length_append, ih, hf, List.length_cons, Nat.add_mul, Nat.one_mul, Nat.add_comm]
theorem flatM_at {α : Type} (f : α → List Value) (m : Nat) (hf : ∀ a, (f a).length = m) (l : List α) (k : Nat) (a : α) (h : l[k]? = some a) (j : Nat) (hj : j < m) : (l.flatMap f)[k * m + j]? = (f a)[j]? := by
  induction l generalizing k with
  | nil => simp at h
  | cons b l ih =>
    rw [List.flatMap_cons]
    cases k with
    | zero =>
      obtain rfl : b = a := by simpa using h
      rw [Nat.zero_mul, Nat.zero_add, List.getElem?_append_left (by rw [hf]; exact hj)]
    | succ k =>
      have := ih k (by simpa using h)
      rw [List.getElem?_append_right (by rw [hf, Nat.add_mul]; omega), hf, ← this]
      congr 1
      rw [Nat.add_mul]; omega
theorem flatM_get {α : Type} (f : α → List Value) (m : Nat) (hf : ∀ a, (f a).length = m) (l : List α) (j : Nat) (u : Value) (h : (l.flatMap f)[j]? = some u) : ∃ (k r : Nat) (a : α), l[k]? = some a ∧ j = k * m + r ∧ (f a)[r]? = some u := by
  induction l generalizing j with
  | nil => simp at h
  | cons b l ih =>
    rw [List.flatMap_cons] at h
    by_cases hj : j < m
    · rw [List.getElem?_append_left (by rw [hf]; exact hj)] at h
      exact ⟨0, j, b, rfl, by omega, h⟩
    · rw [List.getElem?_append_right (by rw [hf]; omega), hf] at h
      obtain ⟨k, r, a, h1, h2, h3⟩ := ih (j - m) h
      exact ⟨k + 1, r, a, by simpa using h1, by rw [Nat.add_mul]; omega, h3⟩

/-- A slice whose elements are f of a list's (m cells each). -/
def RowOf {α : Type} (f : α → List Value) (m : Nat) (w : World) (A : Option Addr) (l : List α) : Prop := Rd w m A l.length (l.flatMap f)
theorem RowOf.below {α : Type} {f : α → List Value} {m : Nat} {w w' : World} {A : Option Addr} {l : List α} (h : RowOf f m w A l) (hb : Below w.heap.size w w') : RowOf f m w' A l := Rd.below h hb
theorem RowOf.at_ {α : Type} {f : α → List Value} {m : Nat} {w : World} {A : Option Addr} {l : List α} (h : RowOf f m w A l) (hf : ∀ a, (f a).length = m) {k : Nat} {a : α} (hk : l[k]? = some a) :
    ∃ b off, A = some ⟨b, off, none⟩ ∧ ∀ j u, (f a)[j]? = some u → w.cell? ⟨b, off + k * m + j, none⟩ = some u := by
  have hl : k < l.length := (List.getElem?_eq_some_iff.1 hk).1
  obtain ⟨b, off, e, hc⟩ := h.2 (by omega)
  refine ⟨b, off, e, fun j u hu => ?_⟩
  have hj : j < m := by have := (List.getElem?_eq_some_iff.1 hu).1; rwa [hf] at this
  rw [Nat.add_assoc]
  exact hc _ _ (by rw [flatM_at f m hf l k a hk j hj]; exact hu)
theorem RowOf.nil {α : Type} (f : α → List Value) (m : Nat) (w : World) (A : Option Addr) : RowOf f m w A ([] : List α) := Rd.nil w m A
theorem row_in {α : Type} {f : α → List Value} {m : Nat} (hf : ∀ a, (f a).length = m) {w : World} {R : List Value → α → Prop} (hR : ∀ cs a, R cs a → cs = f a) {A : Option Addr} {c : Nat} {l : List α} (h : SlC w m R [.slice A l.length c] l) :
    RowOf f m w A l ∧ l.length ≤ c ∧ l.length ≤ 9223372036854775807 ∧ ∀ a, a ∈ l → ∃ cs, R cs a := by
  obtain ⟨A', c', he, h1, h2, h3⟩ := h
  obtain ⟨rfl, rfl⟩ : A = A' ∧ c = c' := by simpa using he
  refine ⟨⟨flatM_length f m hf l, fun hn => ?_⟩, h1, by unfold maxLen at h2; omega, fun a ha => ?_⟩
  · obtain ⟨b, off, rfl, _, hc⟩ := h3 hn
    refine ⟨b, off, rfl, fun j u hu => ?_⟩
    obtain ⟨k, r, a, h4, rfl, h5⟩ := flatM_get f m hf l j u hu
    obtain ⟨cs', _, hcs, hr⟩ := hc k a h4
    have := hcs r u (by rw [hR cs' a hr]; exact h5)
    rw [← Nat.add_assoc]
    exact this
  · obtain ⟨k, hk⟩ := List.getElem?_of_mem ha
    obtain ⟨b, off, _, _, hc⟩ := h3 (by have := (List.getElem?_eq_some_iff.1 hk).1; omega)
    obtain ⟨cs', _, _, hr⟩ := hc k a hk
    exact ⟨cs', hr⟩

/-! ### openings, kept shares, commitments, keepers -/
def ogC (a : Og) : List Value := [.int .i64 a.ix, .int .i64 a.v, .string a.salt, .slice a.A a.p.length a.c]
def kpC (a : Kp) : List Value := [.int .i64 a.ix, .int .i64 a.s.1, .int .i64 a.s.2, .slice a.A a.p.length a.c]
def cmC (a : ByteArray × ByteArray) : List Value := [.string a.1, .string a.2]
structure Kr where
  SA : Option Addr
  sc : Nat
  seeds : List Int
  salt : ByteArray
  RA : Option Addr
  rc : Nat
  random : List Int
def krC (a : Kr) : List Value := [.slice a.SA a.seeds.length a.sc, .string a.salt, .slice a.RA a.random.length a.rc]
structure Kw where
  A : Option Addr
  c : Nat
  l : List Kp
def kwC (a : Kw) : List Value := [.slice a.A a.l.length a.c]
theorem ogC_len (a : Og) : (ogC a).length = 4 := rfl
theorem kpC_len (a : Kp) : (kpC a).length = 4 := rfl
theorem cmC_len (a : ByteArray × ByteArray) : (cmC a).length = 2 := rfl
theorem krC_len (a : Kr) : (krC a).length = 3 := rfl
theorem kwC_len (a : Kw) : (kwC a).length = 1 := rfl

def i64ok (x : Int) : Prop := -9223372036854775808 ≤ x ∧ x ≤ 9223372036854775807
/-- What else is known of an opening in memory. -/
structure OgIn (w : World) (a : Og) : Prop where
  p : Strs w a.A a.p
  cap : a.p.length ≤ a.c
  len : a.p.length ≤ 9223372036854775807
  ix : i64ok a.ix
  v : i64ok a.v
  salt : a.salt.size ≤ 9223372036854775807
structure KpIn (w : World) (a : Kp) : Prop where
  p : Strs w a.A a.p
  cap : a.p.length ≤ a.c
  len : a.p.length ≤ 9223372036854775807
  ix : i64ok a.ix
  x : i64ok a.s.1
  y : i64ok a.s.2
theorem OgIn.below {w w' : World} {a : Og} (h : OgIn w a) (hb : Below w.heap.size w w') : OgIn w' a := ⟨h.p.below hb, h.cap, h.len, h.ix, h.v, h.salt⟩
theorem KpIn.below {w w' : World} {a : Kp} (h : KpIn w a) (hb : Below w.heap.size w w') : KpIn w' a := ⟨h.p.below hb, h.cap, h.len, h.ix, h.x, h.y⟩
structure KrIn (w : World) (a : Kr) : Prop where
  s : Ints w a.SA a.seeds
  r : Ints w a.RA a.random
  sl : a.seeds.length ≤ 9223372036854775807
  rl : a.random.length ≤ 9223372036854775807
  sc : a.seeds.length ≤ a.sc
  rc : a.random.length ≤ a.rc
  salt : a.salt.size ≤ 9223372036854775807
  scm : a.sc ≤ 9223372036854775807
  rcm : a.rc ≤ 9223372036854775807
theorem KrIn.below {w w' : World} {a : Kr} (h : KrIn w a) (hb : Below w.heap.size w w') : KrIn w' a := ⟨h.s.below hb, h.r.below hb, h.sl, h.rl, h.sc, h.rc, h.salt, h.scm, h.rcm⟩
structure KwIn (w : World) (a : Kw) : Prop where
  row : RowOf kpC 4 w a.A a.l
  each : ∀ k, k ∈ a.l → KpIn w k
  len : a.l.length ≤ 9223372036854775807
theorem KwIn.below {w w' : World} {a : Kw} (h : KwIn w a) (hb : Below w.heap.size w w') : KwIn w' a := ⟨h.row.below hb, fun k hk => (h.each k hk).below hb, h.len⟩

def OgC (w : World) (cs : List Value) (a : Og) : Prop := cs = ogC a ∧ OgIn w a
def KpC (w : World) (cs : List Value) (a : Kp) : Prop := cs = kpC a ∧ KpIn w a
def CmC (cs : List Value) (a : ByteArray × ByteArray) : Prop := cs = cmC a ∧ a.1.size ≤ 9223372036854775807 ∧ a.2.size ≤ 9223372036854775807
def KrC (w : World) (cs : List Value) (a : Kr) : Prop := cs = krC a ∧ KrIn w a
def KwC (w : World) (cs : List Value) (a : Kw) : Prop := cs = kwC a ∧ KwIn w a

theorem cs4_of {cs : List Value} (hl : cs.length = 4) : ∃ a b c d, cs = [a, b, c, d] := by
  match cs, hl with
  | [a, b, c, d], _ => exact ⟨a, b, c, d, rfl⟩

theorem opn_og (w : World) : Opn Tryz.prog w 32 (OgC w) := by
  intro H enc n cs x h
  obtain ⟨V, rfl, hf⟩ := Opn.fields1 Tryz.underlying32 (by kernel_rfl) (by kernel_rfl) h
  obtain ⟨a0, h0, w0⟩ := hf 0 _ rfl (Opn.int Tryz.underlying3)
  obtain ⟨a1, h1, w1⟩ := hf 1 _ rfl (Opn.int Tryz.underlying3)
  obtain ⟨a2, h2, w2⟩ := hf 2 _ rfl (Opn.str Tryz.underlying9)
  obtain ⟨a3, h3⟩ := hf 3 _ rfl (Opn.slice Tryz.underlying30 (m := 1) (by kernel_rfl) (by decide) (Opn.str Tryz.underlying9))
  have h3' := h3
  obtain ⟨A, c, he, hl1, hl2, -⟩ := h3'
  have he : V 3 = .slice A a3.length c := by simpa using he
  rw [he] at h3
  obtain ⟨i1, i2⟩ := strs_in h3
  simp only [List.cons.injEq, and_true] at h0 h1 h2
  refine ⟨⟨a0, a1, a2, A, c, a3⟩, ?_, i1, hl1, i2, wf_i64_ w0, wf_i64_ w1, by unfold maxLen at w2; omega⟩
  simp [List.range_succ, ogC, h0, h1, h2, he]

theorem opn_kp (w : World) : Opn Tryz.prog w 50 (KpC w) := by
  intro H enc n cs x h
  obtain ⟨hl, hf⟩ := Opn.fields Tryz.underlying50 h
  have hl : cs.length = 4 := hl.trans (by kernel_rfl)
  obtain ⟨c0, c1, c2, c3, rfl⟩ := cs4_of hl
  obtain ⟨a0, h0⟩ := hf 0 _ rfl (Opn.int Tryz.underlying3)
  obtain ⟨a1, h1⟩ := hf 1 _ rfl (opn_share w)
  obtain ⟨a2, h2⟩ := hf 2 _ rfl (Opn.slice Tryz.underlying30 (m := 1) (by kernel_rfl) (by decide) (Opn.str Tryz.underlying9))
  have k0 : Tryz.prog.cellsOf 3 = 1 := by kernel_rfl
  have k1 : Tryz.prog.cellsOf 48 = 2 := by kernel_rfl
  have k2 : Tryz.prog.cellsOf 30 = 1 := by kernel_rfl
  have h0 : IntC .i64 (([c0, c1, c2, c3].drop 0).take (Tryz.prog.cellsOf 3)) a0 := h0
  have h1 : ShC (([c0, c1, c2, c3].drop 1).take (Tryz.prog.cellsOf 48)) a1 := h1
  have h2 : SlC w 1 StrC (([c0, c1, c2, c3].drop 3).take (Tryz.prog.cellsOf 30)) a2 := h2
  rw [k0] at h0
  rw [k1] at h1
  rw [k2] at h2
  obtain ⟨e0, w0⟩ := h0
  obtain rfl : c0 = .int .i64 a0 := by simpa using e0
  obtain ⟨e1, e2, e3⟩ := h1
  have e1 : c1 = .int .i64 a1.1 ∧ c2 = .int .i64 a1.2 := by simpa using e1
  obtain ⟨rfl, rfl⟩ := e1
  have h2 : SlC w 1 StrC [c3] a2 := h2
  have h3 := h2
  obtain ⟨A, c, he, hl1, hl2, -⟩ := h3
  obtain rfl : c3 = .slice A a2.length c := by simpa using he
  obtain ⟨i1, i2⟩ := strs_in h2
  exact ⟨⟨a0, a1, A, c, a2⟩, rfl, i1, hl1, i2, wf_i64_ w0, e2, e3⟩

theorem opn_cm (w : World) : Opn Tryz.prog w 29 CmC := by
  intro H enc n cs x h
  obtain ⟨V, rfl, hf⟩ := Opn.fields1 Tryz.underlying29 (by kernel_rfl) (by kernel_rfl) h
  obtain ⟨a0, h0, w0⟩ := hf 0 _ rfl (Opn.str Tryz.underlying9)
  obtain ⟨a1, h1, w1⟩ := hf 1 _ rfl (Opn.str Tryz.underlying9)
  simp only [List.cons.injEq, and_true] at h0 h1
  refine ⟨(a0, a1), ?_, by unfold maxLen at w0; exact w0, by unfold maxLen at w1; exact w1⟩
  simp [List.range_succ, cmC, h0, h1]

theorem opn_kr (w : World) : Opn Tryz.prog w 27 (KrC w) := by
  intro H enc n cs x h
  obtain ⟨V, rfl, hf⟩ := Opn.fields1 Tryz.underlying27 (by kernel_rfl) (by kernel_rfl) h
  obtain ⟨a0, h0⟩ := hf 0 _ rfl (Opn.slice Tryz.underlying23 (m := 1) (by kernel_rfl) (by decide) (Opn.int Tryz.underlying3))
  obtain ⟨a1, h1, w1⟩ := hf 1 _ rfl (Opn.str Tryz.underlying9)
  obtain ⟨a2, h2⟩ := hf 2 _ rfl (Opn.slice Tryz.underlying23 (m := 1) (by kernel_rfl) (by decide) (Opn.int Tryz.underlying3))
  have h0' := h0
  obtain ⟨A, c, he0, hl1, hl2, -⟩ := h0'
  have he0 : V 0 = .slice A a0.length c := by simpa using he0
  rw [he0] at h0
  have h2' := h2
  obtain ⟨B, d, he2, hm1, hm2, -⟩ := h2'
  have he2 : V 2 = .slice B a2.length d := by simpa using he2
  rw [he2] at h2
  obtain ⟨i1, i2⟩ := ints_in h0
  obtain ⟨j1, j2⟩ := ints_in h2
  simp only [List.cons.injEq, and_true] at h1
  unfold maxLen at hl2 hm2 w1
  refine ⟨⟨A, c, a0, a1, B, d, a2⟩, ?_, i1, j1, i2, j2, hl1, hm1, w1, hl2, hm2⟩
  simp [List.range_succ, krC, h1, he0, he2]

theorem opn_kw (w : World) : Opn Tryz.prog w 33 (KwC w) :=
  (Opn.slice Tryz.underlying33 (m := 4) (by kernel_rfl) (by decide) (opn_kp w)).map fun cs a h => by
    have h' := h
    obtain ⟨A, c, rfl, h1, h2, -⟩ := h'
    obtain ⟨i1, _, i3, i4⟩ := row_in kpC_len (fun cs a (hR : KpC w cs a) => hR.1) h
    exact ⟨⟨A, c, a⟩, rfl, i1, fun k hk => by obtain ⟨_, _, hk⟩ := i4 k hk; exact hk, i3⟩
end

section
open Go.RowKit

theorem row_mono {w : World} {B B' e size n : Nat} {v : Value} {xs : List Value} (h : w.ownsRow B e size v n xs) (hb : B' ≤ B) : w.ownsRow B' e size v n xs := by
  refine ⟨h.1, ?_⟩
  rcases h.2 with hn | ⟨g, cap, cur, rfl, hg, rest⟩
  · exact .inl hn
  · exact .inr ⟨g, cap, cur, rfl, by omega, rest⟩
/-- A path that reads, in a block of strings. -/
def PathIn (w : World) (A : Option Addr) (l : List ByteArray) : Prop := Strs w A l ∧ ∀ a, A = some a → ∃ cs, w.heap[a.block]? = some (.cells cs 9 (0, 0))
theorem PathIn.keep {w w' : World} {A : Option Addr} {l : List ByteArray} (h : PathIn w A l) (hb : ∀ a cs, A = some a → w.heap[a.block]? = some (.cells cs 9 (0, 0)) → w'.heap[a.block]? = w.heap[a.block]?) : PathIn w' A l := by
  refine ⟨⟨h.1.1, fun hn => ?_⟩, fun a ha => ?_⟩
  · obtain ⟨b, off, e, hc⟩ := h.1.2 hn
    obtain ⟨cs, hcs⟩ := h.2 _ e
    have hbb : w'.heap[b]? = w.heap[b]? := hb _ cs e hcs
    exact ⟨b, off, e, fun j u hu => (World.cell?_of_block (w := w) (w' := w') (a := ⟨b, off + j, none⟩) hbb).trans (hc j u hu)⟩
  · obtain ⟨cs, hcs⟩ := h.2 a ha
    exact ⟨cs, (hb a cs ha hcs).trans hcs⟩
theorem PathIn.below {w w' : World} {A : Option Addr} {l : List ByteArray} (h : PathIn w A l) (hb : Below w.heap.size w w') : PathIn w' A l := h.keep fun a cs _ hcs => hb.block _ (Array.getElem?_eq_some_iff.1 hcs).1
theorem PathIn.chg {w w' : World} {F : List Nat} {A : Option Addr} {l : List ByteArray} (h : PathIn w A l) (hc : Chg F w w') (hA : ∀ a, A = some a → a.block ∉ F) : PathIn w' A l := h.keep fun a cs ha hcs => hc.block _ (Array.getElem?_eq_some_iff.1 hcs).1 (hA a ha)
def wiB (n lo hi : Int) : Bool := decide (lo ≤ n ∧ n ≤ hi)
theorem kwithin_any (n lo hi : Int) (w : World) :
    Calls Tryz.prog 52 #[.int .i64 n, .int .i64 lo, .int .i64 hi] w fun e w' => e = .returned (.bool (wiB n lo hi)) ∧ w = w' := by
  unfold wiB
  by_cases h0 : lo ≤ n
  · by_cases h1 : n ≤ hi
    · go_enter Tryz.func52, Tryz.ntmps52
      go_wp2
      go_ret
      exact ⟨ret_bool (by simp [h0, h1]), rfl⟩
    · go_enter Tryz.func52, Tryz.ntmps52
      go_wp2
      go_ret
      exact ⟨ret_bool (by simp [h1]), rfl⟩
  · go_enter Tryz.func52, Tryz.ntmps52
    go_wp2
    go_ret
    exact ⟨ret_bool (by simp; omega), rfl⟩

set_option maxHeartbeats 2000000 in
theorem ksval_any (A : Option Addr) (c : Nat) (l : List Int) (salt : ByteArray) (w : World) (hA : Ints w A l) (hl : l.length ≤ 9223372036854775807) (hs : salt.size ≤ 9223372036854775807) :
    Calls Tryz.prog 51 #[.agg #[.slice A l.length c, .string salt]] w fun e w' => e = .returned (.bool (sdOk l salt)) ∧ Below w.heap.size w w' := by
  have HA : Hid (∀ W, Below w.heap.size w W → Ints W A l) := Lib.hid (fun W hW => hA.below hW)
  have HW0 := Lib.hid (below_alloc (Below.refl w.heap.size w) (.cells #[.slice A l.length c, .string salt] 86))
  have HE : Hid (sdV l = true → sdOk l salt = (wiB l.length 1 600 && decide (salt.size ≤ 400))) := Lib.hid (fun h => by
    unfold sdOk wiB; rw [h, Bool.true_and, Bool.eq_iff_iff]; simp only [Bool.and_eq_true, decide_eq_true_eq]; omega)
  have HN : Hid (sdV l = false → sdOk l salt = false) := Lib.hid (fun h => by unfold sdOk; rw [h]; rfl)
  generalize sdOk l salt = r at *
  have hsv : (l.all fun v => decide (0 ≤ v ∧ v ≤ 719)) = sdV l := rfl
  have HSV := Lib.hid hsv
  clear hA hsv
  go_enter Tryz.func51, Tryz.ntmps51
  go_wp2
  go_loop [4, 8] (fun _ u8 => ∃ k : Nat, k ≤ l.length ∧ u8 = .int .i64 k ∧ ((l.take k).all fun v => decide (0 ≤ v ∧ v ≤ 719)) = true) (fun _ u8 => l.length - (intOf u8).toNat)
  case atStart => exact ⟨0, Nat.zero_le _, rfl, rfl⟩
  case round =>
  obtain ⟨k, hk, rfl, hall⟩ := hrel
  have HALL := Lib.hid hall
  clear hall
  by_cases hlt : k < l.length
  case pos =>
    obtain ⟨x, hx⟩ := get_some l k hlt
    obtain ⟨b, off, rfl, hcell⟩ := (HA.out _ HW0.out).at_ hx
    have hlc := lt_of_cell hcell
    have HX := Lib.hid hx
    clear hx
    obtain ⟨bx, hbx⟩ : ∃ b, wiB x 0 719 = b := ⟨_, rfl⟩
    have HBX := Lib.hid hbx
    go_wp2_with fail
    refine (kwithin_any _ _ _ _).mono ?_
    rintro e w' ⟨rfl, rfl⟩
    rw [hbx]
    clear hbx
    cases bx with
    | false =>
      have hf : sdV l = false := by rw [← HSV.out]; exact all_false_of _ l k x HX.out HBX.out
      have HF := Lib.hid (HN.out hf)
      clear hf
      go_wp2
      go_ret
      exact ⟨ret_bool HF.out.symm, HW0.out⟩
    | true =>
      go_wp2
      go_round
      case rel => exact ⟨k + 1, by omega, by go_num, by rw [all_take_succ _ l k x HX.out, HALL.out]; exact HBX.out⟩
      case measure => simp [intOf]; omega
  case neg =>
  obtain rfl : k = l.length := by omega
  have hv : sdV l = true := by rw [← HSV.out]; have := HALL.out; rwa [List.take_of_length_le (Nat.le_refl _)] at this
  have HRE := Lib.hid (HE.out hv)
  clear hv
  obtain ⟨b1, hb1⟩ : ∃ b, wiB l.length 1 600 = b := ⟨_, rfl⟩
  have HB1 := Lib.hid hb1
  by_cases h4 : salt.size ≤ 400
  all_goals
    go_wp2_with fail
    refine (kwithin_any _ _ _ _).mono ?_
    rintro e w' ⟨rfl, rfl⟩
    rw [hb1]
    cases b1
    all_goals
      clear hb1
      go_wp2
      go_ret
      exact ⟨ret_bool (by rw [HRE.out, HB1.out]; first | (simp [h4]; done) | (simp [h4]; omega)), HW0.out⟩

/-! ### salts and leaves -/
theorem jn_salt (salt : ByteArray) (i : Nat) (hs : salt.size ≤ 400) (hi : i ≤ 1000000) : (jn [bSalt, salt, dec i]).length ≤ 1000000 := by
  have h1 := dec_len salt.size 9 (by omega)
  have h2 := dec_len i 9 (by omega)
  have h3 := dec_len (dec i).size 9 (by show (Go.Lib.decDigits i).length < _; omega)
  have h4 : (dec i).data.toList.length = (Go.Lib.decDigits i).length := rfl
  have h5 : salt.data.toList.length = salt.size := by rw [Array.length_toList]; rfl
  simp only [jn_cons, List.length_append, List.length_cons, h4, h5]
  have h6 : (Go.Lib.decDigits bSalt.size).length ≤ 10 := dec_len _ 9 (by decide)
  have h7 : bSalt.data.toList.length = 4 := rfl
  have h8 : (jn []).length = 0 := rfl
  omega
theorem jn_seed (i v : Nat) (s : ByteArray) (hi : i ≤ 1000000) (hv : v ≤ 1000000) (hs : s.size ≤ 400) : (jn [bSeed, dec i, dec v, s]).length ≤ 1000000 := by
  have h1 := dec_len s.size 9 (by omega)
  have h2 := dec_len i 9 (by omega)
  have h2' := dec_len v 9 (by omega)
  have h3 := dec_len (dec i).size 9 (by show (Go.Lib.decDigits i).length < _; omega)
  have h3' := dec_len (dec v).size 9 (by show (Go.Lib.decDigits v).length < _; omega)
  have h4 : (dec i).data.toList.length = (Go.Lib.decDigits i).length := rfl
  have h4' : (dec v).data.toList.length = (Go.Lib.decDigits v).length := rfl
  have h5 : s.data.toList.length = s.size := by rw [Array.length_toList]; rfl
  simp only [jn_cons, List.length_append, List.length_cons, h4, h4', h5]
  have h6 : (Go.Lib.decDigits bSeed.size).length ≤ 10 := dec_len _ 9 (by decide)
  have h7 : bSeed.data.toList.length = 4 := rfl
  have h8 : (jn []).length = 0 := rfl
  omega
theorem kslt_size (salt : ByteArray) (i : Nat) : (kslt salt i).size = 16 := dg_size _

set_option maxHeartbeats 4000000 in
theorem ksalted_any (v : Value) (salt : ByteArray) (i : Nat) (w : World) (hs : salt.size ≤ 400) (hi : i ≤ 1000000) (hT : Tabs w) :
    Calls Tryz.prog 54 #[.agg #[v, .string salt], .int .i64 i] w fun e w' => e = .returned (.string (kslt salt i)) ∧ Below w.heap.size w w' := by
  obtain ⟨w0, hw0⟩ : ∃ w0, w.alloc (.cells #[v, .string salt] 86) = w0 := ⟨_, rfl⟩
  have HB0 : Hid (Below w.heap.size w w0) := Lib.hid (by rw [← hw0]; exact below_alloc (Below.refl _ _) _)
  have HK : Hid (∀ W, Below w0.heap.size w0 W → W.cell? ⟨w.heap.size, 1, none⟩ = some (.string salt)) := Lib.hid (fun W hW => by
    have hb : Blk w0 w.heap.size 86 #[v, .string salt] := by rw [← hw0]; exact Blk.new w _ _ _ rfl
    exact kept_cell hW (hb.of_cell (i := 1) rfl))
  have HT : Hid (∀ W, Below w.heap.size w W → Tabs W) := Lib.hid (fun W hW => hT.below hW)
  have HL : Hid (∀ (A : Option Addr) (c : Nat) W, Strs W A [bSalt, salt, dec i] → Below w.heap.size w W → Calls Tryz.prog 96 #[.slice A 3 c] W fun e w' => e = .returned (.string (kslt salt i)) ∧ Below W.heap.size W w') := Lib.hid (fun A c W hS hW => list_any A c [bSalt, salt, dec i] W hS (hT.below hW) (jn_salt salt i hs hi) (by simp))
  have hin : i ≤ 9223372036854775807 := by omega
  clear hT
  go_enter Tryz.func54, Tryz.ntmps54
  go_wp2_with fail
  clear hw0
  refine wp_region_held_drew (S := fun W => Below w0.heap.size w0 W) (by kernel_rfl) ((Below.refl _ _).drew) (fun hS0 => ?_)
  refine wpAnyH_take (i := 0) (v := ?_) rfl (by kernel_rfl) (by kernel_rfl) (by kernel_rfl) (fun _ _ _ h => h) (Or.inl ⟨by kernel_rfl, ?hy⟩) hS0 ?rest
  case hy => (intro W hSw; clear hSw; go_simp; with_reducible rfl)
  case rest =>
  refine wpAnyH_take (i := 1) (v := ?_) rfl (by kernel_rfl) (by kernel_rfl) (by kernel_rfl) (fun _ _ _ h => h) (Or.inl ⟨by kernel_rfl, ?hy⟩) hS0 ?rest
  case hy => (intro W hSw; have z := HK.out W hSw; have zl := lt_of_cell z; clear hSw; go_simp; with_reducible rfl)
  case rest =>
  refine wpAnyH_take (i := 2) (v := ?_) rfl (by kernel_rfl) (by kernel_rfl) (by kernel_rfl) (fun _ _ _ h => h) (Or.inl ⟨by kernel_rfl, ?hy⟩) hS0 ?rest
  case hy => (intro W hSw; clear hSw; go_simp; with_reducible rfl)
  case rest =>
  refine wpAnyH_ready (rs := [3]) (by kernel_rfl) (by simp) ?_
  refine AllReadyH.cons rfl (fun K hK => ?_) (AllReadyH.nil)
  go_simp
  refine (itoa_any i hin _ (HT.out _ (below_trans HB0.out hS0))).mono ?_
  rintro e wa ⟨rfl, hb⟩
  have HBA := Lib.hid (below_trans hS0 hb)
  go_simp
  refine hK.out _ _ HBA.out (fun hS1 => ?_)
  clear hK K hb
  refine wpAnyH_ready (rs := [4]) (by kernel_rfl) (by simp) ?_
  refine AllReadyH.cons rfl (fun K hK => ?_) (AllReadyH.nil)
  go_simp
  have hst : Strs (wa.alloc (.cells #[.string bSalt, .string salt, .string (dec i)] 9)) (some ⟨wa.heap.size, 0, none⟩) [bSalt, salt, dec i] := Strs_new wa _ _ _ _ rfl rfl
  have HST := Lib.hid hst
  clear hst
  refine hK.out _ _ (below_alloc HBA.out _) (fun hS2 => ?_)
  clear hK K
  refine wpAnyH_ready (rs := [5]) (by kernel_rfl) (by simp) ?_
  refine AllReadyH.cons rfl (fun K hK => ?_) (AllReadyH.nil)
  go_simp
  refine (HL.out _ _ _ HST.out (below_trans HB0.out (below_alloc HBA.out _))).mono ?_
  rintro e wb ⟨rfl, hb⟩
  have HBB := Lib.hid (below_trans (below_alloc HBA.out _) hb)
  go_simp
  refine hK.out _ _ HBB.out (fun hS3 => ?_)
  clear hK K hb
  refine wpAnyH_take (i := 6) (v := ?_) rfl (by kernel_rfl) (by kernel_rfl) (by kernel_rfl) (fun _ _ _ h => h) (Or.inl ⟨by kernel_rfl, ?hy⟩) hS3 ?rest
  case hy => (intro W hSw; clear hSw; go_simp; with_reducible rfl)
  case rest =>
  refine wpAnyH_done (by kernel_rfl) ?_ _
  clear hS3
  go_wp2
  go_ret
  exact ⟨rfl, below_trans HB0.out HBB.out⟩
set_option maxHeartbeats 4000000 in
theorem kleaf_any (i v : Nat) (s : ByteArray) (w : World) (hi : i ≤ 1000000) (hv : v ≤ 1000000) (hs : s.size ≤ 400) (hT : Tabs w) :
    Calls Tryz.prog 66 #[.int .i64 i, .int .i64 v, .string s] w fun e w' => e = .returned (.string (ksLf i v s)) ∧ Below w.heap.size w w' := by
  have HT : Hid (∀ W, Below w.heap.size w W → Tabs W) := Lib.hid (fun W hW => hT.below hW)
  have HL : Hid (∀ (A : Option Addr) (c : Nat) W, Strs W A [bSeed, dec i, dec v, s] → Below w.heap.size w W → Calls Tryz.prog 96 #[.slice A 4 c] W fun e w' => e = .returned (.string (dg (ksT i v s))) ∧ Below W.heap.size W w') := Lib.hid (fun A c W hS hW => list_any A c [bSeed, dec i, dec v, s] W hS (hT.below hW) (jn_seed i v s hi hv hs) (by simp))
  have HF : Hid (∀ W, Below w.heap.size w W → Calls Tryz.prog 111 #[.string (dg (ksT i v s))] W fun e w' => e = .returned (.string (ksLf i v s)) ∧ Below W.heap.size W w') := Lib.hid (fun W hW => leaf_any _ (by rw [dg_size]; omega) W (hT.below hW))
  generalize dg (ksT i v s) = d at *
  generalize ksLf i v s = r at *
  have hin : i ≤ 9223372036854775807 := by omega
  have hvn : v ≤ 9223372036854775807 := by omega
  clear hT
  go_enter Tryz.func66, Tryz.ntmps66
  go_wp2_with fail
  refine (itoa_any i hin _ (HT.out _ (Below.refl _ _))).mono ?_
  rintro e w1 ⟨rfl, hb⟩
  have HB1 := Lib.hid hb
  clear hb
  go_wp2_with fail
  refine (itoa_any v hvn _ (HT.out _ HB1.out)).mono ?_
  rintro e w2 ⟨rfl, hb⟩
  have HB2 := Lib.hid (below_trans HB1.out hb)
  clear hb
  go_wp2_with fail
  refine (HL.out _ _ _ (Strs_new w2 #[.string bSeed, .string (dec i), .string (dec v), .string s] _ _ [bSeed, dec i, dec v, s] rfl rfl) (below_alloc HB2.out _)).mono ?_
  rintro e w3 ⟨rfl, hb⟩
  have HB3 := Lib.hid (below_trans (below_alloc HB2.out _) hb)
  clear hb
  go_wp2_with fail
  refine (HF.out _ HB3.out).mono ?_
  rintro e w4 ⟨rfl, hb⟩
  have HB4 := Lib.hid (below_trans HB3.out hb)
  clear hb
  go_wp2
  go_ret
  exact ⟨rfl, HB4.out⟩

set_option maxHeartbeats 4000000 in
theorem kleaves_any (A : Option Addr) (c : Nat) (l : List Int) (salt : ByteArray) (w : World) (hA : Ints w A l) (hok : sdOk l salt = true) (hT : Tabs w) :
    Calls Tryz.prog 44 #[.agg #[.slice A l.length c, .string salt]] w fun e w' => ∃ v, e = .returned v ∧ w'.ownsRow w.heap.size 9 1 v l.length ((ksL l salt).map Value.string) ∧ Below w.heap.size w w' := by
  obtain ⟨w0, hw0⟩ : ∃ w0, w.alloc (.cells #[.slice A l.length c, .string salt] 86) = w0 := ⟨_, rfl⟩
  have hk := hok
  simp only [sdOk, Bool.and_eq_true, decide_eq_true_eq] at hk
  obtain ⟨hsv, h1, h6, hs4⟩ := hk
  have HB0 : Hid (Below w.heap.size w w0) := Lib.hid (by rw [← hw0]; exact below_alloc (Below.refl _ _) _)
  have HK : Hid (∀ W, Below w0.heap.size w0 W → W.cell? ⟨w.heap.size, 0, none⟩ = some (.slice A l.length c) ∧ W.cell? ⟨w.heap.size, 1, none⟩ = some (.string salt)) := Lib.hid (fun W hW => by
    have hb : Blk w0 w.heap.size 86 #[.slice A l.length c, .string salt] := by rw [← hw0]; exact Blk.new w _ _ _ rfl
    exact ⟨kept_cell hW (hb.of_cell (i := 0) rfl), kept_cell hW (hb.of_cell (i := 1) rfl)⟩)
  have HT : Hid (∀ W, Below w.heap.size w W → Tabs W) := Lib.hid (fun W hW => hT.below hW)
  have HA : Hid (∀ W, Below w.heap.size w W → Ints W A l) := Lib.hid (fun W hW => hA.below hW)
  have HV : Hid (∀ (k : Nat) (x : Int), l[k]? = some x → 0 ≤ x ∧ x ≤ 719) := Lib.hid (fun k x h => sdV_at hsv h)
  have HLT : Hid (∀ (k : Nat) (x : Int), l[k]? = some x → (ksL l salt).take (k + 1) = (ksL l salt).take k ++ [ksLf k x.toNat (kslt salt k)]) := Lib.hid (fun k x h => ksL_take l salt k x h)
  have HLN := Lib.hid (ksL_length l salt)
  obtain ⟨i0, hi0, hz0, hz1, hz2⟩ := info_parts info_strg
  have HI := Lib.hid (And.intro hi0 (And.intro hz0 (And.intro hz1 hz2)))
  have HO0 : Hid (w0.ownsRow w0.heap.size 9 1 (.slice none 0 0) 0 (((ksL l salt).take 0).map Value.string)) := Lib.hid (World.ownsRow_nil _ _ _ _)
  generalize ksL l salt = R at *
  clear hA hT hok hsv hi0 hz0 hz1 hz2
  have z0 := (HK.out w0 (Below.refl _ _)).1
  have zl := lt_of_cell z0
  go_enter Tryz.func44, Tryz.ntmps44
  go_wp2_with fail
  clear hw0 z0 zl
  go_loopw [3, 4, 5, 9] (fun u3 _ _ u9 wr => ∃ k : Nat, k ≤ l.length ∧ u9 = .int .i64 k ∧ Below w0.heap.size w0 wr ∧ wr.ownsRow w0.heap.size 9 1 u3 k ((R.take k).map Value.string)) (fun _ _ _ u9 _ => l.length - (intOf u9).toNat)
  case atStart => exact ⟨0, Nat.zero_le _, rfl, Below.refl _ _, HO0.out⟩
  case round =>
  obtain ⟨k, hk, rfl, hb, ho⟩ := hrel
  have HBk := Lib.hid hb
  have HOk := Lib.hid ho
  have HBw := Lib.hid (below_trans HB0.out hb)
  clear hb ho
  by_cases hlt : k < l.length
  case neg =>
    obtain rfl : k = l.length := by omega
    have ho := HOk.out
    rw [List.take_of_length_le (by rw [HLN.out]; exact Nat.le_refl _)] at ho
    have HO := Lib.hid ho
    clear ho
    go_wp2
    go_ret
    exact ⟨_, rfl, row_mono HO.out HB0.out.size, HBw.out⟩
  case pos =>
  obtain ⟨x, hx⟩ := get_some l k hlt
  obtain ⟨b, off, rfl, hcell⟩ := (HA.out wr HBw.out).at_ hx
  have hcl := lt_of_cell hcell
  have hxr := HV.out k x hx
  obtain ⟨X, rfl⟩ : ∃ X : Nat, x = X := ⟨x.toNat, by omega⟩
  have HX := Lib.hid (HLT.out k X hx)
  obtain ⟨z0, z1⟩ := HK.out wr HBk.out
  have zl := lt_of_cell z0
  clear hx
  go_wp2_with fail
  refine (ksalted_any _ salt k wr hs4 (by omega) (HT.out _ HBw.out)).mono ?_
  rintro e w1 ⟨rfl, hb1⟩
  have HB1 := Lib.hid (below_trans HBk.out hb1)
  have HO1 := Lib.hid (row_below HOk.out hb1)
  clear hb1 z0 z1 zl hcell hcl
  go_wp2_with fail
  refine (kleaf_any k X (kslt salt k) w1 (by omega) (by omega) (by rw [kslt_size]; omega) (HT.out _ (below_trans HB0.out HB1.out))).mono ?_
  rintro e w2 ⟨rfl, hb2⟩
  have HB2 := Lib.hid (below_trans HB1.out hb2)
  have HO2 := Lib.hid (row_below HO1.out hb2)
  have hx' := HX.out
  rw [Int.toNat_natCast] at hx'
  have HX' := Lib.hid hx'
  clear hb2 hx'
  generalize ksLf k X (kslt salt k) = d at *
  have hsz : w0.heap.size ≤ w2.heap.size := HB2.out.size
  go_wp2_with (at_builtin; refine wpList_app _ rfl (.tmp 14) (.tmp 21) 30 30 rfl w0.heap.size 9 9 i0 _ 1 16 Tryz.underlying30 Tryz.underlying30 HI.out.1 HI.out.2.1 HI.out.2.2.1 HI.out.2.2.2 rfl (by omega) _ k _ rfl (HO2.out.alloc _) _ 1 1 [.string d] rfl (Rd_new w2 #[.string d] _ 1 1 _ rfl rfl) (by simp [Value.oneCell']) (by simp only [maxLen]; omega) (by omega) (by simp; omega) ?_)
  intro v1 w3 hown3 hg3
  have e3 : (R.map Value.string).take k ++ [.string d] = (R.take (k + 1)).map Value.string := by rw [HX'.out, List.map_append, List.map_take]; rfl
  try rw [List.map_take] at hown3
  rw [e3] at hown3
  have HB3 : Hid (Below w0.heap.size w0 w3) := Lib.hid ((below_alloc HB2.out _).grown hg3 (by simp; omega) (fun j hj => (HO2.out.lt j hj).1))
  have HOWN3 := Lib.hid hown3
  clear hown3 hg3 e3
  go_wp2
  go_roundw
  case rel => exact ⟨k + 1, by omega, by go_num, HB3.out, HOWN3.out⟩
  case measure => simp [intOf]; omega
end

section
open Go.RowKit

set_option maxHeartbeats 2000000 in
theorem kfadd_any (x : Int) (b : Bool) (w : World) (h : elemB x = b) :
    Calls Tryz.prog 87 #[.int .i64 x, .int .i64 0] w fun e w' => e = .returned (.tuple #[.int .i64 (if b then x else 0), .int .i64 (if b then 0 else 1)]) ∧ Below w.heap.size w w' := by
  have HE := Lib.hid (elements_any (some ⟨w.heap.size, 0, none⟩) 2 [x, 0] (w.alloc (.cells #[.int .i64 x, .int .i64 0] 3)) (Ints_two w _ x 0) (by simp))
  have hv : [x, 0].all elemB = b := by rw [List.all_cons, h]; cases b <;> rfl
  rw [hv] at HE
  clear hv
  cases b with
  | false =>
    clear h
    go_enter Tryz.func87, Tryz.ntmps87
    go_wp2_with fail
    refine HE.out.mono ?_
    rintro e w' ⟨rfl, rfl⟩
    go_wp2
    go_ret2
    exact ⟨rfl, below_alloc (Below.refl _ _) _⟩
  | true =>
    have hx := (elemB_iff x).1 h
    obtain ⟨h0, h1⟩ := hx
    have hm : x % 2147483647 = x := by omega
    have HM := Lib.hid hm
    clear h hm
    go_enter Tryz.func87, Tryz.ntmps87
    go_wp2_with fail
    refine HE.out.mono ?_
    rintro e w' ⟨rfl, rfl⟩
    go_wp2
    go_ret2
    refine ⟨?_, below_alloc (Below.refl _ _) _⟩
    first | rfl | (rw [Int.add_zero, HM.out]; rfl) | (simp only [Int.add_zero, HM.out]; rfl)

def dvB (l : List Int) (salt : ByteArray) (need total : Int) (random : List Int) : Bool := sdOk l salt && rdOk l.length need total random
theorem Div_cells {w w0 : World} {v s n t r : Value} (h : w.alloc (.cells #[v, s, n, t, r] 88) = w0) {W : World} (hW : Below w0.heap.size w0 W) :
    W.cell? ⟨w.heap.size, 0, none⟩ = some v ∧ W.cell? ⟨w.heap.size, 1, none⟩ = some s ∧ W.cell? ⟨w.heap.size, 2, none⟩ = some n ∧ W.cell? ⟨w.heap.size, 3, none⟩ = some t ∧ W.cell? ⟨w.heap.size, 4, none⟩ = some r ∧ w.heap.size < W.heap.size := by
  have hb : Blk w0 w.heap.size 88 #[v, s, n, t, r] := by rw [← h]; exact Blk.new w _ _ _ rfl
  have h0 := kept_cell hW (hb.of_cell (i := 0) rfl)
  exact ⟨h0, kept_cell hW (hb.of_cell (i := 1) rfl), kept_cell hW (hb.of_cell (i := 2) rfl), kept_cell hW (hb.of_cell (i := 3) rfl), kept_cell hW (hb.of_cell (i := 4) rfl), lt_of_cell h0⟩

set_option maxRecDepth 100000 in
set_option maxHeartbeats 8000000 in
theorem kdval_any (A : Option Addr) (c : Nat) (l : List Int) (salt : ByteArray) (need total : Int) (B : Option Addr) (d : Nat) (random : List Int) (w : World) (hA : Ints w A l) (hB : Ints w B random) (hl : l.length ≤ 9223372036854775807) (hs : salt.size ≤ 9223372036854775807) (hr : random.length ≤ 9223372036854775807) :
    Calls Tryz.prog 42 #[.agg #[.slice A l.length c, .string salt, .int .i64 need, .int .i64 total, .slice B random.length d]] w fun e w' => e = .returned (.bool (dvB l salt need total random)) ∧ Below w.heap.size w w' := by
  obtain ⟨w0, hw0⟩ : ∃ w0, w.alloc (.cells #[.slice A l.length c, .string salt, .int .i64 need, .int .i64 total, .slice B random.length d] 88) = w0 := ⟨_, rfl⟩
  have HB0 : Hid (Below w.heap.size w w0) := Lib.hid (by rw [← hw0]; exact below_alloc (Below.refl _ _) _)
  have HK : Hid (∀ W, Below w0.heap.size w0 W → _) := Lib.hid (fun W hW => Div_cells hw0 hW)
  have HA : Hid (∀ W, Below w.heap.size w W → Ints W A l) := Lib.hid (fun W hW => hA.below hW)
  have HB : Hid (∀ W, Below w.heap.size w W → Ints W B random) := Lib.hid (fun W hW => hB.below hW)
  have HSV : Hid (∀ W, Below w.heap.size w W → _) := Lib.hid (fun W hW => ksval_any A c l salt W (hA.below hW) hl hs)
  have HN1 : Hid (sdOk l salt = false → dvB l salt need total random = false) := Lib.hid (fun h => by unfold dvB; rw [h]; rfl)
  have HN2 : Hid (wiB total 1 7 = false → dvB l salt need total random = false) := Lib.hid (fun h => by
    have h := of_decide_eq_false h
    unfold dvB rdOk; rw [decide_eq_false (by omega)]; simp)
  have HN3 : Hid (wiB need 1 total = false → dvB l salt need total random = false) := Lib.hid (fun h => by
    have h := of_decide_eq_false h
    unfold dvB rdOk; rw [decide_eq_false (by omega)]; simp)
  have HN4 : Hid (¬ (random.length : Int) = (l.length : Int) * (need - 1) → dvB l salt need total random = false) := Lib.hid (fun h => by
    unfold dvB rdOk; rw [decide_eq_false (by omega)]; simp)
  have HN5 : Hid (random.all elemB = false → dvB l salt need total random = false) := Lib.hid (fun h => by
    unfold dvB rdOk; rw [h]; simp)
  have HY : Hid (sdOk l salt = true → wiB total 1 7 = true → wiB need 1 total = true → (random.length : Int) = (l.length : Int) * (need - 1) → random.all elemB = true → dvB l salt need total random = true) := Lib.hid (fun a b c d e => by
    have b := of_decide_eq_true b
    have c := of_decide_eq_true c
    unfold dvB rdOk; rw [a, e, decide_eq_true (by omega)]; rfl)
  have HSL : Hid (sdOk l salt = true → l.length ≤ 600) := Lib.hid (fun h => by
    simp only [sdOk, Bool.and_eq_true, decide_eq_true_eq] at h; exact h.2.2.1)
  obtain ⟨r, hrr⟩ : ∃ r, dvB l salt need total random = r := ⟨_, rfl⟩
  rw [hrr] at HN1 HN2 HN3 HN4 HN5 HY ⊢
  obtain ⟨b1, hb1⟩ : ∃ b, sdOk l salt = b := ⟨_, rfl⟩
  rw [hb1] at HSV HN1 HY HSL
  obtain ⟨b2, hb2⟩ : ∃ b, wiB total 1 7 = b := ⟨_, rfl⟩
  obtain ⟨b3, hb3⟩ : ∃ b, wiB need 1 total = b := ⟨_, rfl⟩
  rw [hb2] at HN2 HY
  rw [hb3] at HN3 HY
  have HB2 := Lib.hid hb2
  have HB3 := Lib.hid hb3
  clear hA hB hrr hb1 hb2 hb3
  obtain ⟨z0, z1, z2, z3, z4, zl⟩ := HK.out w0 (Below.refl _ _)
  go_enter Tryz.func42, Tryz.ntmps42
  go_wp2_with fail
  clear hw0 z0 z1 z2 z3 z4 zl
  refine (HSV.out w0 HB0.out).mono ?_
  rintro e w1 ⟨rfl, hb⟩
  have HX1 := Lib.hid hb
  clear hb
  obtain ⟨z0, z1, z2, z3, z4, zl⟩ := HK.out w1 HX1.out
  cases b1 with
  | false =>
    have hrf := HN1.out rfl
    subst hrf
    go_wp2
    go_ret
    exact ⟨rfl, below_trans HB0.out HX1.out⟩
  | true =>
  have hl6 := HSL.out rfl
  go_wp2_with fail
  refine (kwithin_any _ _ _ _).mono ?_
  rintro e _ ⟨rfl, rfl⟩
  rw [HB2.out]
  cases b2 with
  | false =>
    have hrf := HN2.out rfl
    subst hrf
    go_wp2
    go_ret
    exact ⟨rfl, below_trans HB0.out HX1.out⟩
  | true =>
  have ht7 := of_decide_eq_true HB2.out
  obtain ⟨ht1, ht7⟩ := ht7
  go_wp2_with fail
  refine (kwithin_any _ _ _ _).mono ?_
  rintro e _ ⟨rfl, rfl⟩
  rw [HB3.out]
  cases b3 with
  | false =>
    have hrf := HN3.out rfl
    subst hrf
    go_wp2
    go_ret
    exact ⟨rfl, below_trans HB0.out HX1.out⟩
  | true =>
  have hn7 := of_decide_eq_true HB3.out
  obtain ⟨hn1, hn7⟩ := hn7
  obtain ⟨n, hn⟩ : ∃ n : Nat, need - 1 = (n : Int) := ⟨(need - 1).toNat, by omega⟩
  have hn6 : n ≤ 6 := by omega
  have hml : l.length * n ≤ 600 * 6 := Nat.mul_le_mul hl6 hn6
  have hme : (l.length : Int) * (n : Int) = ((l.length * n : Nat) : Int) := by rw [Int.natCast_mul]
  rw [hn] at HN4 HY
  obtain ⟨q, hq⟩ : ∃ q, l.length * n = q := ⟨_, rfl⟩
  rw [hq] at hml hme
  have HME := Lib.hid hme
  rw [hme] at HN4 HY
  have hwr : IntKind.i64.wrap (q : Int) = (q : Int) := by rw [IntWalk.i64_in _ (by omega)]
  have HNE := Lib.hid hn
  clear hq
  by_cases hlen : random.length = q
  case neg =>
    have hrf := HN4.out (by omega)
    have h1 : ((random.length : Int) != (q : Int)) = true := by simp; omega
    subst hrf
    go_wp2
    go_ret
    exact ⟨rfl, below_trans HB0.out HX1.out⟩
  case pos =>
  have h1 : ((random.length : Int) != (q : Int)) = false := by simp; omega
  have HLE : Hid ((random.length : Int) = (q : Int)) := Lib.hid (by omega)
  clear hlen
  have HRL : Hid (random.length ≤ 9223372036854775807) := Lib.hid hr
  clear hwr hr
  go_wp2_with fail
  go_loopw [4, 5, 6, 42, 46, 47, 48, 49, 50, 51, 52] (fun _ _ _ u42 _ _ _ _ _ _ _ wr => ∃ k : Nat, k ≤ random.length ∧ u42 = .int .i64 k ∧ Below w0.heap.size w0 wr ∧ (random.take k).all elemB = true) (fun _ _ _ u42 _ _ _ _ _ _ _ _ => random.length - (intOf u42).toNat)
  case atStart => exact ⟨0, Nat.zero_le _, rfl, HX1.out, rfl⟩
  case round =>
  obtain ⟨k, hk, rfl, hb, hall⟩ := hrel
  have HX2 := Lib.hid hb
  have HAL := Lib.hid hall
  clear hb hall
  have hrl := HRL.out
  by_cases hlt : k < random.length
  case neg =>
    obtain rfl : k = random.length := by omega
    have hal : random.all elemB = true := by have := HAL.out; rwa [List.take_of_length_le (Nat.le_refl _)] at this
    have hrt := HY.out (by trivial) (by trivial) (by trivial) HLE.out hal
    subst hrt
    clear hal
    go_wp2
    go_ret
    exact ⟨rfl, below_trans HB0.out HX2.out⟩
  case pos =>
  obtain ⟨x, hx⟩ := get_some random k hlt
  obtain ⟨b, off, rfl, hcell⟩ := (HB.out wr (below_trans HB0.out HX2.out)).at_ hx
  have hcl := lt_of_cell hcell
  have HX := Lib.hid hx
  clear hx
  cases hxe : elemB x with
  | false =>
    have hrf := HN5.out (all_false_of elemB random k x HX.out hxe)
    subst hrf
    have HF := Lib.hid (kfadd_any x false wr hxe)
    rw [if_neg (by simp), if_neg (by simp)] at HF
    clear hxe
    go_wp2_with fail
    refine HF.out.mono ?_
    rintro e w2 ⟨rfl, hb⟩
    have HX3 := Lib.hid (below_trans HX2.out hb)
    clear hb
    go_wp2
    go_ret
    exact ⟨rfl, below_trans HB0.out HX3.out⟩
  | true =>
    have HF := Lib.hid (kfadd_any x true wr hxe)
    rw [if_pos rfl, if_pos rfl] at HF
    have hal : (random.take (k + 1)).all elemB = true := by rw [all_take_succ elemB random k x HX.out, HAL.out, hxe]; rfl
    have HAL2 := Lib.hid hal
    clear hxe hal
    go_wp2_with fail
    refine HF.out.mono ?_
    rintro e w2 ⟨rfl, hb⟩
    have HX3 := Lib.hid (below_trans HX2.out hb)
    clear hb
    go_wp2
    go_roundw
    case rel => exact ⟨k + 1, by omega, by go_num, HX3.out, HAL2.out⟩
    case measure => simp [intOf]; omega

/-- What of asks. -/
structure DivOk (l : List Int) (n m : Nat) (random : List Int) : Prop where
  few : l.length ≤ 600
  one : 1 ≤ n
  le : n ≤ m
  m7 : m ≤ 7
  len : random.length = l.length * (n - 1)
  el : random.all elemB = true
  sd : sdV l = true
theorem DivOk.of {l : List Int} {salt : ByteArray} {need total : Int} {random : List Int} (h : dvB l salt need total random = true) : ∃ n m : Nat, need = n ∧ total = m ∧ DivOk l n m random := by
  simp only [dvB, sdOk, rdOk, Bool.and_eq_true, decide_eq_true_eq] at h
  obtain ⟨⟨h1, h2, h3, h4⟩, ⟨h5, h6, h7, h8, h9⟩, h10⟩ := h
  refine ⟨need.toNat, total.toNat, by omega, by omega, h3, by omega, by omega, by omega, ?_, h10, h1⟩
  obtain ⟨n, hn⟩ : ∃ n : Nat, need - 1 = (n : Int) := ⟨(need - 1).toNat, by omega⟩
  have e : need.toNat - 1 = n := by omega
  rw [e]
  rw [hn, ← Int.natCast_mul] at h9
  omega

theorem slice_size1 (W : World) (f : Nat → Value) : (((sizeOf (Tryz.prog.elem 23)).run Tryz.prog W).andThen fun s w => .ok (f s) w) = .ok (f 1) W := by kernel_rfl

set_option maxRecDepth 100000 in
set_option maxHeartbeats 8000000 in
theorem kof_any (A : Option Addr) (c : Nat) (l : List Int) (salt : ByteArray) (n m : Nat) (B : Option Addr) (d : Nat) (random : List Int) (i : Nat) (w : World) (hA : Ints w A l) (hB : Ints w B random) (hok : DivOk l n m random) (hd : random.length ≤ d) (hd2 : d ≤ 9223372036854775807) (hi : i < l.length) :
    Calls Tryz.prog 59 #[.agg #[.slice A l.length c, .string salt, .int .i64 n, .int .i64 m, .slice B random.length d], .int .i64 i] w fun e w' => ∃ v, e = .returned v ∧ w'.ownsRow w.heap.size 48 2 v m (flat2 (kof l n m random i)) ∧ Below w.heap.size w w' := by
  obtain ⟨hf, h1, hnm, hm7, hlen, hel, hsd⟩ := hok
  obtain ⟨w0, hw0⟩ : ∃ w0, w.alloc (.cells #[.slice A l.length c, .string salt, .int .i64 n, .int .i64 m, .slice B random.length d] 88) = w0 := ⟨_, rfl⟩
  have HB0 : Hid (Below w.heap.size w w0) := Lib.hid (by rw [← hw0]; exact below_alloc (Below.refl _ _) _)
  have HK : Hid (∀ W, Below w0.heap.size w0 W → _) := Lib.hid (fun W hW => Div_cells hw0 hW)
  have HA : Hid (∀ W, Below w.heap.size w W → Ints W A l) := Lib.hid (fun W hW => hA.below hW)
  have HB : Hid (∀ W, Below w.heap.size w W → Ints W B random) := Lib.hid (fun W hW => hB.below hW)
  obtain ⟨x, hx⟩ := get_some l i hi
  have hxr := sdV_at hsd hx
  obtain ⟨k, hk⟩ : ∃ k, n - 1 = k := ⟨_, rfl⟩
  obtain ⟨q1, hq1⟩ : ∃ q, i * k = q := ⟨_, rfl⟩
  obtain ⟨q2, hq2⟩ : ∃ q, (i + 1) * k = q := ⟨_, rfl⟩
  have hq12 : q2 = q1 + k := by rw [← hq2, ← hq1, Nat.add_mul, Nat.one_mul]
  have hq2l : q2 ≤ random.length := by rw [hlen, hk, ← hq2]; exact Nat.mul_le_mul_right k hi
  have hrl6 : random.length ≤ 3600 := by rw [hlen, hk]; exact Nat.le_trans (Nat.mul_le_mul hf (show k ≤ 6 by omega)) (by omega)
  have e1 : IntKind.i64.wrap ((n : Int) - 1) = (k : Int) := by rw [IntWalk.i64_in _ (by omega)]; omega
  have e2 : IntKind.i64.wrap ((i : Int) * (k : Int)) = (q1 : Int) := by rw [← Int.natCast_mul, hq1, IntWalk.i64_in _ (by omega)]
  have e3 : IntKind.i64.wrap ((i : Int) + 1) = (i : Int) + 1 := by rw [IntWalk.i64_in _ (by omega)]
  have e4 : IntKind.i64.wrap (((i : Int) + 1) * (k : Int)) = (q2 : Int) := by rw [show ((i : Int) + 1) = ((i + 1 : Nat) : Int) by omega, ← Int.natCast_mul, hq2, IntWalk.i64_in _ (by omega)]
  obtain ⟨rs, hrs⟩ : ∃ rs, (random.drop q1).take k = rs := ⟨_, rfl⟩
  have hrsl : rs.length = k := by rw [← hrs, List.length_take, List.length_drop]; omega
  have hpo : kpoly l n random i = x :: rs := by unfold kpoly; rw [hx, hk, hq1, hrs]; rfl
  have hall : (x :: rs).all elemB = true := by
    rw [List.all_cons, ← hrs, Bool.and_eq_true]
    exact ⟨by rw [elemB_iff]; omega, by rw [List.all_eq_true] at hel ⊢; exact fun y hy => hel y (List.mem_of_mem_drop (List.mem_of_mem_take hy))⟩
  have HSP : Hid (∀ (Z : Option Addr) (cz : Nat) W, Ints W Z rs → Calls Tryz.prog 101 #[.int .i64 x, .int .i64 n, .int .i64 m, .slice Z k cz] W fun e w' => ∃ v, e = .returned (.tuple #[v, .int .i64 0]) ∧ w'.ownsRow W.heap.size 48 2 v m (flat2 (kof l n m random i)) ∧ Below W.heap.size W w') := Lib.hid (fun Z cz W hZ => by
    have := split_any x n m Z cz rs W hZ h1 hnm (by omega) (by omega) (by omega) hall
    unfold kof
    rw [hpo]
    rw [hrsl] at this
    exact this)
  have HIR : Hid (∀ (b o : Nat) W, B = some ⟨b, o, none⟩ → Below w.heap.size w W → Ints W (some ⟨b, o + q1, none⟩) rs) := Lib.hid (fun b o W hbo hW => by
    have hI := hB.below hW
    refine ⟨by simp, fun h0 => ⟨b, o + q1, rfl, fun j u hu => ?_⟩⟩
    obtain ⟨b', o', e', hc'⟩ := hI.2 (by omega)
    rw [hbo] at e'
    injection e' with e'
    injection e' with e1 e2
    subst e1 e2
    rw [Nat.add_assoc]
    apply hc'
    rw [← hrs, List.map_take, List.getElem?_take] at hu
    split at hu
    · rw [List.map_drop, List.getElem?_drop] at hu; exact hu
    · cases hu)
  obtain ⟨Z, hrun, hZI⟩ : ∃ Z : Option Addr, (∀ W, (Instr.slice 23 (.slice B random.length d) (some (.int .i64 (q1 : Int))) (some (.int .i64 (q2 : Int))) (some (.int .i64 (q2 : Int)))).run Tryz.prog W = .ok (.slice Z k k) W) ∧ ∀ W, Below w.heap.size w W → Ints W Z rs := by
    have h1 : ∀ W, (Instr.slice 23 (.slice B random.length d) (some (.int .i64 (q1 : Int))) (some (.int .i64 (q2 : Int))) (some (.int .i64 (q2 : Int)))).run Tryz.prog W = .ok (sliced B q1 q2 q2 1) W := fun W => by
      have := run_slice_lhm (P := Tryz.prog) W 23 B random.length d (by kernel_rfl) .i64 .i64 .i64 (q1 : Int) (q2 : Int) (q2 : Int) (by omega) (by omega) (by omega) (by omega)
      rw [this, Int.toNat_natCast, Int.toNat_natCast]
      exact slice_size1 W _
    by_cases hk0 : k = 0
    · refine ⟨B, fun W => ?_, fun W hW => ?_⟩
      · rw [h1 W, sliced, if_pos (by omega), show q2 - q1 = k by omega]
      · have : rs = [] := List.eq_nil_of_length_eq_zero (by omega)
        subst this
        exact Rd.nil W 1 B
    · obtain ⟨b, o, hbo, _⟩ := hB.2 (by omega)
      refine ⟨some ⟨b, o + q1, none⟩, fun W => ?_, fun W hW => HIR.out b o W hbo hW⟩
      rw [h1 W, sliced, if_neg (by omega), show q2 - q1 = k by omega, hbo, Nat.mul_one, Option.map_some, Addr.add_lit]
  have HRUN := Lib.hid hrun
  have HZI := Lib.hid hZI
  clear hrun hZI HIR hq12
  have HE1 := Lib.hid (And.intro e1 (And.intro e2 (And.intro e3 e4)))
  have HX := Lib.hid hx
  generalize kof l n m random i = R at *
  clear hA hB hel hsd hx hpo hall hrs e1 e2 e3 e4 hlen hq1 hq2 hk
  go_enter Tryz.func59, Tryz.ntmps59
  go_wp2_with fail
  clear hw0
  obtain ⟨e1, e2, e3, e4⟩ := HE1.out
  obtain ⟨z0, z1, z2, z3, z4, zl⟩ := HK.out w0 (Below.refl _ _)
  go_quiet (fail)
  clear e1 e2 e3 e4 z0 z1 z2 z3 z4 zl
  go_wp2_with fail
  obtain ⟨bA, oA, hAe⟩ : ∃ b o, A = some ⟨b, o, none⟩ := by
    obtain ⟨b, o, he, _⟩ := (HA.out w (Below.refl _ _)).at_ HX.out
    exact ⟨b, o, he⟩
  subst hAe
  refine wp_region_held_drew (S := fun W => Below w0.heap.size w0 W) (by kernel_rfl) ((below_drewN (Below.refl _ _) _).drew) (fun hS0 => ?_)
  refine wpAnyH_take (i := 0) (v := ?_) rfl (by kernel_rfl) (by kernel_rfl) (by kernel_rfl) (fun _ _ _ h => h) (Or.inl ⟨by kernel_rfl, ?hy⟩) hS0 ?rest
  case hy => (intro W hSw; clear hSw; go_simp; with_reducible rfl)
  case rest =>
  refine wpAnyH_take (i := 1) (v := ?_) rfl (by kernel_rfl) (by kernel_rfl) (by kernel_rfl) (fun _ _ _ h => h) (Or.inl ⟨by kernel_rfl, ?hy⟩) hS0 ?rest
  case hy => (intro W hSw; clear hSw; go_simp; with_reducible rfl)
  case rest =>
  refine wpAnyH_take (i := 2) (v := ?_) rfl (by kernel_rfl) (by kernel_rfl) (by kernel_rfl) (fun _ _ _ h => h) (Or.inl ⟨by kernel_rfl, ?hy⟩) hS0 ?rest
  case hy => (intro W hSw; obtain ⟨z0, z1, z2, z3, z4, zl⟩ := HK.out W hSw; clear hSw; go_simp; with_reducible rfl)
  case rest =>
  refine wpAnyH_take (i := 3) (v := ?_) rfl (by kernel_rfl) (by kernel_rfl) (by kernel_rfl) (fun _ _ _ h => h) (Or.inl ⟨by kernel_rfl, ?hy⟩) hS0 ?rest
  case hy => (intro W hSw; clear hSw; go_simp; with_reducible rfl)
  case rest =>
  refine wpAnyH_take (i := 4) (v := ?_) rfl (by kernel_rfl) (by kernel_rfl) (by kernel_rfl) (fun _ _ _ h => h) (Or.inl ⟨by kernel_rfl, ?hy⟩) hS0 ?rest
  case hy => (intro W hSw; clear hSw; go_simp; with_reducible rfl)
  case rest =>
  refine wpAnyH_take (i := 5) (v := ?_) rfl (by kernel_rfl) (by kernel_rfl) (by kernel_rfl) (fun _ _ _ h => h) (Or.inl ⟨by kernel_rfl, ?hy⟩) hS0 ?rest
  case hy => (intro W hSw; obtain ⟨b, o, he, z⟩ := (HA.out W (below_trans HB0.out hSw)).at_ HX.out; cases he; have zl := lt_of_cell z; clear hSw; go_simp; with_reducible rfl)
  case rest =>
  try go_simp
  refine wpAnyH_take (i := 6) (v := ?_) rfl (by kernel_rfl) (by kernel_rfl) (by kernel_rfl) (fun _ _ _ h => h) (Or.inl ⟨by kernel_rfl, ?hy⟩) hS0 ?rest
  case hy => (intro W hSw; clear hSw; go_simp; with_reducible rfl)
  case rest =>
  refine wpAnyH_take (i := 7) (v := ?_) rfl (by kernel_rfl) (by kernel_rfl) (by kernel_rfl) (fun _ _ _ h => h) (Or.inl ⟨by kernel_rfl, ?hy⟩) hS0 ?rest
  case hy => (intro W hSw; obtain ⟨z0, z1, z2, z3, z4, zl⟩ := HK.out W hSw; clear hSw; go_simp; with_reducible rfl)
  case rest =>
  refine wpAnyH_take (i := 8) (v := ?_) rfl (by kernel_rfl) (by kernel_rfl) (by kernel_rfl) (fun _ _ _ h => h) (Or.inl ⟨by kernel_rfl, ?hy⟩) hS0 ?rest
  case hy => (intro W hSw; clear hSw; go_simp; with_reducible rfl)
  case rest =>
  refine wpAnyH_take (i := 9) (v := ?_) rfl (by kernel_rfl) (by kernel_rfl) (by kernel_rfl) (fun _ _ _ h => h) (Or.inl ⟨by kernel_rfl, ?hy⟩) hS0 ?rest
  case hy => (intro W hSw; obtain ⟨z0, z1, z2, z3, z4, zl⟩ := HK.out W hSw; clear hSw; go_simp; with_reducible rfl)
  case rest =>
  refine wpAnyH_take (i := 10) (v := ?_) rfl (by kernel_rfl) (by kernel_rfl) (by kernel_rfl) (fun _ _ _ h => h) (Or.inl ⟨by kernel_rfl, ?hy⟩) hS0 ?rest
  case hy => (intro W hSw; clear hSw; go_simp; with_reducible rfl)
  case rest =>
  refine wpAnyH_take (i := 11) (v := ?_) rfl (by kernel_rfl) (by kernel_rfl) (by kernel_rfl) (fun _ _ _ h => h) (Or.inl ⟨by kernel_rfl, ?hy⟩) hS0 ?rest
  case hy => (intro W hSw; obtain ⟨z0, z1, z2, z3, z4, zl⟩ := HK.out W hSw; clear hSw; go_simp; with_reducible rfl)
  case rest =>
  try go_simp
  refine wpAnyH_take (i := 12) (v := ?_) rfl (by kernel_rfl) (by kernel_rfl) (by kernel_rfl) (fun _ _ _ h => h) (Or.inl ⟨by kernel_rfl, ?hy⟩) hS0 ?rest
  case hy => (intro W hSw; clear hSw; go_simp; with_reducible rfl)
  case rest =>
  refine wpAnyH_take (i := 13) (v := ?_) rfl (by kernel_rfl) (by kernel_rfl) (by kernel_rfl) (fun _ _ _ h => h) (Or.inl ⟨by kernel_rfl, ?hy⟩) hS0 ?rest
  case hy => (intro W hSw; clear hSw; go_simp; with_reducible rfl)
  case rest =>
  refine wpAnyH_take (i := 14) (v := ?_) rfl (by kernel_rfl) (by kernel_rfl) (by kernel_rfl) (fun _ _ _ h => h) (Or.inl ⟨by kernel_rfl, ?hy⟩) hS0 ?rest
  case hy => (intro W hSw; clear hSw; go_simp; with_reducible rfl)
  case rest =>
  refine wpAnyH_take (i := 15) (v := ?_) rfl (by kernel_rfl) (by kernel_rfl) (by kernel_rfl) (fun _ _ _ h => h) (Or.inl ⟨by kernel_rfl, ?hy⟩) hS0 ?rest
  case hy => (intro W hSw; have hrun := HRUN.out W; clear hSw; go_simp; with_reducible rfl)
  case rest =>
  refine wpAnyH_ready (rs := [16]) (by kernel_rfl) (by simp) ?_
  refine AllReadyH.cons rfl (fun K hK => ?_) (AllReadyH.nil)
  go_simp
  refine (HSP.out Z k _ (HZI.out _ (below_trans HB0.out hS0))).mono ?_
  rintro e wa ⟨v, rfl, ho, hb⟩
  have HOA := Lib.hid ho
  have HBA := Lib.hid (below_trans hS0 hb)
  have HSZ := Lib.hid (hS0).size
  go_simp
  refine hK.out _ _ HBA.out (fun hS1 => ?_)
  clear hK K hb ho
  refine wpAnyH_take (i := 17) (v := ?_) rfl (by kernel_rfl) (by kernel_rfl) (by kernel_rfl) (fun _ _ _ h => h) (Or.inl ⟨by kernel_rfl, ?hy⟩) hS1 ?rest
  case hy => (intro W hSw; clear hSw; go_simp; with_reducible rfl)
  case rest =>
  refine wpAnyH_take (i := 18) (v := ?_) rfl (by kernel_rfl) (by kernel_rfl) (by kernel_rfl) (fun _ _ _ h => h) (Or.inl ⟨by kernel_rfl, ?hy⟩) hS1 ?rest
  case hy => (intro W hSw; clear hSw; go_simp; with_reducible rfl)
  case rest =>
  try go_simp
  refine wpAnyH_take (i := 19) (v := ?_) rfl (by kernel_rfl) (by kernel_rfl) (by kernel_rfl) (fun _ _ _ h => h) (Or.inl ⟨by kernel_rfl, ?hy⟩) hS1 ?rest
  case hy => (intro W hSw; clear hSw; go_simp; with_reducible rfl)
  case rest =>
  refine wpAnyH_take (i := 20) (v := ?_) rfl (by kernel_rfl) (by kernel_rfl) (by kernel_rfl) (fun _ _ _ h => h) (Or.inl ⟨by kernel_rfl, ?hy⟩) hS1 ?rest
  case hy => (intro W hSw; clear hSw; go_simp; with_reducible rfl)
  case rest =>
  refine wpAnyH_take (i := 21) (v := ?_) rfl (by kernel_rfl) (by kernel_rfl) (by kernel_rfl) (fun _ _ _ h => h) (Or.inl ⟨by kernel_rfl, ?hy⟩) hS1 ?rest
  case hy => (intro W hSw; clear hSw; go_simp; with_reducible rfl)
  case rest =>
  refine wpAnyH_done (by kernel_rfl) ?_ _
  clear hS1
  go_wp2
  go_ret
  exact ⟨_, rfl, row_mono HOA.out (by have := HB0.out.size; have := HSZ.out; omega), below_trans HB0.out HBA.out⟩
theorem own_ne {w : World} {b1 b2 e1 e2 s1 s2 n1 n2 : Nat} {v1 v2 : Value} {x1 x2 : List Value} (h1 : w.ownsRow b1 e1 s1 v1 n1 x1) (h2 : w.ownsRow b2 e2 s2 v2 n2 x2) (hne : e1 ≠ e2) : v1.ownBlock = none ∨ v1.ownBlock ≠ v2.ownBlock := by
  rcases h1.2 with ⟨rfl, _⟩ | ⟨g, cap, cur, rfl, _, hg, _⟩
  · exact .inl rfl
  · right
    rcases h2.2 with ⟨rfl, _⟩ | ⟨g', cap', cur', rfl, _, hg', _⟩
    · simp [Value.ownBlock]
    · simp only [Value.ownBlock, ne_eq, Option.some.injEq]
      intro e
      subst e
      rw [hg] at hg'
      injection hg' with hg'
      injection hg' with _ ht
      exact hne ht
set_option maxHeartbeats 4000000 in
theorem kshl_any (i : Nat) (s : Int × Int) (w : World) (hi : i ≤ 1000000) (h1 : 0 ≤ s.1 ∧ s.1 ≤ 1000000000) (h2 : 0 ≤ s.2 ∧ s.2 < 2147483647) (hT : Tabs w) :
    Calls Tryz.prog 90 #[.int .i64 i, .agg #[.int .i64 s.1, .int .i64 s.2]] w fun e w' => e = .returned (.string (khLf i s)) ∧ Below w.heap.size w w' := by
  have hsz := khT_size i s (by omega) (by omega) (by omega)
  obtain ⟨x, y⟩ := s
  simp only at h1 h2
  obtain ⟨X, rfl⟩ : ∃ X : Nat, x = X := ⟨x.toNat, by omega⟩
  obtain ⟨Y, rfl⟩ : ∃ Y : Nat, y = Y := ⟨y.toNat, by omega⟩
  have hsh : khT i ((X : Int), (Y : Int)) = dec i ++ ⟨#[32]⟩ ++ dec X ++ ⟨#[32]⟩ ++ dec Y := by
    unfold khT bSp
    rw [Int.toNat_natCast, Int.toNat_natCast]
  obtain ⟨w0, hw0⟩ : ∃ w0, w.alloc (.cells #[.int .i64 (X : Int), .int .i64 (Y : Int)] 48) = w0 := ⟨_, rfl⟩
  have HB0 : Hid (Below w.heap.size w w0) := Lib.hid (by rw [← hw0]; exact below_alloc (Below.refl _ _) _)
  have HK : Hid (∀ W, Below w0.heap.size w0 W → W.cell? ⟨w.heap.size, 0, none⟩ = some (.int .i64 (X : Int)) ∧ W.cell? ⟨w.heap.size, 1, none⟩ = some (.int .i64 (Y : Int))) := Lib.hid (fun W hW => by
    have hb : Blk w0 w.heap.size 48 #[.int .i64 (X : Int), .int .i64 (Y : Int)] := by rw [← hw0]; exact Blk.new w _ _ _ rfl
    exact ⟨kept_cell hW (hb.of_cell (i := 0) rfl), kept_cell hW (hb.of_cell (i := 1) rfl)⟩)
  have HD : Hid (∀ (n : Nat) (W : World), n ≤ 9223372036854775807 → Below w0.heap.size w0 W → Calls Tryz.prog 97 #[.int .i64 (n : Int)] W fun e w' => e = .returned (.string (dec n)) ∧ Below w0.heap.size w0 w') := Lib.hid (fun n W h hW0 => by
    have hW := below_trans HB0.out hW0
    have H : Calls Tryz.prog 97 #[.int .i64 (n : Int)] W fun e w' => e = .returned (.string (dec n)) ∧ Below W.heap.size W w' := itoa_any n h W (hT.below hW)
    exact H.mono fun _ _ ⟨he, hb⟩ => ⟨he, below_trans hW0 hb⟩)
  have HLF : Hid (∀ W, Below w0.heap.size w0 W → Calls Tryz.prog 111 #[.string (khT i ((X : Int), (Y : Int)))] W fun e w' => e = .returned (.string (khLf i ((X : Int), (Y : Int)))) ∧ Below w0.heap.size w0 w') := Lib.hid (fun W hW => (leaf_any _ (by omega) W (hT.below (below_trans HB0.out hW))).mono fun _ _ ⟨he, hb⟩ => ⟨he, below_trans hW hb⟩)
  rw [hsh] at HLF
  generalize khLf i ((X : Int), (Y : Int)) = RL at *
  rw [hsh] at hsz
  have HDI := Lib.hid (fun W (hW : Below w0.heap.size w0 W) => HD.out i W (by omega) hW)
  have HDX := Lib.hid (fun W (hW : Below w0.heap.size w0 W) => HD.out X W (by omega) hW)
  have HDY := Lib.hid (fun W (hW : Below w0.heap.size w0 W) => HD.out Y W (by omega) hW)
  have HW0 := Lib.hid hw0
  clear hw0 h1 h2 hsh HD
  generalize dec i = di at *
  generalize dec X = dx at *
  generalize dec Y = dy at *
  have hz : (⟨#[32]⟩ : ByteArray).size = 1 := rfl
  simp only [ByteArray.size_append, hz] at hsz
  have s1 : ¬ 9223372036854775807 < di.size + 1 := by omega
  have s2 : ¬ 9223372036854775807 < (di ++ ⟨#[32]⟩ : ByteArray).size + dx.size := by rw [ByteArray.size_append]; omega
  have s3 : ¬ 9223372036854775807 < di.size + 1 + dx.size := by omega
  have s4 : ¬ 9223372036854775807 < (di ++ ⟨#[32]⟩ ++ dx : ByteArray).size + 1 := by rw [ByteArray.size_append, ByteArray.size_append]; omega
  have s5 : ¬ 9223372036854775807 < di.size + 1 + dx.size + 1 := by omega
  have s6 : ¬ 9223372036854775807 < (di ++ ⟨#[32]⟩ ++ dx ++ ⟨#[32]⟩ : ByteArray).size + dy.size := by rw [ByteArray.size_append, ByteArray.size_append, ByteArray.size_append]; omega
  have s7 : ¬ 9223372036854775807 < di.size + 1 + dx.size + 1 + dy.size := by omega
  clear hz
  go_enter Tryz.func90, Tryz.ntmps90
  go_wp2_with fail
  have hw0 := HW0.out
  rw [hw0]
  clear hw0
  refine wp_region_belowC (by kernel_rfl) (by kernel_rfl) (fun WQ HQS HQN => ?_)
  refine HQS.go (fun K hK => ?_)
  go_simp
  apply Exists.intro
  refine ⟨fun W hW => ?_, hK _ ?_⟩
  · (try go_simp)
    exact rfl
  clear hK K
  refine HQS.go (fun K hK => ?_)
  go_simp
  apply Exists.intro
  refine ⟨fun W hW => ?_, hK _ ?_⟩
  · exact HDI.out W hW
  clear hK K
  refine HQS.go (fun K hK => ?_)
  go_simp
  apply Exists.intro
  refine ⟨fun W hW => ?_, hK _ ?_⟩
  · (try go_simp)
    exact rfl
  clear hK K
  refine HQS.go (fun K hK => ?_)
  go_simp
  apply Exists.intro
  refine ⟨fun W hW => ?_, hK _ ?_⟩
  · (try go_simp)
    exact rfl
  clear hK K
  refine HQS.go (fun K hK => ?_)
  go_simp
  apply Exists.intro
  refine ⟨fun W hW => ?_, hK _ ?_⟩
  · obtain ⟨q1, q2⟩ := HK.out W hW
    have ql := lt_of_cell q1
    go_simp
    exact rfl
  clear hK K
  refine HQS.go (fun K hK => ?_)
  go_simp
  apply Exists.intro
  refine ⟨fun W hW => ?_, hK _ ?_⟩
  · exact HDX.out W hW
  clear hK K
  refine HQS.go (fun K hK => ?_)
  go_simp
  apply Exists.intro
  refine ⟨fun W hW => ?_, hK _ ?_⟩
  · (try go_simp)
    exact rfl
  clear hK K
  refine HQS.go (fun K hK => ?_)
  go_simp
  apply Exists.intro
  refine ⟨fun W hW => ?_, hK _ ?_⟩
  · (try go_simp)
    exact rfl
  clear hK K
  refine HQS.go (fun K hK => ?_)
  go_simp
  apply Exists.intro
  refine ⟨fun W hW => ?_, hK _ ?_⟩
  · (try go_simp)
    exact rfl
  clear hK K
  refine HQS.go (fun K hK => ?_)
  go_simp
  apply Exists.intro
  refine ⟨fun W hW => ?_, hK _ ?_⟩
  · obtain ⟨q1, q2⟩ := HK.out W hW
    have ql := lt_of_cell q1
    go_simp
    exact rfl
  clear hK K
  refine HQS.go (fun K hK => ?_)
  go_simp
  apply Exists.intro
  refine ⟨fun W hW => ?_, hK _ ?_⟩
  · exact HDY.out W hW
  clear hK K
  refine HQS.go (fun K hK => ?_)
  go_simp
  apply Exists.intro
  refine ⟨fun W hW => ?_, hK _ ?_⟩
  · (try go_simp)
    exact rfl
  clear hK K
  refine HQS.go (fun K hK => ?_)
  go_simp
  apply Exists.intro
  refine ⟨fun W hW => ?_, hK _ ?_⟩
  · exact HLF.out W hW
  clear hK K
  refine HQS.go (fun K hK => ?_)
  go_simp
  apply Exists.intro
  refine ⟨fun W hW => ?_, hK _ ?_⟩
  · (try go_simp)
    exact rfl
  clear hK K
  refine HQN.go ?_
  intro W hW
  go_wp2
  go_ret
  exact ⟨rfl, below_trans HB0.out hW⟩
theorem kof_lst (l : List Int) (n m : Nat) (random : List Int) (i j : Nat) (s : Int × Int) (h : (kof l n m random i)[j]? = some s) : (1 ≤ s.1 ∧ s.1 ≤ m) ∧ 0 ≤ s.2 ∧ s.2 < 2147483647 := by
  have hj : j < m := by have := (List.getElem?_eq_some_iff.1 h).1; rwa [kof_length] at this
  rw [kof_get l n m random i j hj] at h
  have := evp_range (kpoly l n random i) ((j : Int) + 1)
  rw [← Option.some.inj h]
  exact ⟨⟨by simp only; omega, by simp only; omega⟩, this⟩

set_option maxRecDepth 100000 in
set_option maxHeartbeats 8000000 in
theorem kkept_any (A : Option Addr) (c : Nat) (l : List Int) (salt : ByteArray) (n m : Nat) (B : Option Addr) (d : Nat) (random : List Int) (w : World) (hA : Ints w A l) (hB : Ints w B random) (hok : DivOk l n m random) (hd : random.length ≤ d) (hd2 : d ≤ 9223372036854775807) (hT : Tabs w) :
    Calls Tryz.prog 45 #[.agg #[.slice A l.length c, .string salt, .int .i64 n, .int .i64 m, .slice B random.length d]] w fun e w' => ∃ v, e = .returned v ∧ w'.ownsRow w.heap.size 9 1 v (l.length * m) ((khP l n m random l.length).map Value.string) ∧ Below w.heap.size w w' := by
  obtain ⟨w0, hw0⟩ : ∃ w0, w.alloc (.cells #[.slice A l.length c, .string salt, .int .i64 n, .int .i64 m, .slice B random.length d] 88) = w0 := ⟨_, rfl⟩
  have HB0 : Hid (Below w.heap.size w w0) := Lib.hid (by rw [← hw0]; exact below_alloc (Below.refl _ _) _)
  have HK : Hid (∀ W, Below w0.heap.size w0 W → _) := Lib.hid (fun W hW => Div_cells hw0 hW)
  have HT : Hid (∀ W, Below w.heap.size w W → Tabs W) := Lib.hid (fun W hW => hT.below hW)
  have HOF : Hid (∀ (i : Nat) W, i < l.length → Below w.heap.size w W → _) := Lib.hid (fun i W hi hW => kof_any A c l salt n m B d random i W (hA.below hW) (hB.below hW) hok hd hd2 hi)
  have HOL : Hid (∀ i, (kof l n m random i).length = m) := Lib.hid (fun i => kof_length l n m random i)
  have HOR : Hid (∀ (i j : Nat) (s : Int × Int), (kof l n m random i)[j]? = some s → (1 ≤ s.1 ∧ s.1 ≤ m) ∧ 0 ≤ s.2 ∧ s.2 < 2147483647) := Lib.hid (fun i j s h => kof_lst l n m random i j s h)
  have HP0 : Hid (khP l n m random 0 = []) := Lib.hid rfl
  have HPS : Hid (∀ i, khP l n m random (i + 1) = khP l n m random i ++ (kof l n m random i).map (khLf i)) := Lib.hid (fun i => khP_succ l n m random i)
  have hl6 := hok.few
  have hm7 := hok.m7
  have HML : Hid (∀ k j, k < l.length → j ≤ m → k * m + j ≤ 4200) := Lib.hid (fun k j hk hj => by
    have h1 : (k + 1) * m ≤ 600 * 7 := Nat.mul_le_mul (by omega) hm7
    rw [Nat.add_mul] at h1; omega)
  have HMS : Hid (∀ k, (k + 1) * m = k * m + m) := Lib.hid (fun k => by rw [Nat.add_mul, Nat.one_mul])
  obtain ⟨i0, hi0, hz0, hz1, hz2⟩ := info_parts info_strg
  have HI := Lib.hid (And.intro hi0 (And.intro hz0 (And.intro hz1 hz2)))
  have HO0 : Hid (w0.ownsRow w0.heap.size 9 1 (.slice none 0 0) (0 * m) ((khP l n m random 0).map Value.string)) := Lib.hid (by rw [Nat.zero_mul]; exact World.ownsRow_nil _ _ _ _)
  generalize khP l n m random = KP at *
  generalize kof l n m random = KO at *
  obtain ⟨z0, z1, z2, z3, z4, zl⟩ := HK.out w0 (Below.refl _ _)
  clear hA hB hok hT hi0 hz0 hz1 hz2
  go_enter Tryz.func45, Tryz.ntmps45
  go_wp2_with fail
  clear hw0 z0 z1 z2 z3 z4 zl
  go_loopw [3, 4, 6, 11, 14, 15, 16, 17, 18, 19, 20, 21, 22, 23, 24, 25, 26, 27, 28] (fun u3 _ _ u11 _ _ _ _ _ _ _ _ _ _ _ _ _ _ _ wr => ∃ k : Nat, k ≤ l.length ∧ u11 = .int .i64 k ∧ Below w0.heap.size w0 wr ∧ wr.ownsRow w0.heap.size 9 1 u3 (k * m) ((KP k).map Value.string)) (fun _ _ _ u11 _ _ _ _ _ _ _ _ _ _ _ _ _ _ _ _ => l.length - (intOf u11).toNat)
  case atStart => exact ⟨0, Nat.zero_le _, rfl, Below.refl _ _, HO0.out⟩
  case round =>
  obtain ⟨k, hk, rfl, hb, ho⟩ := hrel
  have HBk := Lib.hid hb
  have HOk := Lib.hid ho
  have HBw := Lib.hid (below_trans HB0.out hb)
  clear hb ho
  by_cases hlt : k < l.length
  case neg =>
    obtain rfl : k = l.length := by omega
    go_wp2
    go_ret
    exact ⟨_, rfl, row_mono HOk.out HB0.out.size, HBw.out⟩
  case pos =>
  obtain ⟨z0, z1, z2, z3, z4, zl⟩ := HK.out wr HBk.out
  go_wp2_with fail
  refine (HOF.out k wr hlt HBw.out).mono ?_
  rintro e w1 ⟨vS, rfl, hoS, hb1⟩
  obtain ⟨AS, cS, rfl, -, -, -⟩ := Rd.of_own hoS
  have HOS := Lib.hid hoS
  have HB1 := Lib.hid (below_trans HBk.out hb1)
  have HO1 : Hid (w1.ownsRow w0.heap.size 9 1 u3 (k * m + 0) ((KP k ++ ((KO k).take 0).map (khLf k)).map Value.string)) := Lib.hid (by
    rw [List.take_zero, List.map_nil, List.append_nil]; exact row_below HOk.out hb1)
  clear hoS hb1 z0 z1 z2 z3 z4 zl
  have hor := HOR.out k
  have hol := HOL.out k
  have HPK := Lib.hid (HPS.out k)
  have HML1 : Hid (∀ j, j ≤ m → k * m + j ≤ 4200) := Lib.hid (fun j hj => HML.out k j hlt hj)
  have HMS1 := Lib.hid (HMS.out k)
  generalize KO k = S at *
  have HSR := Lib.hid hor
  have HSL := Lib.hid hol
  obtain ⟨wo, hwo⟩ : ∃ wo : World, wo = wr := ⟨_, rfl⟩
  clear hor hol
  subst hwo
  go_wp2_with fail
  go_loopw [3, 6, 18, 20, 21, 22, 23, 24, 25, 26, 27] (fun u3 _ u18 _ _ _ _ _ _ _ _ wr => ∃ j : Nat, j ≤ m ∧ u18 = .int .i64 j ∧ Below w0.heap.size w0 wr ∧ wr.ownsRow wo.heap.size 48 2 (.slice AS m cS) m (flat2 S) ∧ wr.ownsRow w0.heap.size 9 1 u3 (k * m + j) ((KP k ++ (S.take j).map (khLf k)).map Value.string)) (fun _ _ u18 _ _ _ _ _ _ _ _ _ => m - (intOf u18).toNat)
  case atStart => exact ⟨0, Nat.zero_le _, rfl, HB1.out, HOS.out, HO1.out⟩
  case round =>
  obtain ⟨j, hj, rfl, hb, hoS, ho⟩ := hrel
  have HBj := Lib.hid hb
  have HSj := Lib.hid hoS
  have HOj := Lib.hid ho
  clear hb hoS ho
  by_cases hjm : j < m
  case neg =>
    obtain rfl : j = m := by omega
    have ho := HOj.out
    rw [List.take_of_length_le (by rw [HSL.out]; exact Nat.le_refl _), ← HPK.out, ← HMS1.out] at ho
    have HO := Lib.hid ho
    clear ho
    go_wp2
    go_roundw
    case rel => exact ⟨k + 1, by omega, by go_num, HBj.out, HO.out⟩
    case measure => simp [intOf]; omega
  case pos =>
  obtain ⟨s, hs⟩ := get_some S j (by rw [HSL.out]; exact hjm)
  obtain ⟨⟨s1, s2⟩, s3, s4⟩ := HSR.out j s hs
  obtain ⟨A', c', hv, _, _, hrd⟩ := Rd.of_own HSj.out
  obtain ⟨e1, e2, e3⟩ : AS = A' ∧ True ∧ cS = c' := by simpa using hv
  subst e1 e3
  have hpr : Prs wr AS S := by unfold Prs; rw [HSL.out]; exact hrd
  obtain ⟨bS, oS, rfl, q1, q2⟩ := hpr.at_ hs
  have ql := lt_of_cell q1
  have HTK := Lib.hid (take_snoc S j s hs)
  have hml := HML1.out (j + 1) (by omega)
  have HSH : Hid (∀ W, Below w.heap.size w W → Calls Tryz.prog 90 #[.int .i64 k, .agg #[.int .i64 s.1, .int .i64 s.2]] W fun e w' => e = .returned (.string (khLf k s)) ∧ Below W.heap.size W w') := Lib.hid (fun W hW => kshl_any k s W (by omega) (by omega) (by omega) (HT.out W hW))
  clear hs hv hrd hpr e2
  go_wp2_with fail
  refine (HSH.out _ (below_trans HB0.out (below_alloc HBj.out _))).mono ?_
  rintro e w2 ⟨rfl, hb2⟩
  have HB2 := Lib.hid (below_trans (below_alloc HBj.out _) hb2)
  have HS2 := Lib.hid (row_below (HSj.out.alloc _) hb2)
  have HO2 := Lib.hid (row_below (HOj.out.alloc _) hb2)
  clear hb2 q1 q2 ql
  generalize hdd : khLf k s = dl at *
  have HDD := Lib.hid hdd
  clear hdd
  have hsz : w0.heap.size ≤ w2.heap.size := HB2.out.size
  go_wp2_with (at_builtin; refine wpList_app _ rfl (.tmp 22) (.tmp 26) 30 30 rfl w0.heap.size 9 9 i0 _ 1 16 Tryz.underlying30 Tryz.underlying30 HI.out.1 HI.out.2.1 HI.out.2.2.1 HI.out.2.2.2 rfl (by omega) _ (k * m + j) _ rfl (HO2.out.alloc _) _ 1 1 [.string dl] rfl (Rd_new w2 #[.string dl] _ 1 1 _ rfl rfl) (by simp [Value.oneCell']) (by simp only [maxLen]; omega) (by omega) (by simp; omega) ?_)
  intro v1 w3 hown3 hg3
  have HS3 := Lib.hid ((HS2.out.alloc (.cells #[.string dl] 9)).kept hg3 (own_ne HS2.out HO2.out (by decide)))
  have HB3 : Hid (Below w0.heap.size w0 w3) := Lib.hid ((below_alloc HB2.out _).grown hg3 (by simp; omega) (fun j hj => (HO2.out.lt j hj).1))
  have hO3 : w3.ownsRow w0.heap.size 9 1 v1 (k * m + (j + 1)) ((KP k ++ (S.take (j + 1)).map (khLf k)).map Value.string) := by
    have e3 : (KP k ++ (S.take (j + 1)).map (khLf k)).map Value.string = (KP k ++ (S.take j).map (khLf k)).map Value.string ++ [.string dl] := by
      rw [HTK.out]; simp [HDD.out]
    rw [e3, show k * m + (j + 1) = k * m + j + 1 from rfl]
    first | exact hown3 | (simp only [List.map_append] at hown3 ⊢; exact hown3) | simpa using hown3
  have HO3 := Lib.hid hO3
  clear hown3 hg3 hO3
  go_wp2
  go_roundw
  case rel => exact ⟨j + 1, by omega, by go_num, HB3.out, HS3.out, HO3.out⟩
  case measure => simp [intOf]; omega
end

end Go.Proofs.YtjfondfjdhjooaaGreatDoor
