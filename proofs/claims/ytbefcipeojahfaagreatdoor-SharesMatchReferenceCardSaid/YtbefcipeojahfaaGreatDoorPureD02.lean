/- Plain laws of the joined text: it tells the list. -/
import Derived.Test.YtbefcipeojahfaaGreatDoorPureD01
import Derived.Test.YtbefcipeojahfaaGreatDoorFew01
namespace Go.Proofs.YtbefcipeojahfaaGreatDoor
open Go.RowKit

theorem dd_val (n : Nat) : (Go.Lib.decDigits n).foldl (fun v c => 10 * v + (c.toNat - 48)) 0 = n := by
  induction n using Nat.strongRecOn with
  | _ n ih =>
    rw [Go.Lib.decDigits]
    split
    · next h =>
      have : (UInt8.ofNat (48 + n)).toNat = 48 + n := by rw [UInt8.toNat_ofNat']; omega
      simp only [List.foldl_cons, List.foldl_nil, this]; omega
    · next h =>
      have : (UInt8.ofNat (48 + n % 10)).toNat = 48 + n % 10 := by rw [UInt8.toNat_ofNat']; omega
      rw [List.foldl_append, ih (n / 10) (by omega)]
      simp only [List.foldl_cons, List.foldl_nil, this]; omega
theorem dd_inj {a b : Nat} (h : Go.Lib.decDigits a = Go.Lib.decDigits b) : a = b := by
  rw [← dd_val a, h, dd_val]
theorem dd_no (n : Nat) : ∀ c ∈ Go.Lib.decDigits n, c ≠ 58 := by
  induction n using Nat.strongRecOn with
  | _ n ih =>
    intro c hc
    rw [Go.Lib.decDigits] at hc
    have key : ∀ d, d < 10 → UInt8.ofNat (48 + d) ≠ 58 := by decide
    split at hc
    · next h => rw [List.mem_singleton.1 hc]; exact key n h
    · next h =>
      rcases List.mem_append.1 hc with h1 | h1
      · exact ih (n / 10) (by omega) c h1
      · rw [List.mem_singleton.1 h1]; exact key (n % 10) (by omega)
theorem cut_eq (p q X Y : List UInt8) (hp : ∀ c ∈ p, c ≠ 58) (hq : ∀ c ∈ q, c ≠ 58) (h : p ++ 58 :: X = q ++ 58 :: Y) : p = q ∧ X = Y := by
  induction p generalizing q with
  | nil =>
    cases q with
    | nil => exact ⟨rfl, by simpa using h⟩
    | cons c q =>
      simp only [List.nil_append, List.cons_append, List.cons.injEq] at h
      exact absurd h.1.symm (hq c List.mem_cons_self)
  | cons c p ih =>
    cases q with
    | nil =>
      simp only [List.nil_append, List.cons_append, List.cons.injEq] at h
      exact absurd h.1 (hp c List.mem_cons_self)
    | cons d q =>
      simp only [List.cons_append, List.cons.injEq] at h
      obtain ⟨h1, h2⟩ := ih q (fun x hx => hp x (List.mem_cons_of_mem _ hx)) (fun x hx => hq x (List.mem_cons_of_mem _ hx)) h.2
      exact ⟨by rw [h.1, h1], h2⟩
theorem jn_cons (s : ByteArray) (l : List ByteArray) : jn (s :: l) = Go.Lib.decDigits s.size ++ 58 :: (s.data.toList ++ jn l) := by
  simp [jn, one]
theorem ba_ext {s t : ByteArray} (h : s.data.toList = t.data.toList) : s = t := by
  apply ByteArray.ext
  exact Array.toList_inj.1 h
theorem jn_inj (l m : List ByteArray) (h : jn l = jn m) : l = m := by
  induction l generalizing m with
  | nil =>
    cases m with
    | nil => rfl
    | cons t m => rw [jn_cons] at h; simp [jn] at h
  | cons s l ih =>
    cases m with
    | nil => rw [jn_cons] at h; simp [jn] at h
    | cons t m =>
      rw [jn_cons, jn_cons] at h
      obtain ⟨h1, h2⟩ := cut_eq _ _ _ _ (dd_no _) (dd_no _) h
      have hz := dd_inj h1
      obtain ⟨h3, h4⟩ := List.append_inj h2 (show s.size = t.size from hz)
      rw [ba_ext h3, ih m h4]
theorem jn_ba (l m : List ByteArray) : ((⟨(jn l).toArray⟩ : ByteArray) = ⟨(jn m).toArray⟩) ↔ l = m := by
  refine ⟨fun h => jn_inj l m ?_, fun h => by rw [h]⟩
  have := congrArg (fun x : ByteArray => x.data.toList) h
  simpa using this
/-- Lists of one element of at most 9 bytes, of the same length, of which the first 6 agree. -/
theorem lone_eq (p a b : List UInt8) (hp : p.length = 6) (hab : a.length = b.length) (ha : a.length ≤ 3) :
    dg ⟨(jn [⟨(p ++ a).toArray⟩]).toArray⟩ = dg ⟨(jn [⟨(p ++ b).toArray⟩]).toArray⟩ ↔ a = b := by
  have hz : ∀ x : List UInt8, (⟨(p ++ x).toArray⟩ : ByteArray).size = 6 + x.length := fun x => by
    show (p ++ x).length = _
    rw [List.length_append, hp]
  have hd : ∀ n, n < 10 → Go.Lib.decDigits n = [UInt8.ofNat (48 + n)] := fun n h => by rw [Go.Lib.decDigits, dif_pos h]
  have hj : ∀ x : List UInt8, x.length ≤ 3 → jn [⟨(p ++ x).toArray⟩] = (UInt8.ofNat (48 + (6 + x.length)) :: 58 :: p) ++ x ++ [] := fun x hx => by
    rw [jn_cons, hz, hd _ (by omega)]
    simp [jn]
  rw [hj a ha, hj b (by omega), hab]
  exact block_eq _ a b [] 1 (by simp [hp]) hab (by omega)

end Go.Proofs.YtbefcipeojahfaaGreatDoor
