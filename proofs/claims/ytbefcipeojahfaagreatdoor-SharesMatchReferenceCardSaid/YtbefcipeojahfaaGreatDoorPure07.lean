/- Plain: the string of a share; what SharesCommit says of the strings that were digested. -/
import Derived.Test.YtbefcipeojahfaaGreatDoorPureT03
import Derived.Test.YtbefcipeojahfaaGreatDoorLaid01
namespace Go.Proofs.YtbefcipeojahfaaGreatDoor
open Go.RowKit

def bSp : ByteArray := ⟨#[32]⟩
def shT (s : Int × Int) : ByteArray := dec s.1.toNat ++ bSp ++ dec s.2.toNat
def shLf (s : Int × Int) : ByteArray := lf (shT s)
def shJ (s : Int × Int) : ByteArray := jb [bLeaf, shT s]

theorem dd_no32 (n : Nat) : ∀ c ∈ Go.Lib.decDigits n, c ≠ 32 := by
  induction n using Nat.strongRecOn with
  | _ n ih =>
    intro c hc
    rw [Go.Lib.decDigits] at hc
    have key : ∀ d, d < 10 → UInt8.ofNat (48 + d) ≠ 32 := by decide
    split at hc
    · next h => rw [List.mem_singleton.1 hc]; exact key n h
    · next h =>
      rcases List.mem_append.1 hc with h1 | h1
      · exact ih (n / 10) (by omega) c h1
      · rw [List.mem_singleton.1 h1]; exact key (n % 10) (by omega)
theorem cut_eq32 (p q X Y : List UInt8) (hp : ∀ c ∈ p, c ≠ 32) (hq : ∀ c ∈ q, c ≠ 32) (h : p ++ 32 :: X = q ++ 32 :: Y) : p = q ∧ X = Y := by
  induction p generalizing q with
  | nil =>
    cases q with
    | nil => exact ⟨rfl, by simpa using h⟩
    | cons c q =>
      simp only [List.nil_append, List.cons_append, List.cons.injEq] at h
      exact absurd h.1.symm (hq c List.mem_cons_self)
  | cons c p ih =>
    cases q with
    | nil =>
      simp only [List.nil_append, List.cons_append, List.cons.injEq] at h
      exact absurd h.1 (hp c List.mem_cons_self)
    | cons d q =>
      simp only [List.cons_append, List.cons.injEq] at h
      obtain ⟨h1, h2⟩ := ih q (fun x hx => hp x (List.mem_cons_of_mem _ hx)) (fun x hx => hq x (List.mem_cons_of_mem _ hx)) h.2
      exact ⟨by rw [h.1, h1], h2⟩

theorem shT_inj (s t : Int × Int) (hs : 0 ≤ s.1 ∧ 0 ≤ s.2) (ht : 0 ≤ t.1 ∧ 0 ≤ t.2) (h : shT s = shT t) : s = t := by
  have e : ∀ u : Int × Int, (shT u).data.toList = Go.Lib.decDigits u.1.toNat ++ 32 :: Go.Lib.decDigits u.2.toNat := fun u => by
    simp [shT, dec, bSp]
  have h1 := congrArg (fun x : ByteArray => x.data.toList) h
  simp only [e] at h1
  obtain ⟨h2, h3⟩ := cut_eq32 _ _ _ _ (dd_no32 _) (dd_no32 _) h1
  have h4 := dd_inj h2
  have h5 := dd_inj h3
  exact Prod.ext (by omega) (by omega)

theorem shT_size (s : Int × Int) (h1 : s.1 ≤ 16) (h2 : s.2 < 2147483647) : (shT s).size ≤ 60 := by
  have a1 := dec_len s.1.toNat 9 (by omega)
  have a2 := dec_len s.2.toNat 9 (by omega)
  have e : (shT s).size = (Go.Lib.decDigits s.1.toNat).length + 1 + (Go.Lib.decDigits s.2.toNat).length := by
    simp [shT, dec, bSp]
    show _ = _
    rfl
  omega

theorem commit_col (L : List (Int × Int)) (j : Nat) (s t : Int × Int) (p : List ByteArray) (hs : 0 ≤ s.1 ∧ 0 ≤ s.2) (ht : 0 ≤ t.1 ∧ 0 ≤ t.2) (hj : L[j]? = some t) (hne : s ≠ t)
    (h : upv L.length j (shLf s) p = rt (L.map shLf)) : Col (L.map shJ ++ txt (L.map shLf) ++ [shJ s] ++ ptx L.length j (shLf s) p) := by
  have hb := path_bind (L.map shLf) j (shLf s) (shLf t) p (by rw [List.getElem?_map, hj]; rfl) (by rw [List.length_map]; exact h)
  rw [List.length_map] at hb
  rcases hb with hb | hb
  · refine ⟨shJ s, ?_, shJ t, ?_, ?_, hb⟩
    · exact List.mem_append.2 (.inl (List.mem_append.2 (.inr List.mem_cons_self)))
    · exact List.mem_append.2 (.inl (List.mem_append.2 (.inl (List.mem_append.2 (.inl (List.mem_map.2 ⟨t, List.mem_of_getElem? hj, rfl⟩))))))
    · intro e
      have e1 := jb_inj e
      simp only [List.cons.injEq, and_true, true_and] at e1
      exact hne (shT_inj s t hs ht e1)
  · exact hb.mono fun x hx => by
      rcases List.mem_append.1 hx with h1 | h1
      · exact List.mem_append.2 (.inl (List.mem_append.2 (.inl (List.mem_append.2 (.inr h1)))))
      · exact List.mem_append.2 (.inr h1)

end Go.Proofs.YtbefcipeojahfaaGreatDoor
