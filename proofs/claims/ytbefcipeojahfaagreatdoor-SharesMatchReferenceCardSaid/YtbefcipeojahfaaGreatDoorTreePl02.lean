/- Plain words of layer 2 that the laws share; an append that is guarded. -/
import Derived.Test.YtbefcipeojahfaaGreatDoorTreeU02
import Derived.Test.YtbefcipeojahfaaGreatDoorQuietC
namespace Go.Proofs.YtbefcipeojahfaaGreatDoor
open Go.RowKit

theorem wpList_appG {P : Program} (w : World) {ops : Array Oper} {rest : List Oper} {o : Oper} {a : Act} {Q : Exit → Act → World → Prop} (hw : Region.wanted o (yielded ops a.tmps) = true) (s x : Operand) (t t2 : TypeId)
    (ho : o.op = .call { callee := .builtin .append, args := #[s, x], argTypes := #[t, t2] })
    (base : Nat) (e e2 : TypeId) (i : TypeInfo) (z : Value) (size bytes : Nat) (ht : P.underlying t = some (.slice e)) (ht2 : P.underlying t2 = some (.slice e2)) (hi : P.info? e = some i) (hz : i.zero = some z)
    (hsize : i.size = size) (hby : i.bytes = bytes) (hzs : z.cells.size = size) (hsz : 0 < size)
    (v : Value) (n : Nat) (xs : List Value) (hs : a.eval s = v) (hown : w.ownsRow base e size v n xs)
    (A : Option Addr) (m c : Nat) (news : List Value) (hx : a.eval x = .slice A m c) (hr : Rd w size A m news) (h1 : ∀ u ∈ news, u.oneCell' = true)
    (h63 : n + m ≤ maxLen) (hbytes : (n + m) * bytes ≤ 140737488355328) (hbase : base ≤ w.heap.size)
    (h : ∀ v' w', w'.ownsRow base e size v' (n + m) (xs ++ news) → w.grownBy w' v.ownBlock → wpList P ops Q rest (a.put o.dst v') w') : wpList P ops Q (o :: rest) a w := by
  refine wpList_step fun K hK => ?_
  rw [if_pos hw]
  obtain ⟨v', w', hrun, h2, h3⟩ := run_app (P := P) w base t t2 o.type e e2 i z size bytes ht ht2 hi hz hsize hby hzs hsz v n xs hown A m c news hr h1 h63 hbytes hbase
  unfold Oper.wp execOp
  simp only [ho, resolve, invoke, builtin, Sem.run_bind, Sem.run_pure, Result.andThen_ok, List.map_toArray, List.map_cons, List.map_nil, hs, hx, hrun]
  exact hK _ _ (h v' w' h2 h3)

theorem jb_small (a b : ByteArray) (ha : a.size ≤ 200) (hb : b.size ≤ 200) : (jb [bNode, a, b]).size ≤ 1000000000 := by
  have := jb3 bNode a b (by decide) ha hb
  show ((jn [bNode, a, b]).toArray).size ≤ 1000000000
  simp; omega

theorem txt_small (l : List ByteArray) (h : sm l) : ∀ s ∈ txt l, s.size ≤ 1000000000 := by
  obtain ⟨n, hn⟩ : ∃ n, l.length = n := ⟨_, rfl⟩
  induction n using Nat.strongRecOn generalizing l with
  | _ n ih =>
    by_cases h2 : 2 ≤ l.length
    · have k1 := hf_lt l.length h2
      have k2 := hf_pos l.length
      rw [txt_two l h2]
      intro s hs
      rcases List.mem_append.1 hs with h3 | h3
      · rcases List.mem_append.1 h3 with h4 | h4
        · exact ih (hf l.length) (by omega) _ (h.take _) (by rw [List.length_take]; omega) s h4
        · exact ih (l.length - hf l.length) (by omega) _ (h.drop _) (by rw [List.length_drop]) s h4
      · rw [List.mem_singleton.1 h3]
        exact jb_small _ _ (rt_size _ (h.take _)) (rt_size _ (h.drop _))
    · match l, h2 with
      | [], _ =>
        rw [txt_nil]
        intro s hs
        rw [List.mem_singleton.1 hs]
        have := jn_few [bEmpty] (by intro s hs; rw [List.mem_singleton.1 hs]; decide)
        show ((jn [bEmpty]).toArray).size ≤ 1000000000
        simp at this ⊢; omega
      | [x], _ => rw [txt_one]; intro s hs; cases hs
      | x :: y :: l, h2 => simp at h2

theorem ptx_small (n i : Nat) (s : ByteArray) (p : List ByteArray) (hp : allD p = true) (hs : s.size ≤ 200) : ∀ t ∈ ptx n i s p, t.size ≤ 1000000000 := by
  induction n using Nat.strongRecOn generalizing i p with
  | _ n ih =>
    by_cases h2 : 2 ≤ n
    · have k1 := hf_lt n h2
      have k2 := hf_pos n
      have hd : allD p.dropLast = true := by rw [List.dropLast_eq_take]; exact allD_take hp _
      intro t ht
      by_cases hi : i < hf n
      · rw [ptx_lt n i s p h2 hi] at ht
        rcases List.mem_append.1 ht with h3 | h3
        · exact ih (hf n) k1 i p.dropLast hd t h3
        · rw [List.mem_singleton.1 h3]; exact jb_small _ _ (upv_size _ _ _ _ hs) (getLastD_size p hp)
      · rw [ptx_ge n i s p h2 hi] at ht
        rcases List.mem_append.1 ht with h3 | h3
        · exact ih (n - hf n) (by omega) (i - hf n) p.dropLast hd t h3
        · rw [List.mem_singleton.1 h3]; exact jb_small _ _ (getLastD_size p hp) (upv_size _ _ _ _ hs)
    · rw [ptx_one n i s p h2]; intro t ht; cases ht

theorem chk_parts {root : ByteArray} {n i : Nat} {s : ByteArray} {p : List ByteArray} (h : chkB root (n : Int) (i : Int) s p = true) : allD p = true ∧ upv n i s p = root ∧ p.length = plen n i := by
  unfold chkB at h
  simp only [Bool.and_eq_true, decide_eq_true_eq, Int.toNat_natCast] at h
  exact ⟨h.1.1.2, h.2.1, h.2.2⟩

theorem allD_pt (l : List ByteArray) (i : Nat) (h : allD l = true) : allD (pt l i) = true := by
  obtain ⟨n, hn⟩ : ∃ n, l.length = n := ⟨_, rfl⟩
  induction n using Nat.strongRecOn generalizing l i with
  | _ n ih =>
    by_cases h2 : 2 ≤ l.length
    · have k1 := hf_lt l.length h2
      have k2 := hf_pos l.length
      by_cases hi : i < hf l.length
      · rw [pt_lt l i h2 hi]
        have h1 := ih _ (by rw [List.length_take]; omega) (l.take (hf l.length)) i (allD_take h _) rfl
        have h3 := isD_rt _ (allD_drop h (hf l.length))
        simp only [allD, List.all_append, Bool.and_eq_true] at h1 ⊢
        exact ⟨h1, by simp [h3]⟩
      · rw [pt_ge l i h2 hi]
        have h1 := ih _ (by rw [List.length_drop]; omega) (l.drop (hf l.length)) (i - hf l.length) (allD_drop h _) rfl
        have h3 := isD_rt _ (allD_take h (hf l.length))
        simp only [allD, List.all_append, Bool.and_eq_true] at h1 ⊢
        exact ⟨h1, by simp [h3]⟩
    · rw [pt_one l i h2]; rfl

theorem incl_yes (l : List ByteArray) (i : Nat) (s : ByteArray) (hD : allD l = true) (hs : l[i]? = some s) (hn : l.length ≤ 1000000) : chkB (rt l) (l.length : Int) (i : Int) s (pt l i) = true := by
  have hi : i < l.length := (List.getElem?_eq_some_iff.1 hs).1
  have hm : s ∈ l := List.mem_of_getElem? hs
  have hds : isD s = true := by simp only [allD, List.all_eq_true] at hD; exact hD s hm
  unfold chkB
  have h1 : ((l.length : Int) ≤ 1000000 ∧ (0 : Int) ≤ (i : Int) ∧ (i : Int) < (l.length : Int)) := by omega
  rw [decide_eq_true h1, allD_pt l i hD, hds, Int.toNat_natCast, Int.toNat_natCast, pt_up l i s hs, pt_len]
  simp

end Go.Proofs.YtbefcipeojahfaaGreatDoor
