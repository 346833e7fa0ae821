/- TopHonest: the state of w11Wins' second loop. -/
import Derived.Test.YtjfondfjdhjooaaGreatDoorChTopHonestB
namespace Go.Proofs.YtjfondfjdhjooaaGreatDoor
set_option linter.unusedVariables false
set_option linter.unusedSimpArgs false

section
open Go.RowKit

structure W2 (B : Nat) (w wr : World) (g1 g2 g3 gK gS gW : Nat) (csK : Array Value) (cs : List (ByteArray × ByteArray)) (os : List Og) (ks : List Kw) (sl ws : List Int) : Prop where
  b : Below B w wr
  c : Arw wr 29 2 g1 cs.length (cs.flatMap cmC)
  o : Arw wr 32 4 g2 os.length (os.flatMap ogC)
  k : Arw wr 33 1 g3 ks.length (ks.flatMap kwC)
  kp : Blk wr gK 27 csK
  s : Arw wr 3 1 gS sl.length (sl.map (Value.int .i64))
  ws : Arw wr 3 1 gW ws.length (ws.map (Value.int .i64))
  m : NightMem wr os ks
  ne : gS ≠ gW
  l1 : B ≤ g1
  l2 : B ≤ g2
  l3 : B ≤ g3
  lS : B ≤ gS
  lW : B ≤ gW
  hB : B ≤ wr.heap.size
theorem W2.below {B : Nat} {w wr : World} {g1 g2 g3 gK gS gW : Nat} {csK : Array Value} {cs : List (ByteArray × ByteArray)} {os : List Og} {ks : List Kw} {sl ws : List Int} (h : W2 B w wr g1 g2 g3 gK gS gW csK cs os ks sl ws) {w' : World} (hb : Below wr.heap.size wr w') : W2 B w w' g1 g2 g3 gK gS gW csK cs os ks sl ws :=
  ⟨h.b.trans (hb.mono h.hB), h.c.below hb, h.o.below hb, h.k.below hb, (hb.block _ h.kp.lt).trans h.kp, h.s.below hb, h.ws.below hb, h.m.below hb, h.ne, h.l1, h.l2, h.l3, h.lS, h.lW, Nat.le_trans h.hB hb.size⟩
theorem Arw.ofT {w : World} {e size g n : Nat} {xs : List Value} (h : Arw w e size g n xs) {gK T : Nat} {cs : Array Value} (hb : Blk w gK T cs) (hT : e ≠ T) : gK ≠ g := fun e' => by
  obtain ⟨d, hd⟩ := h.blk
  exact hb.ne_ hd (Ne.symm hT) e'
theorem W2.setS {B : Nat} {w wr : World} {g1 g2 g3 gK gS gW : Nat} {csK : Array Value} {cs : List (ByteArray × ByteArray)} {os : List Og} {ks : List Kw} {sl ws : List Int} (h : W2 B w wr g1 g2 g3 gK gS gW csK cs os ks sl ws) (j : Nat) (x : Int) : W2 B w (wr.setCell ⟨gS, j, none⟩ (.int .i64 x)) g1 g2 g3 gK gS gW csK cs os ks (sl.set j x) ws := by
  obtain ⟨c0, hc0⟩ := h.s.blk
  refine ⟨h.b.setCell (p := ⟨gS, j, none⟩) h.lS _, h.c.far (h.c.ne h.s (by decide)) _, h.o.far (h.o.ne h.s (by decide)) _, h.k.far (h.k.ne h.s (by decide)) _, h.kp.far (h.s.ofT h.kp (by decide)) _, ?_, h.ws.far (Ne.symm h.ne) _, h.m.keep (set_typed hc0 (by decide) _ _) (set_typed hc0 (by decide) _ _), h.ne, h.l1, h.l2, h.l3, h.lS, h.lW, Nat.le_trans h.hB ((Below.refl B wr).setCell (p := ⟨gS, j, none⟩) h.lS _).size⟩
  rw [List.length_set]
  exact Ints.set h.s j x
theorem W2.setW {B : Nat} {w wr : World} {g1 g2 g3 gK gS gW : Nat} {csK : Array Value} {cs : List (ByteArray × ByteArray)} {os : List Og} {ks : List Kw} {sl ws : List Int} (h : W2 B w wr g1 g2 g3 gK gS gW csK cs os ks sl ws) (j : Nat) (x : Int) : W2 B w (wr.setCell ⟨gW, j, none⟩ (.int .i64 x)) g1 g2 g3 gK gS gW csK cs os ks sl (ws.set j x) := by
  obtain ⟨c0, hc0⟩ := h.ws.blk
  refine ⟨h.b.setCell (p := ⟨gW, j, none⟩) h.lW _, h.c.far (h.c.ne h.ws (by decide)) _, h.o.far (h.o.ne h.ws (by decide)) _, h.k.far (h.k.ne h.ws (by decide)) _, h.kp.far (h.ws.ofT h.kp (by decide)) _, h.s.far h.ne _, ?_, h.m.keep (set_typed hc0 (by decide) _ _) (set_typed hc0 (by decide) _ _), h.ne, h.l1, h.l2, h.l3, h.lS, h.lW, Nat.le_trans h.hB ((Below.refl B wr).setCell (p := ⟨gW, j, none⟩) h.lW _).size⟩
  rw [List.length_set]
  exact Ints.set h.ws j x
theorem Arw.farCs {w : World} {e size g n : Nat} {xs : List Value} (h : Arw w e size g n xs) {b : Nat} (hb : g ≠ b) (o : Nat) (vs : List Value) : Arw (w.setCells b o vs) e size g n xs := h.kept (setCs_far b vs o w g hb)
theorem Blk.farCs {w : World} {g T : Nat} {cs : Array Value} (h : Blk w g T cs) {b : Nat} (hb : g ≠ b) (o : Nat) (vs : List Value) : Blk (w.setCells b o vs) g T cs := (setCs_far b vs o w g hb).trans h
theorem W2.setC {B : Nat} {w wr : World} {g1 g2 g3 gK gS gW : Nat} {csK : Array Value} {cs : List (ByteArray × ByteArray)} {os : List Og} {ks : List Kw} {sl ws : List Int} (h : W2 B w wr g1 g2 g3 gK gS gW csK cs os ks sl ws) (j : Nat) (hj : j < cs.length) (x : ByteArray × ByteArray) : W2 B w (wr.setCells g1 (j * 2) (cmC x)) g1 g2 g3 gK gS gW csK (cs.set j x) os ks sl ws := by
  obtain ⟨c0, hc0⟩ := h.c.blk
  refine ⟨below_setCsK h.b g1 h.l1 _ _, ?_, h.o.farCs (h.o.ne h.c (by decide)) _ _, h.k.farCs (h.k.ne h.c (by decide)) _ _, h.kp.farCs (h.c.ofT h.kp (by decide)) _ _, h.s.farCs (h.s.ne h.c (by decide)) _ _, h.ws.farCs (h.ws.ne h.c (by decide)) _ _, h.m.keep (setCs_typed hc0 (by decide) _ _) (setCs_typed hc0 (by decide) _ _), h.ne, h.l1, h.l2, h.l3, h.lS, h.lW, Nat.le_trans h.hB (below_setCsK (Below.refl B wr) g1 h.l1 _ _).size⟩
  rw [List.length_set, ← flatM_setAll cmC 2 cmC_len cs j x hj]
  exact Arw.setCells (cmC x) (j * 2) h.c
theorem W2.setO {B : Nat} {w wr : World} {g1 g2 g3 gK gS gW : Nat} {csK : Array Value} {cs : List (ByteArray × ByteArray)} {os : List Og} {ks : List Kw} {sl ws : List Int} (h : W2 B w wr g1 g2 g3 gK gS gW csK cs os ks sl ws) (j : Nat) (hj : j < os.length) (x : Og) (hx : PathIn wr x.A x.p ∧ x.p.length ≤ x.c) : W2 B w (wr.setCells g2 (j * 4) (ogC x)) g1 g2 g3 gK gS gW csK cs (os.set j x) ks sl ws := by
  obtain ⟨c0, hc0⟩ := h.o.blk
  have hm : NightMem wr (os.set j x) ks := ⟨fun p hp => (List.mem_or_eq_of_mem_set hp).elim (h.m.1 p) (fun e => by rw [e]; exact hx), h.m.2⟩
  refine ⟨below_setCsK h.b g2 h.l2 _ _, h.c.farCs (h.c.ne h.o (by decide)) _ _, ?_, h.k.farCs (h.k.ne h.o (by decide)) _ _, h.kp.farCs (h.o.ofT h.kp (by decide)) _ _, h.s.farCs (h.s.ne h.o (by decide)) _ _, h.ws.farCs (h.ws.ne h.o (by decide)) _ _, hm.keep (setCs_typed hc0 (by decide) _ _) (setCs_typed hc0 (by decide) _ _), h.ne, h.l1, h.l2, h.l3, h.lS, h.lW, Nat.le_trans h.hB (below_setCsK (Below.refl B wr) g2 h.l2 _ _).size⟩
  rw [List.length_set, ← flatM_setAll ogC 4 ogC_len os j x hj]
  exact Arw.setCells (ogC x) (j * 4) h.o
theorem W2.setK {B : Nat} {w wr : World} {g1 g2 g3 gK gS gW : Nat} {csK : Array Value} {cs : List (ByteArray × ByteArray)} {os : List Og} {ks : List Kw} {sl ws : List Int} (h : W2 B w wr g1 g2 g3 gK gS gW csK cs os ks sl ws) (j : Nat) (hj : j < ks.length) (x : Kw) (hx : KwT wr x) : W2 B w (wr.setCell ⟨g3, j, none⟩ (.slice x.A x.l.length x.c)) g1 g2 g3 gK gS gW csK cs os (ks.set j x) sl ws := by
  obtain ⟨c0, hc0⟩ := h.k.blk
  have hm : NightMem wr os (ks.set j x) := ⟨h.m.1, fun p hp => (List.mem_or_eq_of_mem_set hp).elim (h.m.2 p) (fun e => by rw [e]; exact hx)⟩
  refine ⟨h.b.setCell (p := ⟨g3, j, none⟩) h.l3 _, h.c.far (h.c.ne h.k (by decide)) _, h.o.far (h.o.ne h.k (by decide)) _, ?_, h.kp.far (h.k.ofT h.kp (by decide)) _, h.s.far (h.s.ne h.k (by decide)) _, h.ws.far (h.ws.ne h.k (by decide)) _, hm.keep (set_typed hc0 (by decide) _ _) (set_typed hc0 (by decide) _ _), h.ne, h.l1, h.l2, h.l3, h.lS, h.lW, Nat.le_trans h.hB ((Below.refl B wr).setCell (p := ⟨g3, j, none⟩) h.l3 _).size⟩
  have e := flatM_setAll kwC 1 kwC_len ks j x hj
  rw [Nat.mul_one] at e
  rw [List.length_set, ← e]
  exact h.k.set j _
theorem W2.drew {B : Nat} {w wr : World} {g1 g2 g3 gK gS gW : Nat} {csK : Array Value} {cs : List (ByteArray × ByteArray)} {os : List Og} {ks : List Kw} {sl ws : List Int} (h : W2 B w wr g1 g2 g3 gK gS gW csK cs os ks sl ws) : W2 B w (World.drew wr) g1 g2 g3 gK gS gW csK cs os ks sl ws :=
  ⟨h.b.drew, h.c, h.o, h.k, h.kp, h.s, h.ws, h.m, h.ne, h.l1, h.l2, h.l3, h.lS, h.lW, h.hB⟩
/-- What a draw over these rows asks for. -/
theorem W2.fit {B : Nat} {w wr : World} {g1 g2 g3 gK gS gW : Nat} {csK : Array Value} {cs : List (ByteArray × ByteArray)} {os : List Og} {ks : List Kw} {sl ws : List Int} (h : W2 B w wr g1 g2 g3 gK gS gW csK cs os ks sl ws) {l : List Kr} {need i : Int} {cl : Nat → Bool} (hc : cs = l.map (cmK l.length need)) (ho : HonOk l need.toNat i.toNat l.length cl os ks) (ha : l.all (okK l.length need i) = true) (hl : l.length ≤ 7) :
    DrFit wr (some ⟨g1, 0, none⟩) (l.map (cmK l.length need)) (some ⟨g2, 0, none⟩) os (some ⟨g3, 0, none⟩) ks := by
  have hok := List.all_eq_true.1 ha
  subst hc
  refine ⟨h.c.rd, h.o.rd, h.k.rd, fun o hom => ?_, fun a hk => ?_, by rw [List.length_map]; omega, by rw [ho.ol]; omega, by rw [ho.kl]; omega⟩
  · have hp := (h.m.1 o hom).1
    obtain ⟨j, hj⟩ := List.getElem?_of_mem hom
    have hjl : j < l.length := by have := (List.getElem?_eq_some_iff.1 hj).1; rw [ho.ol] at this; exact this
    obtain ⟨kr, hkr⟩ := get_some l j hjl
    have h1 := ho.o j kr hjl hkr
    cases hcl : cl j with
    | true =>
      rw [hcl, if_pos rfl, hj] at h1
      obtain rfl : o = zOgT := Option.some.inj h1
      exact ⟨⟨rfl, fun h => absurd h (by decide)⟩, Nat.zero_le _, fun s hs => (by cases hs), Nat.zero_le _, ⟨by decide, by decide⟩, ⟨by decide, by decide⟩⟩
    | false =>
      rw [hcl, if_neg (by decide)] at h1
      obtain ⟨A, c, he⟩ := h1
      rw [hj] at he
      cases he
      exact og_fit (hok kr (List.mem_of_getElem? hkr)) hp
  · obtain ⟨hr, -, hp⟩ := h.m.2 a hk
    obtain ⟨j, hj⟩ := List.getElem?_of_mem hk
    have hjl : j < l.length := by have := (List.getElem?_eq_some_iff.1 hj).1; rw [ho.kl] at this; exact this
    obtain ⟨kr, hkr⟩ := get_some l j hjl
    obtain ⟨a', he, hks⟩ := ho.k j kr hjl hkr
    rw [hj] at he
    cases he
    refine ⟨hr, fun k hkm => ?_, by rw [hks.1]; omega⟩
    have hpk := hp k hkm
    obtain ⟨q, A, c, hq, rfl⟩ := hks.each hkm
    exact kp_fit (hok kr (List.mem_of_getElem? hkr)) hq hpk
/-- A keeper with another seed: the rows with its entries. -/
theorem HonOk.set {l : List Kr} {n i : Nat} {cl : Nat → Bool} {os : List Og} {ks : List Kw} (h : HonOk l n i l.length cl os ks) {k : Nat} (hk : k < l.length) (y : Kr) (o : Og) (a : Kw) (ho : if cl k then o = zOgT else ∃ A c, o = ogOf y i A c) (ha : KpsOk y n l.length i l.length a.l) :
    HonOk (l.set k y) n i (l.set k y).length cl (os.set k o) (ks.set k a) := by
  have hL : (l.set k y).length = l.length := List.length_set
  rw [hL]
  refine ⟨by rw [List.length_set]; exact h.ol, by rw [List.length_set]; exact h.kl, fun q kr hq hkr => ?_, fun q kr hq hkr => ?_⟩
  · by_cases hqk : k = q
    · subst hqk
      rw [List.getElem?_set_self hk] at hkr
      cases hkr
      rw [List.getElem?_set_self (by rw [h.ol]; exact hk)]
      cases hc : cl k with
      | true => rw [hc, if_pos rfl] at ho; rw [if_pos rfl, ho]
      | false =>
        rw [hc, if_neg (by decide)] at ho
        obtain ⟨A, c, rfl⟩ := ho
        exact ⟨A, c, rfl⟩
    · rw [List.getElem?_set_ne hqk] at hkr ⊢
      exact h.o q kr hq hkr
  · rw [hL]
    by_cases hqk : k = q
    · subst hqk
      rw [List.getElem?_set_self hk] at hkr
      cases hkr
      exact ⟨a, List.getElem?_set_self (by rw [h.kl]; exact hk), ha⟩
    · rw [List.getElem?_set_ne hqk] at hkr ⊢
      exact h.k q kr hq hkr
theorem set_self_ {α : Type} (l : List α) (k : Nat) (x : α) (hx : l[k]? = some x) : l.set k x = l := by
  obtain ⟨hk, rfl⟩ := List.getElem?_eq_some_iff.1 hx
  exact List.set_getElem_self hk
end

end Go.Proofs.YtjfondfjdhjooaaGreatDoor
